/- THE KIT of these proofs: small words for the walks. -/
import Derived.Test.YtpliondhiahhnaaProg
import Derived.Below
import Derived.Deep.Draws
import Derived.OwnWalk
import Derived.Tactics
import Derived.WalkKit
import Derived.KernelRfl
import Derived.RowKit3
import Derived.Deep.LoopGhost
import Derived.Deep.QuietTactic
import Derived.BigQuiet
import Derived.Deep.RegionHeld3
import Derived.Deep.RegionWith
import Derived.Deep.DeepCutAuto
import Derived.Test.YtpliondhiahhnaaM2
import Derived.Test.YtpliondhiahhnaaM1
import Derived.Test.YtpliondhiahhnaaM3
namespace Go.Proofs.Ytpliondhiahhnaa.K
open Go.RowKit
/-- Returns v, and what was there is as it was. -/
def Ret (v : Value) (w : World) (e : Ending) (w' : World) : Prop := e = .returned v ∧ Below w.heap.size w w'
theorem bcell {W w1 : World} (hb : Below W.heap.size W w1) : (∀ b o, b < W.heap.size → w1.cell? ⟨b, o, none⟩ = W.cell? ⟨b, o, none⟩) ∧ (∀ b o, b < W.heap.size → w1.frozen? ⟨b, o, none⟩ = W.frozen? ⟨b, o, none⟩) :=
  ⟨fun b o h => hb.cell (p := ⟨b, o, none⟩) h, fun b o h => hb.frozen (p := ⟨b, o, none⟩) h⟩
theorem bAll {W w1 : World} (hb : Below W.heap.size W w1) : (∀ b o, b < W.heap.size → w1.cell? ⟨b, o, none⟩ = W.cell? ⟨b, o, none⟩) ∧ (∀ b o, b < W.heap.size → w1.frozen? ⟨b, o, none⟩ = W.frozen? ⟨b, o, none⟩) ∧ Below W.heap.size W w1 :=
  ⟨(bcell hb).1, (bcell hb).2, hb⟩
theorem bstep {W a b : World} (h : Below W.heap.size W a) (k : Below a.heap.size a b) : Below W.heap.size W b := h.trans (k.mono h.size)
theorem bstepd {W a b : World} (h : Below W.heap.size W a) (k : Below a.drew.heap.size a.drew b) : Below W.heap.size W b := h.trans ((show Below a.heap.size a b from ⟨k.os, k.tape, k.output, k.size, k.block⟩).mono h.size)
theorem cellk {a b : World} (k : Below a.heap.size a b) {p : Addr} {v : Value} (h : a.cell? p = some v) : b.cell? p = some v := by
  rw [k.cell (World.block_lt_of_cell? _ _ h)]; exact h
theorem bkeep {W a b : World} (k : Below a.heap.size a b) (h : Below W.heap.size W a) : Below W.heap.size W b := bstep h k
theorem ret_close {v v' : Value} {w w' : World} (h : v' = v) (hb : Below w.heap.size w w') : Ret v w (.returned v') w' := ⟨by rw [h], hb⟩
theorem int_eq {k : IntKind} {a b : Int} (h : a = b) : Value.int k a = Value.int k b := by rw [h]
theorem bool_eq {a b : Bool} (h : a = b) : Value.bool a = Value.bool b := by rw [h]
theorem tup2 {a b a' b' : Value} (h1 : a = a') (h2 : b = b') : Value.tuple #[a, b] = Value.tuple #[a', b'] := by rw [h1, h2]
theorem tup3 {a b c a' b' c' : Value} (h1 : a = a') (h2 : b = b') (h3 : c = c') : Value.tuple #[a, b, c] = Value.tuple #[a', b', c'] := by rw [h1, h2, h3]
theorem drn {B : Nat} {a w : World} (h : Below B a w) (n : Nat) : Below B a (w.drewN n) := ⟨h.os, h.tape, h.output, h.size, h.block⟩
theorem blA (w : World) (o : Obj) : Below w.heap.size w (w.alloc o) := (Below.refl _ _).alloc (Nat.le_refl _) o
theorem blS {w w1 : World} {o : Obj} (h : Below (w.alloc o).heap.size (w.alloc o) w1) : Below w.heap.size w w1 := (blA w o).trans (h.mono (by simp))
/-- A format that may be. -/
structure Okf (M X : Nat) : Prop where
  m1 : 2 ≤ M
  m2 : M ≤ 52
  x1 : 2 ≤ X
  x2 : X ≤ 11
theorem heapk {a b : World} (k : Below a.heap.size a b) {g : Nat} {o : Obj} (h : a.heap[g]? = some o) : b.heap[g]? = some o := by
  rw [k.block g (Array.getElem?_eq_some_iff.1 h).1]; exact h
theorem cell_of {w : World} {g : Nat} {cs : Array Value} {t : TypeId} {fr : Nat × Nat} (h : w.heap[g]? = some (.cells cs t fr)) (i : Nat) : w.cell? ⟨g, i, none⟩ = cs[i]? := by
  simp [World.cell?, h]
theorem froz_of {w : World} {g : Nat} {cs : Array Value} {t : TypeId} (h : w.heap[g]? = some (.cells cs t (0, 0))) (i : Nat) : w.frozen? ⟨g, i, none⟩ = false := by
  simp [World.frozen?, h]
theorem hnew (w : World) (o : Obj) : (w.alloc o).heap[w.heap.size]? = some o := by
  show (w.heap.push o)[w.heap.size]? = _
  simp
theorem hold {w : World} {g : Nat} {o' : Obj} (h : w.heap[g]? = some o') (o : Obj) : (w.alloc o).heap[g]? = some o' := heapk (blA w o) h
theorem calloc {w : World} {g : Nat} (h : g < w.heap.size) (o : Obj) (i : Nat) : (w.alloc o).cell? ⟨g, i, none⟩ = w.cell? ⟨g, i, none⟩ := (bcell (blA w o)).1 g i h
theorem hset {w : World} {g : Nat} {o : Obj} (h : w.heap[g]? = some o) {p : Addr} (hne : g ≠ p.block) {u : Value} : (w.setCell p u).heap[g]? = some o := by
  rw [Below.heap_setCell _ _ _ _ hne]; exact h
/-! ### A region that draws its order, in one order: what yields in every world that meets S may be taken at once; else just one may come up. -/
section
variable {P : Program} {ops : Array Oper} {Q : Exit → Act → World → Prop} {S : World → Prop} {md : Region.Mode}
def wpSeq (P : Program) (ops : Array Oper) (Q : Exit → Act → World → Prop) (S : World → Prop) : List (Nat × Bool) → Act → World → Prop
  | [], a, w => Q .normal a w
  | (i, true) :: r, a, w => ∃ oi v, ops[i]? = some oi ∧ (∀ c a w, Q (.panic c) (a.put oi.dst v) w → Q (.panic c) a w) ∧ YieldsIf P ops S oi v a ∧ wpSeq P ops Q S r (a.put oi.dst v) w
  | (i, false) :: r, a, w => ∃ oi, ops[i]? = some oi ∧ ∀ K : Act → World → Prop, Shut (∀ a' w', S w' → (S w' → wpSeq P ops Q S r a' w') → K a' w') → if Region.wanted oi (yielded ops a.tmps) = true then Oper.wp P oi a w K Q else K (a.put oi.dst undef) w
def okSeq (md : Region.Mode) (ops : Array Oper) : Array Bool → List (Nat × Bool) → Bool
  | l, [] => Region.ready md ops l == []
  | l, (i, true) :: r => Region.free md ops l i && (Region.ready md ops l).contains i && okSeq md ops (l.setIfInBounds i true) r
  | l, (i, false) :: r => Region.ready md ops l == [i] && okSeq md ops (l.setIfInBounds i true) r
theorem seq_sound (hn : Region.noSelect ops = true) : ∀ (r : List (Nat × Bool)) (l : Array Bool) (a : Act) (w : World), okSeq md ops l r = true → S w → wpSeq P ops Q S r a w → ∀ fuel, r.length ≤ fuel → wpAnyH P md ops Q S fuel l a w
  | [], l, a, w, hok, _, h, fuel, _ => wpAnyH_done (by simpa [okSeq] using hok) h fuel
  | (i, true) :: r, l, a, w, hok, hS, h, fuel, hf => by
    obtain ⟨fuel, rfl⟩ : ∃ n, fuel = n + 1 := ⟨fuel - 1, by simp at hf; omega⟩
    simp only [okSeq, Bool.and_eq_true] at hok
    obtain ⟨⟨h1, h2⟩, h3⟩ := hok
    obtain ⟨oi, v, hi, hQ, hy, hr⟩ := h
    exact wpAnyH_take hi hn h1 h2 hQ hy hS (seq_sound hn r _ _ _ h3 hS hr fuel (by simp at hf; omega))
  | (i, false) :: r, l, a, w, hok, hS, h, fuel, hf => by
    obtain ⟨fuel, rfl⟩ : ∃ n, fuel = n + 1 := ⟨fuel - 1, by simp at hf; omega⟩
    simp only [okSeq, Bool.and_eq_true, beq_iff_eq] at hok
    obtain ⟨h1, h3⟩ := hok
    obtain ⟨oi, hi, hK⟩ := h
    refine wpAnyH_ready h1 (by simp) (AllReadyH.cons hi (fun K hK' => ?_) AllReadyH.nil)
    exact hK K (fun a' w' hS' hr => hK'.out a' w' hS' (fun hS'' => seq_sound hn r _ _ _ h3 hS' (hr hS'') fuel (by simp at hf; omega)))
theorem reg_seq {id : Nat} {a : Act} {w : World} (S : World → Prop) (r : List (Nat × Bool)) (hm : P.follows .mixedOrders = true) (hok : (Region.noSelect ops && okSeq .any ops (Array.replicate ops.size false) r && r.length == ops.size) = true) (hS : S w.drew)
    (h : S w.drew → wpSeq P ops Q S r a w.drew) : (Code.region id ops true).wp P Q a w := by
  simp only [Bool.and_eq_true, beq_iff_eq] at hok
  obtain ⟨⟨h1, h2⟩, h3⟩ := hok
  exact wp_region_held_drew (S := S) hm hS (fun hS' => seq_sound h1 r _ _ _ h2 hS' (h hS') _ (by omega))
theorem sq_take {i : Nat} {oi : Oper} {v : Value} {r : List (Nat × Bool)} {a : Act} {w : World} (hi : ops[i]? = some oi) (hQ : ∀ c a w, Q (.panic c) (a.put oi.dst v) w → Q (.panic c) a w)
    (hw : Region.wanted oi (yielded ops a.tmps) = true) (hy : ∀ w, S w → (execOp a.eval oi).run P w = .ok (.value v) w) (h : wpSeq P ops Q S r (a.put oi.dst v) w) : wpSeq P ops Q S ((i, true) :: r) a w :=
  ⟨oi, v, hi, hQ, Or.inl ⟨hw, hy⟩, h⟩
theorem sq_skip {i : Nat} {oi : Oper} {r : List (Nat × Bool)} {a : Act} {w : World} (hi : ops[i]? = some oi) (hQ : ∀ c a w, Q (.panic c) (a.put oi.dst undef) w → Q (.panic c) a w)
    (hw : Region.wanted oi (yielded ops a.tmps) = false) (h : wpSeq P ops Q S r (a.put oi.dst undef) w) : wpSeq P ops Q S ((i, true) :: r) a w :=
  ⟨oi, undef, hi, hQ, Or.inr ⟨hw, rfl⟩, h⟩
theorem sq_done {a : Act} {w : World} (h : Q .normal a w) : wpSeq P ops Q S [] a w := h
theorem sq_skipc {i : Nat} {oi : Oper} {r : List (Nat × Bool)} {a : Act} {w : World} (hi : ops[i]? = some oi) (hw : Region.wanted oi (yielded ops a.tmps) = false) (hS : S w) (h : wpSeq P ops Q S r (a.put oi.dst undef) w) : wpSeq P ops Q S ((i, false) :: r) a w :=
  ⟨oi, hi, fun K hK => by rw [if_neg (by rw [hw]; decide)]; exact hK.out _ _ hS (fun _ => h)⟩
theorem sq_call {i : Nat} {oi : Oper} {r : List (Nat × Bool)} {a : Act} {w : World} (hi : ops[i]? = some oi) (hw : Region.wanted oi (yielded ops a.tmps) = true)
    (h : ∀ K : Act → World → Prop, Shut (∀ a' w', S w' → (S w' → wpSeq P ops Q S r a' w') → K a' w') → Oper.wp P oi a w K Q) : wpSeq P ops Q S ((i, false) :: r) a w :=
  ⟨oi, hi, fun K hK => by rw [if_pos hw]; exact h K hK⟩
end

end Go.Proofs.Ytpliondhiahhnaa.K
