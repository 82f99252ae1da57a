/- THE EXECUTOR IS SOUND: a tree whose conditions hold gives the function's contract. -/
import Derived.Test.YtpliondhiahhnaaS1
import Derived.Laws.AppendOwn
import Derived.Deep.AppendLies
import Derived.Laws.OwnMore
import Derived.Laws.MakeOwn
namespace Sx
open Go Go.RowKit

/-- Slices that read as lists: a reading N, of blocks of T other than the own one. -/
structure NK (T : TypeId) (N : Option Nat → World → List Int → Value → Prop) : Prop where
  nil : ∀ ob (w : World), N ob w [] (.slice none 0 0)
  keep : ∀ ob (w w' : World) l v, N ob w l v → (∀ (b : Nat) (cs : Array Value) (fr : Nat × Nat), ob ≠ some b → w.heap[b]? = some (Obj.cells cs T fr) → w'.heap[b]? = some (Obj.cells cs T fr)) → N ob w' l v
  weak : ∀ ob (w : World) l v, N ob w l v → N none w l v
  move : ∀ ob (w w' : World) l v g, N ob w l v → (∀ (b : Nat) (cs : Array Value) (fr : Nat × Nat), ob ≠ some b → w.heap[b]? = some (Obj.cells cs T fr) → w'.heap[b]? = some (Obj.cells cs T fr)) → w.heap.size ≤ g → N (some g) w' l v
  shape : ∀ ob (w : World) l v, N ob w l v → ∃ a c, v = .slice a l.length c ∧ l.length ≤ c
  mk1 : ∀ ob (w : World) z, ob ≠ some w.heap.size → N ob (w.alloc (Obj.cells #[.int .i64 z] T)) [z] (.slice (some ⟨w.heap.size, 0, none⟩) 1 1)
  at_ : ∀ ob (w : World) l v, N ob w l v → l ≠ [] → ∃ b off c, v = .slice (some ⟨b, off, none⟩) l.length c ∧ ob ≠ some b ∧ ∃ (cs : Array Value) (fr : Nat × Nat), w.heap[b]? = some (Obj.cells cs T fr) ∧ ∀ (j : Nat) x, l[j]? = some x → cs[off + j]? = some (.int .i64 x)
  take : ∀ ob (w : World) l a c n, N ob w l (.slice a l.length c) → n ≤ l.length → N ob w (l.take n) (.slice a n c)
  own : ∀ (w : World) B v l, w.ownsRow B T 1 v l.length (l.map (Value.int .i64)) → N none w l v

/-- Blocks of T stay. -/
def Pres (T : TypeId) (ob : Option Nat) (w w' : World) : Prop := ∀ (b : Nat) (cs : Array Value) (fr : Nat × Nat), ob ≠ some b → w.heap[b]? = some (Obj.cells cs T fr) → w'.heap[b]? = some (Obj.cells cs T fr)
theorem Pres.refl (T : TypeId) (ob : Option Nat) (w : World) : Pres T ob w w := fun _ _ _ _ h => h
theorem keepB {a b : World} (k : Below a.heap.size a b) {g : Nat} {o : Obj} (h : a.heap[g]? = some o) : b.heap[g]? = some o := by
  rw [k.block g (Array.getElem?_eq_some_iff.1 h).1]; exact h
theorem Pres.below {T : TypeId} {ob : Option Nat} {a b : World} (k : Below a.heap.size a b) : Pres T ob a b := fun _ _ _ _ h => keepB k h
theorem belowA (w : World) (o : Obj) : Below w.heap.size w (w.alloc o) := (Below.refl _ _).alloc (Nat.le_refl _) o

/-- the places: of the local blocks; of the own slice -/
structure Pl where
  g : List Nat
  vo : Value
def Pl.ob (σ : Pl) : Option Nat := σ.vo.ownBlock
def nilV : Value := .slice none 0 0
def pl0 : Pl := ⟨[], nilV⟩
section
variable (N : Option Nat → World → List Int → Value → Prop)
/-- as a list reads -/
def Pw {α : Type} (R : α → Value → Prop) (l : List α) (vs : List Value) : Prop := l.length = vs.length ∧ ∀ (i : Nat) x, l[i]? = some x → ∃ v, vs[i]? = some v ∧ R x v
def Rs (σ : Pl) (w : World) : SV → Value → Prop
  | .v x, y => y = x
  | .p i off, y => ∃ b, σ.g[i]? = some b ∧ y = .pointer (some ⟨b, off, none⟩)
  | .n l, y => N σ.ob w l y
  | .en l i, y => ∃ b off c, N σ.ob w l (.slice (some ⟨b, off, none⟩) l.length c) ∧ 0 ≤ i ∧ i < l.length ∧ y = .pointer (some ⟨b, off + i.toNat, none⟩)
  | .ow, y => y = σ.vo
  | .ew i, y => ∃ b n c, σ.vo = .slice (some ⟨b, 0, none⟩) n c ∧ 0 ≤ i ∧ i < n ∧ y = .pointer (some ⟨b, i.toNat, none⟩)
  | .no, _ => True
def Ra (σ : Pl) (w : World) : AV → Value → Prop
  | .s x, y => Rs N σ w x y
  | .agg l, y => ∃ vs : Array Value, y = .agg vs ∧ Pw (Rs N σ w) l vs.toList
def Rl (σ : Pl) (w : World) : LV → Value → Prop
  | .a x, y => Ra N σ w x y
  | .tup l, y => ∃ vs : Array Value, y = .tuple vs ∧ Pw (Ra N σ w) l vs.toList
end
theorem Pw.mono {α : Type} {R R' : α → Value → Prop} {l : List α} {vs : List Value} (h : Pw R l vs) (k : ∀ x v, R x v → R' x v) : Pw R' l vs :=
  ⟨h.1, fun i x hx => let ⟨v, hv, hr⟩ := h.2 i x hx; ⟨v, hv, k _ _ hr⟩⟩
theorem Pw.mono_mem {α : Type} {R R' : α → Value → Prop} {l : List α} {vs : List Value} (h : Pw R l vs) (k : ∀ x ∈ l, ∀ v, R x v → R' x v) : Pw R' l vs :=
  ⟨h.1, fun i x hx => let ⟨v, hv, hr⟩ := h.2 i x hx; ⟨v, hv, k _ (List.mem_of_getElem? hx) _ hr⟩⟩
theorem Pw.nil {α : Type} {R : α → Value → Prop} : Pw R [] [] := ⟨rfl, fun i x h => by simp at h⟩
theorem Pw.cons {α : Type} {R : α → Value → Prop} {x : α} {v : Value} {l : List α} {vs : List Value} (h : R x v) (k : Pw R l vs) : Pw R (x :: l) (v :: vs) :=
  ⟨by simp [k.1], fun i y hy => by
    cases i with
    | zero => simp at hy; subst hy; exact ⟨v, by simp, h⟩
    | succ i => simp at hy; obtain ⟨u, hu, hr⟩ := k.2 i y hy; exact ⟨u, by simpa using hu, hr⟩⟩
theorem Pw.uncons {α : Type} {R : α → Value → Prop} {x : α} {l : List α} {vs : List Value} (h : Pw R (x :: l) vs) : ∃ v r, vs = v :: r ∧ R x v ∧ Pw R l r := by
  obtain ⟨h1, h2⟩ := h
  cases vs with
  | nil => simp at h1
  | cons v r =>
    obtain ⟨u, hu, hr⟩ := h2 0 x rfl
    simp at hu; subst hu
    exact ⟨_, _, rfl, hr, by simpa using h1, fun i y hy => h2 (i + 1) y (by simpa using hy)⟩
theorem Pw.unnil {α : Type} {R : α → Value → Prop} {vs : List Value} (h : Pw R ([] : List α) vs) : vs = [] := by
  cases vs with
  | nil => rfl
  | cons v r => have := h.1; simp at this
theorem Pw.take {α : Type} {R : α → Value → Prop} : ∀ {l : List α} {vs : List Value} (n : Nat), Pw R l vs → Pw R (l.take n) (vs.take n)
  | l, vs, 0, _ => by simp; exact Pw.nil
  | [], vs, n + 1, h => by rw [h.unnil]; simp; exact Pw.nil
  | x :: l, vs, n + 1, h => by
    obtain ⟨v, r, rfl, hr, k⟩ := h.uncons
    simp only [List.take_succ_cons]; exact Pw.cons hr (k.take n)
theorem Pw.drop {α : Type} {R : α → Value → Prop} : ∀ {l : List α} {vs : List Value} (n : Nat), Pw R l vs → Pw R (l.drop n) (vs.drop n)
  | l, vs, 0, h => h
  | [], vs, n + 1, h => by rw [h.unnil]; simp; exact Pw.nil
  | x :: l, vs, n + 1, h => by
    obtain ⟨v, r, rfl, hr, k⟩ := h.uncons
    simp only [List.drop_succ_cons]; exact k.drop n
theorem Pw.append {α : Type} {R : α → Value → Prop} : ∀ {l l' : List α} {vs vs' : List Value}, Pw R l vs → Pw R l' vs' → Pw R (l ++ l') (vs ++ vs')
  | [], l', vs, vs', h, k => by rw [h.unnil]; exact k
  | x :: l, l', vs, vs', h, k => by
    obtain ⟨v, r, rfl, hr, g⟩ := h.uncons
    exact Pw.cons hr (g.append k)
theorem Pw.get {α : Type} {R : α → Value → Prop} {l : List α} {vs : List Value} (h : Pw R l vs) {i : Nat} {x : α} (hx : l[i]? = some x) : ∃ v, vs[i]? = some v ∧ R x v := h.2 i x hx
theorem Pw.map {α β : Type} {R : α → Value → Prop} (f : β → α) (g : β → Value) : ∀ (l : List β), (∀ x ∈ l, R (f x) (g x)) → Pw R (l.map f) (l.map g)
  | [], _ => Pw.nil
  | x :: l, h => Pw.cons (h x (by simp)) (Pw.map f g l fun y hy => h y (by simp [hy]))
theorem Pw.set {α : Type} {R : α → Value → Prop} : ∀ {l : List α} {vs : List Value} (n : Nat) {x : α} {v : Value}, Pw R l vs → R x v → Pw R (l.set n x) (vs.set n v)
  | [], vs, n, x, v, h, _ => by rw [h.unnil]; exact Pw.nil
  | y :: l, vs, 0, x, v, h, hr => by
    obtain ⟨u, r, rfl, _, k⟩ := h.uncons
    exact Pw.cons hr k
  | y :: l, vs, n + 1, x, v, h, hr => by
    obtain ⟨u, r, rfl, hu, k⟩ := h.uncons
    exact Pw.cons hu (k.set n hr)

variable {T : TypeId} {N : Option Nat → World → List Int → Value → Prop}
theorem Rs.mono (hN : NK T N) {σ σ' : Pl} {w w' : World} (hs : ∀ i b : Nat, σ.g[i]? = some b → σ'.g[i]? = some b) (ho : σ'.vo = σ.vo) (hp : Pres T σ.ob w w') : ∀ {x : SV} {v : Value}, Rs N σ w x v → Rs N σ' w' x v
  | .v _, _, h => h
  | .p _ _, _, ⟨b, hb, e⟩ => ⟨b, hs _ _ hb, e⟩
  | .n _, _, h => by show N σ'.ob _ _ _; unfold Pl.ob; rw [ho]; exact hN.keep _ _ _ _ _ h hp
  | .en _ _, _, ⟨b, off, c, h, h1, h2, h3⟩ => ⟨b, off, c, by unfold Pl.ob; rw [ho]; exact hN.keep _ _ _ _ _ h hp, h1, h2, h3⟩
  | .ow, _, h => by show _ = σ'.vo; rw [ho]; exact h
  | .ew _, _, ⟨b, n, c, h1, h2⟩ => ⟨b, n, c, by rw [ho]; exact h1, h2⟩
  | .no, _, _ => trivial
theorem Ra.mono (hN : NK T N) {σ σ' : Pl} {w w' : World} (hs : ∀ i b : Nat, σ.g[i]? = some b → σ'.g[i]? = some b) (ho : σ'.vo = σ.vo) (hp : Pres T σ.ob w w') : ∀ {x : AV} {v : Value}, Ra N σ w x v → Ra N σ' w' x v
  | .s _, _, h => Rs.mono hN hs ho hp h
  | .agg _, _, ⟨vs, e, h⟩ => ⟨vs, e, h.mono fun _ _ => Rs.mono hN hs ho hp⟩
theorem Rl.mono (hN : NK T N) {σ σ' : Pl} {w w' : World} (hs : ∀ i b : Nat, σ.g[i]? = some b → σ'.g[i]? = some b) (ho : σ'.vo = σ.vo) (hp : Pres T σ.ob w w') : ∀ {x : LV} {v : Value}, Rl N σ w x v → Rl N σ' w' x v
  | .a _, _, h => Ra.mono hN hs ho hp h
  | .tup _, _, ⟨vs, e, h⟩ => ⟨vs, e, h.mono fun _ _ => Ra.mono hN hs ho hp⟩
/-- what is told of no own slice is so with another own slice -/
theorem Rs.turn {σ σ' : Pl} {w w' : World} (hs : σ'.g = σ.g) (hn : ∀ l v, N σ.ob w l v → N σ'.ob w' l v) : ∀ {x : SV} {v : Value}, Rs N σ w x v → Rs N σ' w' (kill x) v
  | .v _, _, h => h
  | .p _ _, _, ⟨b, hb, e⟩ => ⟨b, by rw [hs]; exact hb, e⟩
  | .n _, _, h => hn _ _ h
  | .en _ _, _, ⟨b, off, c, h, h3⟩ => ⟨b, off, c, hn _ _ h, h3⟩
  | .ow, _, _ => trivial
  | .ew _, _, _ => trivial
  | .no, _, _ => trivial
theorem kill_one {x : SV} (h : one' x = true) : kill x = x := by
  cases x <;> first | rfl | (simp [one'] at h)

/-- the state is told by the frame and the world -/
structure Rel (N : Option Nat → World → List Int → Value → Prop) (T : TypeId) (B : Nat) (w0 : World) (σ : Pl) (s : St) (a : Act) (w : World) : Prop where
  tsz : a.tmps.size = s.m
  tm : ∀ i : Nat, Rl N σ w (getT s.t i) (a.tmps.getD i undef)
  df : a.defers = []
  hl : σ.g.length = s.h.length
  hp : ∀ (i b : Nat) ty cs, σ.g[i]? = some b → s.h[i]? = some (ty, cs) → ∃ vs : Array Value, w.heap[b]? = some (Obj.cells vs ty (0, 0)) ∧ Pw (Rs N σ w) cs vs.toList
  inj : ∀ (i j b : Nat), σ.g[i]? = some b → σ.g[j]? = some b → i = j
  lo : ∀ (i b : Nat), σ.g[i]? = some b → B ≤ b
  nt : ∀ (i : Nat) ty cs, s.h[i]? = some (ty, cs) → ty ≠ T
  bl : Below B w0 w
  bs : B ≤ w.heap.size
  ho : ∀ (i : Nat) ty cs, s.h[i]? = some (ty, cs) → cs.all one' = true
  on : s.o = none → σ.vo = nilV
  os : ∀ l, s.o = some l → w.ownsRow B T 1 σ.vo l.length (l.map (Value.int .i64))
variable {B : Nat} {w0 : World} {σ : Pl} {s : St} {a : Act} {w : World}
theorem getT_put (s : St) (d : Tmp) (x : LV) (i : Nat) : getT (s.put (some d) x).t i = if d = i ∧ d < s.m then x else getT s.t i := by
  unfold St.put
  by_cases hd : d < s.m
  · have : Nat.blt d s.m = true := by simpa [Nat.blt_eq] using hd
    simp only [this]
    show (match Nat.beq d i with | true => x | false => getT s.t i) = _
    by_cases e : d = i
    · subst e; simp [hd]
    · have : Nat.beq d i = false := by
        cases h : Nat.beq d i with
        | false => rfl
        | true => exact absurd (Nat.eq_of_beq_eq_true h) e
      simp [this, e]
  · have : Nat.blt d s.m = false := by
      cases h : Nat.blt d s.m with
      | false => rfl
      | true => exact absurd (by simpa [Nat.blt_eq] using h) hd
    simp [this, hd]
theorem put_h (s : St) (d : Option Tmp) (x : LV) : (s.put d x).h = s.h := by
  unfold St.put; cases d with
  | none => rfl
  | some d => dsimp only; split <;> rfl
theorem put_m (s : St) (d : Option Tmp) (x : LV) : (s.put d x).m = s.m := by
  unfold St.put; cases d with
  | none => rfl
  | some d => dsimp only; split <;> rfl
theorem put_o (s : St) (d : Option Tmp) (x : LV) : (s.put d x).o = s.o := by
  unfold St.put; cases d with
  | none => rfl
  | some d => dsimp only; split <;> rfl
theorem Rel.put (R : Rel N T B w0 σ s a w) (d : Option Tmp) {x : LV} {v : Value} (h : Rl N σ w x v) : Rel N T B w0 σ (s.put d x) (a.put d v) w := by
  cases d with
  | none => exact R
  | some d =>
    refine ⟨?_, ?_, R.df, ?_, ?_, R.inj, R.lo, ?_, R.bl, R.bs, ?_, ?_, ?_⟩
    · rw [put_m, ← R.tsz]; simp [Act.put]
    · intro i
      rw [getT_put]
      have e : (a.put (some d) v).tmps.getD i undef = if d = i ∧ d < s.m then v else a.tmps.getD i undef := by
        simp only [Act.put, Array.getD_eq_getD_getElem?, Array.getElem?_setIfInBounds, R.tsz]
        by_cases e : d = i
        · subst e
          by_cases hd : d < s.m
          · simp [hd]
          · simp [hd, R.tsz]
        · simp [e]
      rw [e]
      split
      · exact h
      · exact R.tm i
    · rw [put_h]; exact R.hl
    · rw [put_h]; exact R.hp
    · rw [put_h]; exact R.nt
    · rw [put_h]; exact R.ho
    · rw [put_o]; exact R.on
    · rw [put_o]; exact R.os
/-- a slot that is told otherwise -/
theorem Rel.slot (R : Rel N T B w0 σ s a w) (d : Tmp) {x : LV} (h : Rl N σ w x (a.tmps.getD d undef)) : Rel N T B w0 σ (s.put (some d) x) a w := by
  refine ⟨by rw [put_m]; exact R.tsz, ?_, R.df, by rw [put_h]; exact R.hl, by rw [put_h]; exact R.hp, R.inj, R.lo, by rw [put_h]; exact R.nt, R.bl, R.bs, by rw [put_h]; exact R.ho, by rw [put_o]; exact R.on, by rw [put_o]; exact R.os⟩
  intro i
  rw [getT_put]
  split
  · rename_i e; rw [← e.1]; exact h
  · exact R.tm i
theorem ofV_rel (v : Value) : Rl N σ w (ofV v) v := by
  unfold ofV
  split
  · rename_i cs
    refine ⟨cs, rfl, ?_⟩
    have := Pw.map (R := Rs N σ w) SV.v id cs.toList (fun x _ => rfl)
    simpa using this
  · rfl
theorem ev_rel (R : Rel N T B w0 σ s a w) (x : Operand) : Rl N σ w (ev s x) (a.eval x) := by
  cases x with
  | tmp i => exact R.tm i
  | const v => exact ofV_rel v
  | global g => rfl
  | func f => rfl
theorem ev_rel' (R : Rel N T B w0 σ s a w) {x : Operand} {y : LV} (h : ev s x = y) : Rl N σ w y (a.eval x) := h ▸ ev_rel R x
theorem know_rel (R : Rel N T B w0 σ s a w) (c : Operand) {b : Bool} (h : a.eval c = .bool b) : Rel N T B w0 σ (s.know c b) a w := by
  cases c with
  | tmp i => exact R.slot i (x := .v (.bool b)) h
  | _ => exact R
theorem pv_run {α : Type} {P : Program} {c : Sem α} {x : α} (h : pv P c = some x) : ∀ w, c.run P w = .ok x w := by
  induction c with
  | pure a => intro w; simp only [pv, Option.some.injEq] at h; subst h; rfl
  | program k ih => intro w; exact ih P h w
  | mark m k ih => intro w; exact ih h w
  | _ => simp [pv] at h

/-- A function's contract: the arguments and the result have no local pointers. -/
def Cn (N : Option Nat → World → List Int → Value → Prop) (P : Program) (f : FuncId) (args : List LV) (r : LV) : Prop :=
  ∀ (w : World) (vs : Array Value), Pw (Rl N pl0 w) args vs.toList → Calls P f vs w (fun e w' => ∃ v, e = .returned v ∧ Rl N pl0 w' r v ∧ Below w.heap.size w w')
/-- The same of a function that the machine does itself. -/
def Xn (N : Option Nat → World → List Int → Value → Prop) (P : Program) (f : FuncId) (args : List LV) (r : LV) : Prop :=
  ∀ (w : World) (vs : Array Value), Pw (Rl N pl0 w) args vs.toList → ∃ v, (callFunc f vs).run P w = .ok (.value v) w ∧ Rl N pl0 w r v
def WT (N : Option Nat → World → List Int → Value → Prop) (P : Program) (Φ : LV → Prop) : Tr → Prop
  | .ret v => Φ v
  | .call f args r t => Cn N P f args r ∧ WT N P Φ t
  | .ext f args r t => Xn N P f args r ∧ WT N P Φ t
  | .need p t => p ∧ WT N P Φ t
  | .loop L vs o f => (∃ x, vs = L.val x ∧ L.J x ∧ o = L.own x) ∧ ∀ x rest, L.J x → WT N P Φ (f x rest)
  | .again L vs o x h1 h0 m1 m0 => (∃ y, vs = L.val y ∧ L.J y ∧ L.mu y < L.mu x ∧ o = L.own y) ∧ h1 = h0 ∧ m1 = m0
  | .both x y => WT N P Φ x ∧ WT N P Φ y
  | .bad => False
variable {P : Program} {Φ : LV → Prop}
theorem WT.br {b : Bool} {x y : Tr} (h : b = true → WT N P Φ x) (k : b = false → WT N P Φ y) : WT N P Φ (br b x y) := by
  cases b
  · exact k rfl
  · exact h rfl
theorem WT.unbr {b : Bool} {x y : Tr} (h : WT N P Φ (Sx.br b x y)) : (b = true ∧ WT N P Φ x) ∨ (b = false ∧ WT N P Φ y) := by
  cases b
  · exact .inr ⟨rfl, h⟩
  · exact .inl ⟨rfl, h⟩
theorem bin_run {op : BinOp} {t : TypeId} {xo yo : Operand} {x y : Value} {k : Value → Tr} (h : WT N P Φ (bin P op t xo yo x y k)) :
    ∃ v, WT N P Φ (k v) ∧ ∀ w, (do eqGuard op t xo yo x y; binOp op t x y : Sem Value).run P w = .ok v w := by
  unfold bin at h
  split at h
  · rcases h.unbr with ⟨_, h⟩ | ⟨hb, h⟩
    · exact h.elim
    · exact ⟨_, h, fun w => by have : ¬ _ := of_decide_eq_false hb; simp [eqGuard, binOp, Op.shift, this]⟩
  · rcases h.unbr with ⟨_, h⟩ | ⟨hb, h⟩
    · exact h.elim
    · exact ⟨_, h, fun w => by have : ¬ _ := of_decide_eq_false hb; simp [eqGuard, binOp, Op.shift, this]⟩
  · split at h
    · rename_i hk; subst hk
      rcases h.unbr with ⟨_, h⟩ | ⟨hb, h⟩
      · exact h.elim
      · exact ⟨_, h, fun w => by have : ¬ _ := of_decide_eq_false hb; simp [eqGuard, binOp, Op.intDiv, this]⟩
    · exact h.elim
  · split at h
    · rename_i hk; subst hk
      rcases h.unbr with ⟨_, h⟩ | ⟨hb, h⟩
      · exact h.elim
      · exact ⟨_, h, fun w => by have : ¬ _ := of_decide_eq_false hb; simp [eqGuard, binOp, Op.intDiv, this]⟩
    · exact h.elim
  · split at h
    · rename_i v hv; exact ⟨v, h, fun w => pv_run hv w⟩
    · exact h.elim
theorem plain_rel {x : LV} {v u : Value} (h : plain x = some v) (hr : Rl N σ w x u) : u = v := by
  unfold plain at h
  split at h
  · simp only [Option.some.injEq] at h; subst h; exact hr
  · cases h
theorem plains_rel : ∀ {l : List LV} {vs us : List Value}, plains l = some vs → Pw (Rl N σ w) l us → us = vs
  | [], vs, us, h, hr => by simp only [plains, Option.some.injEq] at h; subst h; exact hr.unnil
  | x :: l, vs, us, h, hr => by
    obtain ⟨u, r, rfl, h1, h2⟩ := hr.uncons
    simp only [plains] at h
    split at h
    · rename_i v l' e1 e2
      simp only [Option.some.injEq] at h; subst h
      rw [plain_rel e1 h1, plains_rel e2 h2]
    · cases h
/-- where an operation loads from -/
def loadsFrom (s : St) (o : Oper) : Option Nat := match o.op with
  | .load _ x => match ev s x with
    | .a (.s (.p i _)) => some i
    | _ => none
  | _ => none
/-- does an operation read another slice? -/
def loadsEn (s : St) (o : Oper) : Bool := match o.op with
  | .load _ x => match ev s x with
    | .a (.s (.en _ _)) => true
    | _ => false
  | _ => false
/-- does an operation read the own slice? -/
def loadsOwn (s : St) (o : Oper) : Bool := match o.op with
  | .load _ x => match ev s x with
    | .a (.s (.ew _)) => true
    | _ => false
  | _ => false
theorem isAg_run {t : TypeId} {b : Bool} (h : isAg P t = some b) : ∃ d, P.underlying t = some d ∧ (match d with | .struct _ | .array _ _ => true | _ => false) = b := by
  unfold isAg at h
  split at h <;> simp_all
theorem isAgg_run {t : TypeId} {b : Bool} (h : isAg P t = some b) (w : World) : (isAgg t).run P w = .ok b w := by
  obtain ⟨d, hd, hb⟩ := isAg_run h
  unfold isAgg
  rw [Sem.run_bind, run_underlying hd w]
  cases d <;> simp_all
theorem sz_run {t : TypeId} {n : Nat} (h : sz P t = some n) (w : World) : (Go.sizeOf t).run P w = .ok n w := by
  unfold sz at h
  cases hq : P.info? t with
  | none => simp [hq] at h
  | some i => simp [hq] at h; simp [Go.sizeOf, typeInfo, hq, h]

theorem tOk_run (h : tOk P T = true) : ∃ i, P.info? T = some i ∧ i.zero = some (.int .i64 0) ∧ i.size = 1 ∧ i.bytes = 8 := by
  unfold tOk at h
  split at h
  · rename_i i hi
    simp only [Bool.and_eq_true, beq_iff_eq] at h
    obtain ⟨⟨h1, h2⟩, h3⟩ := h
    split at h3
    · rename_i n hz
      have : n = 0 := by simpa using h3
      subst this
      exact ⟨i, hi, hz, h1, h2⟩
    · cases h3
  · cases h
theorem isSl_run {t : TypeId} (h : isSl P T t = true) : ∃ e, P.underlying t = some (.slice e) ∧ sz P T = some 1 ∧ e = T := by
  unfold isSl at h
  split at h
  · rename_i e he
    simp only [Bool.and_eq_true, beq_iff_eq] at h
    obtain ⟨i, hi, _, h1, _⟩ := tOk_run h.2
    exact ⟨e, he, by unfold sz; rw [hi]; simp [h1], h.1⟩
  · cases h
theorem asN_rel (hN : NK T N) {x : LV} {l : List Int} {v : Value} (h : asN s x = some l) (hr : Rl N σ w x v) (R : Rel N T B w0 σ s a w) : ∃ ad c, v = .slice ad l.length c := by
  unfold asN at h
  split at h
  · simp only [Option.some.injEq] at h; subst h
    obtain ⟨ad, c, e, _⟩ := hN.shape _ _ _ _ hr
    exact ⟨ad, c, e⟩
  · have hr : v = σ.vo := hr
    subst hr
    rcases (R.os l h).2 with ⟨h1, h2⟩ | ⟨g, c, cur, h1, _⟩
    · exact ⟨none, 0, by rw [h1, h2]⟩
    · exact ⟨_, _, h1⟩
  · simp only [Option.some.injEq] at h; subst h
    have hr : v = .slice none 0 0 := hr
    exact ⟨none, 0, hr⟩
  · cases h
theorem oneCell_cells {v : Value} (h : v.oneCell' = true) : v.cells = #[v] := by
  cases v <;> first | rfl | (simp [Value.oneCell'] at h)
theorem one_rel (hN : NK T N) {c : SV} {v : Value} (h : one' c = true) (hr : Rs N σ w c v) : v.oneCell' = true := by
  cases c with
  | v x => cases hr; exact h
  | p i off => obtain ⟨b, _, rfl⟩ := hr; rfl
  | n k => obtain ⟨a, c, rfl, _⟩ := hN.shape _ _ _ _ hr; rfl
  | _ => cases h
theorem mapM_run {α β : Type} (g : α → Sem β) (g' : α → β) : ∀ (l : List α), (∀ x ∈ l, ∀ w, (g x).run P w = .ok (g' x) w) → ∀ w, (l.mapM g).run P w = .ok (l.map g') w
  | [], _, w => by simp
  | x :: l, h, w => by simp [List.mapM_cons, h x (by simp) w, mapM_run g g' l (fun y hy => h y (by simp [hy])) w]
theorem mapMA_run {α β : Type} (g : α → Sem β) (g' : α → β) (l : Array α) (h : ∀ x ∈ l.toList, ∀ w, (g x).run P w = .ok (g' x) w) (w : World) : (l.mapM g).run P w = .ok (l.map g') w := by
  rw [Array.mapM_eq_mapM_toList, Sem.run_map, mapM_run g g' l.toList h w]
  simp only [Result.andThen_ok, ← Array.toList_map, Array.toArray_toList]
theorem fill_rel (hN : NK T N) (fs : Array Field) : ∀ (ps : List (Nat × LV)) (qs : List (Nat × Value)) (cs cs' : List SV) (vs : Array Value), ps.length = qs.length → (∀ (i : Nat) (p : Nat × LV) (q : Nat × Value), ps[i]? = some p → qs[i]? = some q → p.1 = q.1 ∧ Rl N σ w p.2 q.2) →
    fillL P fs cs ps = some cs' → Pw (Rs N σ w) cs vs.toList → ∃ vs', Instr.fill (fun i => (fs.map (fun f => (f.offset, (sz P f.type).getD 0)))[i]?) vs qs = some vs' ∧ Pw (Rs N σ w) cs' vs'.toList
  | [], [], cs, cs', vs, _, _, h, hp => by simp only [fillL, Option.some.injEq] at h; subst h; exact ⟨vs, rfl, hp⟩
  | [], q :: qs, _, _, _, hl, _, _, _ => by simp at hl
  | p :: ps, [], _, _, _, hl, _, _, _ => by simp at hl
  | (i, x) :: ps, (j, v) :: qs, cs, cs', vs, hl, hr, h, hp => by
    obtain ⟨h1, h2⟩ := hr 0 (i, x) (j, v) rfl rfl
    simp only at h1 h2; subst h1
    simp only [fillL] at h
    split at h
    · rename_i fd c hf
      split at h
      · rename_i hc
        simp only [Bool.and_eq_true, beq_iff_eq, decide_eq_true_eq] at hc
        obtain ⟨⟨h3, h4⟩, h5⟩ := hc
        have hv : v.cells = #[v] := oneCell_cells (one_rel hN h4 h2)
        have hlen : cs.length = vs.size := by rw [hp.1]; simp
        obtain ⟨vs', e, hp'⟩ := fill_rel hN fs ps qs (cs.set fd.offset c) cs' (vs.setIfInBounds fd.offset v) (by simpa using hl) (fun n p q a b => hr (n + 1) p q (by simpa using a) (by simpa using b)) h (by simpa using hp.set fd.offset h2)
        refine ⟨vs', ?_, hp'⟩
        rw [← e]
        have hsz : (fs.map (fun f => (f.offset, (sz P f.type).getD 0)))[i]? = some (fd.offset, 1) := by simp [hf, h3]
        rw [Instr.fill, hsz]
        have hlt : ¬ (fd.offset + 1 > vs.size) := by omega
        simp [hv, hlt]
      · cases h
    · cases h
/-- An operation that only reads. -/
theorem soft_sound (hN : NK T N) {C : Tab} {o : Oper} {k : St → Tr} (hs : isSoft o = true) (h : WT N P Φ (step P T C o s k)) (R : Rel N T B w0 σ s a w) :
    ∃ s' x v, WT N P Φ (k (s'.put o.dst x)) ∧ Rel N T B w0 σ s' a w ∧ Rl N σ w x v ∧ s'.h = s.h ∧
      ∀ w', (∀ i b, loadsFrom s o = some i → σ.g[i]? = some b → w'.heap[b]? = w.heap[b]?) → (loadsEn s o = true → Pres T σ.ob w w') → (loadsOwn s o = true → ∀ b, σ.ob = some b → w'.heap[b]? = w.heap[b]?) → (execOp a.eval o).run P w' = .ok (.value v) w' := by
  unfold step at h
  unfold isSoft at hs
  unfold loadsFrom loadsEn loadsOwn
  cases ho : o.op with
  | move x =>
    simp only [ho] at h
    exact ⟨s, _, _, h, R, ev_rel R x, rfl, fun w' _ _ _ => by simp [execOp, ho]⟩
  | assign x =>
    simp only [ho] at h
    exact ⟨s, _, _, h, R, ev_rel R x, rfl, fun w' _ _ _ => by simp [execOp, ho]⟩
  | pick c x y =>
    simp only [ho] at h
    split at h
    · rename_i b he
      have hc : a.eval c = .bool b := by have := ev_rel R c; rw [he] at this; exact this
      rcases h.unbr with ⟨hb, h⟩ | ⟨hb, h⟩
      · subst hb
        exact ⟨s.know c true, _, _, h, know_rel R c hc, ev_rel R x, by unfold St.know; cases c <;> simp [put_h], fun w' _ _ _ => by simp [execOp, ho, hc, asBool]⟩
      · subst hb
        exact ⟨s.know c false, _, _, h, know_rel R c hc, ev_rel R y, by unfold St.know; cases c <;> simp [put_h], fun w' _ _ _ => by simp [execOp, ho, hc, asBool]⟩
    · exact h.elim
  | extract x i =>
    simp only [ho] at h
    split at h
    · rename_i l he
      split at h
      · rename_i c hc
        obtain ⟨vs, e1, hp⟩ := (show Rl N σ w (.tup l) (a.eval x) from ev_rel' R he)
        obtain ⟨v, hv, hr⟩ := hp.get hc
        refine ⟨s, _, v, h, R, hr, rfl, fun w' _ _ _ => ?_⟩
        have hv' : vs[i]? = some v := by simpa using hv
        simp [execOp, ho, e1, Instr.extract, hv']
      · exact h.elim
    · exact h.elim
  | binOp op t x y u =>
    simp only [ho] at h
    split at h
    · rename_i p q e1 e2
      obtain ⟨v, h, hv⟩ := bin_run h
      have r1 := plain_rel e1 (ev_rel R x)
      have r2 := plain_rel e2 (ev_rel R y)
      refine ⟨s, _, v, h, R, rfl, rfl, fun w' _ _ _ => ?_⟩
      have hv := hv w'
      simp only [execOp, ho, r1, r2]
      rw [Sem.run_bind, hv]
      rfl
    · exact h.elim
  | unOp op t x =>
    simp only [ho] at h
    split at h
    · rename_i p e1
      split at h
      · rename_i v hv
        have r1 := plain_rel e1 (ev_rel R x)
        refine ⟨s, _, v, h, R, rfl, rfl, fun w' _ _ _ => ?_⟩
        simp only [execOp, ho, r1]
        rw [Sem.run_bind, pv_run hv w']
        rfl
      · exact h.elim
    · exact h.elim
  | convert t u x =>
    simp only [ho] at h
    split at h
    · rename_i p e1
      split at h
      · rename_i v hv
        have r1 := plain_rel e1 (ev_rel R x)
        refine ⟨s, _, v, h, R, rfl, rfl, fun w' _ _ _ => ?_⟩
        simp only [execOp, ho, r1]
        rw [Sem.run_bind, pv_run hv w']
        rfl
      · exact h.elim
    · exact h.elim
  | fieldAddr st x f =>
    simp only [ho] at h
    split at h
    · rename_i i off fs he hu
      split at h
      · rename_i fd hf
        split at h
        · rename_i n hn
          obtain ⟨b, hb, e1⟩ := (show Rl N σ w (.p i off) (a.eval x) from ev_rel' R he)
          refine ⟨s, _, .pointer (some ⟨b, off + fd.offset, none⟩), h, R, ⟨b, hb, rfl⟩, rfl, fun w' _ _ _ => ?_⟩
          have ha : (⟨b, off, none⟩ : Addr).add fd.offset = ⟨b, off + fd.offset, none⟩ := by unfold Addr.add; split <;> simp_all
          simp [execOp, ho, Instr.fieldAt, run_underlying hu, hf, e1, Instr.sureAddr, fieldPlace, sz_run hn, ha]
        · exact h.elim
      · exact h.elim
    · exact h.elim
  | field st x f =>
    simp only [ho] at h
    split at h
    · rename_i l fs he hu
      split at h
      · rename_i fd hf
        obtain ⟨vs, e1, hp⟩ := (show Rl N σ w (.agg l) (a.eval x) from ev_rel' R he)
        split at h
        · rename_i n hg hn
          refine ⟨s, _, .agg (vs.extract fd.offset (fd.offset + n)), h, R, ⟨_, rfl, ?_⟩, rfl, fun w' _ _ _ => ?_⟩
          · have := (hp.drop fd.offset).take n
            simpa [Array.toList_extract, List.extract_eq_take_drop] using this
          · simp [execOp, ho, Instr.field, run_underlying hu, hf, e1, asAgg, part, isAgg_run hg, sz_run hn]
        · rename_i hg
          split at h
          · rename_i c hc
            obtain ⟨v, hv, hr⟩ := hp.get hc
            have hv' : vs[fd.offset]? = some v := by simpa using hv
            refine ⟨s, _, v, h, R, hr, rfl, fun w' _ _ _ => ?_⟩
            simp [execOp, ho, Instr.field, run_underlying hu, hf, e1, asAgg, part, isAgg_run hg, hv']
          · exact h.elim
        · exact h.elim
      · exact h.elim
    · exact h.elim
  | load t x =>
    simp only [ho] at h
    split at h
    · rename_i i off he
      obtain ⟨b, hb, e1⟩ := (show Rl N σ w (.p i off) (a.eval x) from ev_rel' R he)
      split at h
      · rename_i ty cs n hh hg hn
        split at h
        · rename_i hc
          simp only [Bool.and_eq_true, beq_iff_eq] at hc
          obtain ⟨rfl, hc⟩ := hc
          obtain ⟨vs, hv, hp⟩ := R.hp i b ty cs hb hh
          refine ⟨s, _, .agg vs, h, R, ⟨vs, rfl, hp⟩, rfl, fun w' hw' _ _ => ?_⟩
          have hv' : w'.heap[b]? = some (Obj.cells vs ty (0, 0)) := by rw [hw' i b (by simp [he]) hb]; exact hv
          obtain ⟨d, hd1, hd2⟩ := isAg_run hg
          have hz : (P.info? t).map (·.size) = some vs.size := by
            have : sz P t = some n := hn
            unfold sz at this; rw [this, hc, hp.1]; simp
          have hrow := run_loadVar_row w' b ty t vs (0, 0) d hv' hd1 (by cases d <;> simp_all) hz
          simp [execOp, ho, Instr.loadAt, e1, Instr.sureAddr, hrow]
        · exact h.elim
      · rename_i ty cs hh hg
        split at h
        · rename_i c hc
          obtain ⟨vs, hv, hp⟩ := R.hp i b ty cs hb hh
          obtain ⟨v, hv2, hr⟩ := hp.get hc
          refine ⟨s, _, v, h, R, hr, rfl, fun w' hw' _ _ => ?_⟩
          have hv' : w'.heap[b]? = some (Obj.cells vs ty (0, 0)) := by rw [hw' i b (by simp [he]) hb]; exact hv
          have hcell : w'.cell? ⟨b, off, none⟩ = some v := by rw [cell_of_row w' b off vs ty (0, 0) hv']; simpa using hv2
          simp [execOp, ho, Instr.loadAt, e1, Instr.sureAddr, loadVar, isAgg_run hg, hcell]
        · exact h.elim
      · exact h.elim
    · rename_i l j he
      obtain ⟨b, off, c, hv, h0, h1, e1⟩ := (show Rl N σ w (.a (.s (.en l j))) (a.eval x) from ev_rel' R he)
      split at h
      · rename_i hg
        refine ⟨s, _, .int .i64 (l.getD j.toNat 0), h, R, rfl, rfl, fun w' _ hw2 _ => ?_⟩
        obtain ⟨b', off', c', hv', hob, cs, fr, hh, hcs⟩ := hN.at_ _ _ _ _ hv (by intro e; subst e; simp at h1; omega)
        simp only [Value.slice.injEq, Option.some.injEq, Addr.mk.injEq] at hv'
        obtain ⟨⟨rfl, rfl, _⟩, _, rfl⟩ := hv'
        have hlt : j.toNat < l.length := by omega
        have hcell : w'.cell? ⟨b, off + j.toNat, none⟩ = some (.int .i64 (l.getD j.toNat 0)) := by
          rw [cell_of_row w' b _ cs T fr (hw2 (by simp [he]) _ _ _ hob hh)]
          rw [hcs j.toNat (l.getD j.toNat 0) (by simp [List.getD, List.getElem?_eq_getElem hlt])]
        simp [execOp, ho, Instr.loadAt, e1, Instr.sureAddr, loadVar, isAgg_run hg, hcell]
      · exact h.elim
    · rename_i j he
      obtain ⟨b, n, c, hv, h0, h1, e1⟩ := (show Rl N σ w (.a (.s (.ew j))) (a.eval x) from ev_rel' R he)
      split at h
      · rename_i l hg hl
        refine ⟨s, _, .int .i64 (l.getD j.toNat 0), h, R, rfl, rfl, fun w' _ _ hw3 => ?_⟩
        have hob : σ.ob = some b := by unfold Pl.ob; rw [hv]; rfl
        have hown := R.os l hl
        rcases hown.2 with ⟨h3, _⟩ | ⟨b', c', cur, hv', hb', hh, hn1, hn2, hn3, hcur⟩
        · rw [hv] at h3; cases h3
        · rw [hv] at hv'
          simp only [Value.slice.injEq, Option.some.injEq, Addr.mk.injEq] at hv'
          obtain ⟨⟨rfl, _, _⟩, rfl, rfl⟩ := hv'
          have hlt : j.toNat < l.length := by omega
          have hcell : w'.cell? ⟨b, j.toNat, none⟩ = some (.int .i64 (l.getD j.toNat 0)) := by
            rw [cell_of_row w' b _ cur T (0, 0) (by rw [hw3 (by simp [he]) b hob]; exact hh)]
            have h5 : (cur.toList.take (l.length * 1))[j.toNat]? = some (.int .i64 (l.getD j.toNat 0)) := by
              rw [hcur, List.getElem?_map, List.getElem?_eq_getElem hlt]; simp [List.getD, List.getElem?_eq_getElem hlt]
            rw [List.getElem?_take] at h5
            split at h5
            · simpa using h5
            · cases h5
          simp [execOp, ho, Instr.loadAt, e1, Instr.sureAddr, loadVar, isAgg_run hg, hcell]
      · exact h.elim
    · exact h.elim
  | build t parts =>
    simp only [ho] at h
    split at h
    · rename_i z fs hz hu
      split at h
      · rename_i cs hcs
        split at h
        · rename_i hall
          have hps : ∀ (i : Nat) p q, (parts.toList.map fun (i, x) => (i, ev s x))[i]? = some p → (parts.toList.map fun (i, x) => (i, a.eval x))[i]? = some q → p.1 = q.1 ∧ Rl N σ w p.2 q.2 := by
            intro i p q hp hq
            rw [List.getElem?_map] at hp hq
            cases hx : parts.toList[i]? with
            | none => rw [hx] at hp; cases hp
            | some y =>
              rw [hx] at hp hq
              obtain ⟨j, y⟩ := y
              simp only [Option.map_some, Option.some.injEq] at hp hq
              subst hp hq
              exact ⟨rfl, ev_rel R y⟩
          have hz0 : Pw (Rs N σ w) (z.toList.map .v) z.toList := by
            have := Pw.map (R := Rs N σ w) SV.v id z.toList (fun x _ => rfl)
            simpa using this
          obtain ⟨vs, hv, hp⟩ := fill_rel hN fs _ _ _ _ _ (by simp) hps hcs hz0
          refine ⟨s, _, .agg vs, h, R, ⟨vs, rfl, hp⟩, rfl, fun w' _ _ _ => ?_⟩
          obtain ⟨inf, hi1, hi2⟩ : ∃ inf, P.info? t = some inf ∧ inf.zero = some (.agg z) := by
            cases hq : P.info? t with
            | none => simp [hq] at hz
            | some inf => exact ⟨inf, rfl, by simpa [hq] using hz⟩
          have hzv : (zeroValue t).run P w' = .ok (.agg z) w' := by simp [zeroValue, typeInfo, hi1, hi2]
          have hpl := mapMA_run (P := P) (fun f : Field => (do pure (f.offset, ← Go.sizeOf f.type) : Sem (Nat × Nat))) (fun f => (f.offset, (sz P f.type).getD 0)) fs (fun f hf w => by
            have := Array.all_eq_true_iff_forall_mem.1 hall f (by simpa using hf)
            obtain ⟨n, hn⟩ := Option.isSome_iff_exists.1 this
            simp [sz_run hn, hn]) w'
          have hpt : (parts.map fun (i, x) => (i, a.eval x)).toList = parts.toList.map fun (i, x) => (i, a.eval x) := by simp
          simp only [execOp, ho, Instr.build]
          simp only [Sem.run_bind, hzv, Result.andThen_ok, run_underlying hu, hpl, Value.cells, hpt]
          rw [hv]
          rfl
        · exact h.elim
      · exact h.elim
    · exact h.elim
  | call c =>
    simp only [ho] at h hs
    split at h
    · rename_i f hc; simp [hc] at hs
    · rename_i b hc
      have hargs : Pw (Rl N σ w) (c.args.toList.map (ev s)) (c.args.map a.eval).toList := by
        have := Pw.map (R := Rl N σ w) (ev s) a.eval c.args.toList (fun x _ => ev_rel R x)
        simpa using this
      split at h
      · rename_i l hl
        have hvs := plains_rel hl hargs
        split at h
        · rename_i v hv
          have hva : c.args.map a.eval = l.toArray := by rw [← hvs]
          refine ⟨s, _, v, h, R, rfl, rfl, fun w' _ _ _ => ?_⟩
          unfold mnmx at hv
          split at hv
          · simp only [execOp, ho, resolve, hc, Sem.run_bind, Sem.run_pure, Result.andThen_ok, invoke, builtin]
            rw [hva, pv_run hv w']; rfl
          · simp only [execOp, ho, resolve, hc, Sem.run_bind, Sem.run_pure, Result.andThen_ok, invoke, builtin]
            rw [hva, pv_run hv w']; rfl
          · cases hv
        · exact h.elim
      · split at h
        · rename_i x t hca hta
          split at h
          · rename_i hsl
            split at h
            · rename_i l hl
              have hva : c.args = #[x] := by rw [← Array.toList_inj, hca]
              have hvt : c.argTypes = #[t] := by rw [← Array.toList_inj, hta]
              obtain ⟨e, htu, _⟩ := isSl_run hsl
              obtain ⟨ad, cp, hv⟩ := asN_rel hN hl (ev_rel R x) R
              refine ⟨s, _, .int .i64 l.length, h, R, rfl, rfl, fun w' _ _ _ => ?_⟩
              simp [execOp, ho, resolve, hc, invoke, builtin, hva, hvt, hv, Builtin.len_, run_underlying htu, goInt]
            · exact h.elim
          · exact h.elim
        · rename_i hca hta
          simp [hc] at hs
        · exact h.elim
    · exact h.elim
  | indexAddr t x i =>
    simp only [ho] at h
    split at h
    · rename_i hsl
      obtain ⟨e, htu, hz, he⟩ := isSl_run hsl
      split at h
      · rename_i l kk j e1 e2
        have r1 := ev_rel' R e1
        have r2 := plain_rel e2 (ev_rel R i)
        rcases h.unbr with ⟨h0, h⟩ | ⟨_, h⟩
        · have h0 : 0 ≤ j := of_decide_eq_true h0
          rcases h.unbr with ⟨h1, h⟩ | ⟨_, h⟩
          · have h1 : j < l.length := of_decide_eq_true h1
            obtain ⟨b, off, c, hv, hob, cs, fr, hh, hcs⟩ := hN.at_ _ _ _ _ r1 (by intro e; subst e; simp at h1; omega)
            have r1' : N σ.ob w l (.slice (some ⟨b, off, none⟩) l.length c) := by have := r1; rw [hv] at this; exact this
            refine ⟨s, _, .pointer (some ⟨b, off + j.toNat, none⟩), h, R, ⟨b, off, c, r1', h0, h1, rfl⟩, rfl, fun w' _ _ _ => ?_⟩
            have ha : (⟨b, off, none⟩ : Addr).add (j.toNat * 1) = ⟨b, off + j.toNat, none⟩ := by rw [Nat.mul_one]; unfold Addr.add; split <;> simp_all
            have hc1 : 0 ≤ j ∧ j < (l.length : Int) := ⟨h0, h1⟩
            simp only [execOp, ho, Instr.indexAt, r2, hv, asIntOf, Sem.run_bind, Sem.run_pure, Result.andThen_ok, run_underlying htu]
            rw [if_pos hc1]
            simp only [Sem.run_bind, he, sz_run hz, Result.andThen_ok, Sem.run_pure, ha]
          · exact h.elim
        · exact h.elim
      · rename_i kk j e1 e2
        have r1 : a.eval x = σ.vo := ev_rel' R e1
        have r2 := plain_rel e2 (ev_rel R i)
        split at h
        · rename_i l hl
          rcases h.unbr with ⟨h0, h⟩ | ⟨_, h⟩
          · have h0 : 0 ≤ j := of_decide_eq_true h0
            rcases h.unbr with ⟨h1, h⟩ | ⟨_, h⟩
            · have h1 : j < l.length := of_decide_eq_true h1
              rcases (R.os l hl).2 with ⟨_, h3⟩ | ⟨b, c, cur, hv, _⟩
              · omega
              · refine ⟨s, _, .pointer (some ⟨b, j.toNat, none⟩), h, R, ⟨b, l.length, c, hv, h0, h1, rfl⟩, rfl, fun w' _ _ _ => ?_⟩
                have ha : (⟨b, 0, none⟩ : Addr).add (j.toNat * 1) = ⟨b, j.toNat, none⟩ := by
                  rw [Nat.mul_one]; unfold Addr.add; split
                  · rename_i e; rw [e]
                  · simp
                have hc1 : 0 ≤ j ∧ j < (l.length : Int) := ⟨h0, h1⟩
                simp only [execOp, ho, Instr.indexAt, r2, r1, hv, asIntOf, Sem.run_bind, Sem.run_pure, Result.andThen_ok, run_underlying htu]
                rw [if_pos hc1]
                simp only [Sem.run_bind, he, sz_run hz, Result.andThen_ok, Sem.run_pure, ha]
            · exact h.elim
          · exact h.elim
        · exact h.elim
      · exact h.elim
    · exact h.elim
  | slice t x lo hi mx =>
    cases lo with
    | some _ => simp only [ho] at h; exact h.elim
    | none =>
      cases hi with
      | none => simp only [ho] at h; exact h.elim
      | some hi =>
        cases mx with
        | some _ => simp only [ho] at h; exact h.elim
        | none =>
          simp only [ho] at h
          split at h
          · rename_i hsl
            obtain ⟨e, htu, hz, he⟩ := isSl_run hsl
            split at h
            · rename_i l kk j e1 e2
              have r1 := ev_rel' R e1
              have r2 := plain_rel e2 (ev_rel R hi)
              rcases h.unbr with ⟨h0, h⟩ | ⟨_, h⟩
              · have h0 : 0 ≤ j := of_decide_eq_true h0
                rcases h.unbr with ⟨h1, h⟩ | ⟨_, h⟩
                · have h1 : j ≤ l.length := of_decide_eq_true h1
                  obtain ⟨ad, c, hv, hlc⟩ := hN.shape _ _ _ _ r1
                  have r1' : N σ.ob w l (.slice ad l.length c) := by have := r1; rw [hv] at this; exact this
                  refine ⟨s, _, .slice ad j.toNat c, h, R, hN.take _ _ _ _ _ _ r1' (by omega), rfl, fun w' _ _ _ => ?_⟩
                  have hc1 : 0 ≤ j ∧ j ≤ (c : Int) := ⟨h0, by omega⟩
                  simp only [execOp, ho, Instr.sliceAt, r2, hv, Sem.run_bind, Sem.run_pure, Result.andThen_ok, run_underlying htu, Option.map_none, Option.map_some, Instr.slice, Instr.sliceBounds, Instr.sliceBound, asIntOf]
                  rw [if_pos hc1]
                  simp only [he, sz_run hz, Result.andThen_ok, Sem.run_pure, Nat.sub_zero, Nat.zero_mul]
                  by_cases hc0 : c = 0
                  · subst hc0; simp
                  · cases ad <;> simp [hc0, Addr.add]
                · exact h.elim
              · exact h.elim
            · exact h.elim
          · exact h.elim
  | _ => simp [ho] at hs

/-! ### What writes -/
theorem setRow_ne (w : World) (g k : Nat) (cs : Array Value) (h : k ≠ g) : (w.setRow g cs).heap[k]? = w.heap[k]? := by
  unfold World.setRow
  rw [Array.getElem?_modify, if_neg (fun e => h e.symm)]
theorem ownsRow_keep {w w' : World} {B n : Nat} {v : Value} {xs : List Value} (h : w.ownsRow B T 1 v n xs) (hk : ∀ g, v.ownBlock = some g → w'.heap[g]? = w.heap[g]?) : w'.ownsRow B T 1 v n xs := by
  obtain ⟨h1, h2⟩ := h
  refine ⟨h1, ?_⟩
  rcases h2 with h2 | ⟨g, cap, cur, hv, hg, hh, r⟩
  · exact .inl h2
  · exact .inr ⟨g, cap, cur, hv, hg, by rw [hk g (by rw [hv]; rfl)]; exact hh, r⟩
theorem Rel.lt (R : Rel N T B w0 σ s a w) {i b : Nat} (h : σ.g[i]? = some b) : b < w.heap.size := by
  have hi : i < s.h.length := by rw [← R.hl]; exact (List.getElem?_eq_some_iff.1 h).1
  obtain ⟨vs, hv, _⟩ := R.hp i b (s.h[i]).1 (s.h[i]).2 h (by rw [List.getElem?_eq_getElem hi])
  exact (Array.getElem?_eq_some_iff.1 hv).1
/-- the own block -/
theorem Rel.ob_spec (R : Rel N T B w0 σ s a w) {g : Nat} (h : σ.ob = some g) : B ≤ g ∧ ∃ cur, w.heap[g]? = some (Obj.cells cur T (0, 0)) := by
  cases hs : s.o with
  | none => unfold Pl.ob at h; rw [R.on hs] at h; cases h
  | some l =>
    rcases (R.os l hs).2 with ⟨h1, _⟩ | ⟨g', c, cur, hv, hb, hh, _⟩
    · unfold Pl.ob at h; rw [h1] at h; cases h
    · unfold Pl.ob at h; rw [hv] at h; cases h; exact ⟨hb, cur, hh⟩
theorem Rel.ob_ne (R : Rel N T B w0 σ s a w) {i b : Nat} (h : σ.g[i]? = some b) : σ.ob ≠ some b := by
  intro e
  obtain ⟨_, cur, hc⟩ := R.ob_spec e
  have hi : i < s.h.length := by rw [← R.hl]; exact (List.getElem?_eq_some_iff.1 h).1
  obtain ⟨vs, hv, _⟩ := R.hp i b (s.h[i]).1 (s.h[i]).2 h (by rw [List.getElem?_eq_getElem hi])
  rw [hc] at hv
  cases hv
  exact R.nt i _ _ (by rw [List.getElem?_eq_getElem hi]) rfl
theorem Rel.later (hN : NK T N) (R : Rel N T B w0 σ s a w) {w' : World} (h : Below w.heap.size w w') : Rel N T B w0 σ s a w' :=
  ⟨R.tsz, fun i => (R.tm i).mono hN (fun _ _ h => h) rfl (Pres.below h), R.df, R.hl,
   fun i b ty cs hb hs => let ⟨vs, hv, hp⟩ := R.hp i b ty cs hb hs; ⟨vs, keepB h hv, hp.mono fun _ _ => Rs.mono hN (fun _ _ h => h) rfl (Pres.below h)⟩,
   R.inj, R.lo, R.nt, R.bl.trans (h.mono R.bs), Nat.le_trans R.bs h.size, R.ho, R.on, fun l hl => ownsRow_keep (R.os l hl) fun g hg => h.block g (by obtain ⟨_, cur, hc⟩ := R.ob_spec hg; exact (Array.getElem?_eq_some_iff.1 hc).1)⟩
theorem Rel.drew (hN : NK T N) (R : Rel N T B w0 σ s a w) : Rel N T B w0 σ s a w.drew := by
  have hp : Pres T σ.ob w w.drew := fun _ _ _ _ h => h
  exact ⟨R.tsz, fun i => (R.tm i).mono hN (fun _ _ h => h) rfl hp, R.df, R.hl, fun i b ty cs hb hs => let ⟨vs, hv, hq⟩ := R.hp i b ty cs hb hs; ⟨vs, hv, hq.mono fun _ _ => Rs.mono hN (fun _ _ h => h) rfl hp⟩, R.inj, R.lo, R.nt, R.bl.drew, R.bs, R.ho, R.on, R.os⟩
theorem snoc_get {α : Type} {l : List α} {x y : α} {i : Nat} (h : (l ++ [x])[i]? = some y) : l[i]? = some y ∨ (i = l.length ∧ y = x) := by
  rw [List.getElem?_append] at h
  split at h
  · exact .inl h
  · rename_i hi
    have : i = l.length := by
      have := (List.getElem?_eq_some_iff.1 h).1; simp at this; omega
    subst this; simp at h; exact .inr ⟨rfl, h.symm⟩
theorem Rel.new (hN : NK T N) (R : Rel N T B w0 σ s a w) {e : TypeId} (he : e ≠ T) {l : List SV} {vs : Array Value} (hp : Pw (Rs N σ w) l vs.toList) (h1 : l.all one' = true) :
    Rel N T B w0 ⟨σ.g ++ [w.heap.size], σ.vo⟩ { s with h := s.h ++ [(e, l)] } a (w.alloc (.cells vs e)) := by
  have hb := belowA w (.cells vs e)
  have hsig : ∀ i b : Nat, σ.g[i]? = some b → (σ.g ++ [w.heap.size])[i]? = some b := fun i b h => by
    rw [List.getElem?_append_left (List.getElem?_eq_some_iff.1 h).1]; exact h
  have R' := R.later hN hb
  refine ⟨R.tsz, fun i => (R.tm i).mono (σ' := ⟨σ.g ++ [w.heap.size], σ.vo⟩) hN hsig rfl (Pres.below hb), R.df, by simp [R.hl], ?_, ?_, ?_, ?_, R'.bl, R'.bs, ?_, R.on, R'.os⟩
  · intro i b ty cs h1 h2
    rcases snoc_get h1 with g1 | ⟨g1, rfl⟩
    · rcases snoc_get h2 with g2 | ⟨g2, _⟩
      · obtain ⟨vs', hv, hp'⟩ := R.hp i b ty cs g1 g2
        exact ⟨vs', keepB hb hv, hp'.mono fun _ _ => Rs.mono (σ' := ⟨σ.g ++ [w.heap.size], σ.vo⟩) hN hsig rfl (Pres.below hb)⟩
      · exact absurd (List.getElem?_eq_some_iff.1 g1).1 (by rw [R.hl, g2]; omega)
    · rcases snoc_get h2 with g2 | ⟨_, g2⟩
      · exact absurd (List.getElem?_eq_some_iff.1 g2).1 (by rw [g1, R.hl]; omega)
      · cases g2
        exact ⟨vs, by show (w.heap.push _)[w.heap.size]? = _; simp, hp.mono fun _ _ => Rs.mono (σ' := ⟨σ.g ++ [w.heap.size], σ.vo⟩) hN hsig rfl (Pres.below hb)⟩
  · intro i j b h1 h2
    rcases snoc_get h1 with g1 | ⟨g1, rfl⟩
    · rcases snoc_get h2 with g2 | ⟨_, rfl⟩
      · exact R.inj i j b g1 g2
      · exact absurd (R.lt g1) (by omega)
    · rcases snoc_get h2 with g2 | ⟨g2, _⟩
      · exact absurd (R.lt g2) (by omega)
      · omega
  · intro i b h1
    rcases snoc_get h1 with g1 | ⟨_, rfl⟩
    · exact R.lo i b g1
    · exact R.bs
  · intro i ty cs h1
    rcases snoc_get h1 with g1 | ⟨_, g1⟩
    · exact R.nt i ty cs g1
    · cases g1; exact he
  · intro i ty cs h2
    rcases snoc_get h2 with g1 | ⟨_, g1⟩
    · exact R.ho i ty cs g1
    · cases g1; exact h1
theorem Rel.stored (hN : NK T N) (R : Rel N T B w0 σ s a w) {i b : Nat} {ty : TypeId} {cs l : List SV} {vs : Array Value} (hb : σ.g[i]? = some b) (hs : s.h[i]? = some (ty, cs))
    (hp : Pw (Rs N σ w) l vs.toList) (h1 : l.all one' = true) : Rel N T B w0 σ { s with h := s.h.set i (ty, l) } a (w.setRow b vs) := by
  obtain ⟨us, hu, hup⟩ := R.hp i b ty cs hb hs
  have hil : i < s.h.length := (List.getElem?_eq_some_iff.1 hs).1
  have hpres : Pres T σ.ob w (w.setRow b vs) := by
    intro g cs' fr _ hg
    by_cases e : g = b
    · subst e; rw [hu] at hg; cases hg; exact absurd rfl (R.nt i _ cs hs)
    · rw [setRow_ne _ _ _ _ e]; exact hg
  have hid : ∀ i b : Nat, σ.g[i]? = some b → σ.g[i]? = some b := fun _ _ h => h
  refine ⟨R.tsz, fun j => (R.tm j).mono hN hid rfl hpres, R.df, by simp [R.hl], ?_, R.inj, R.lo, ?_, ?_, ?_, ?_, R.on, ?_⟩
  · intro j g ty' cs' h1 h2
    rw [List.getElem?_set] at h2
    by_cases e : i = j
    · subst e
      rw [hb] at h1; cases h1
      simp [hil] at h2
      obtain ⟨rfl, rfl⟩ := h2
      exact ⟨vs, setRow_heap w b us vs _ _ hu, hp.mono fun _ _ => Rs.mono hN hid rfl hpres⟩
    · simp [e] at h2
      obtain ⟨vs', hv, hp'⟩ := R.hp j g ty' cs' h1 h2
      have hne : g ≠ b := fun e' => e (R.inj i j b hb (e' ▸ h1))
      exact ⟨vs', by rw [setRow_ne _ _ _ _ hne]; exact hv, hp'.mono fun _ _ => Rs.mono hN hid rfl hpres⟩
  · intro j ty' cs' h2
    rw [List.getElem?_set] at h2
    by_cases e : i = j
    · subst e; simp [hil] at h2; obtain ⟨rfl, rfl⟩ := h2; exact R.nt i ty cs hs
    · simp [e] at h2; exact R.nt j ty' cs' h2
  · exact R.bl.trans ⟨rfl, rfl, rfl, by simp, fun k hk => setRow_ne _ _ _ _ (by have := R.lo i b hb; omega)⟩
  · simp; exact R.bs
  · intro j ty' cs' h2
    rw [List.getElem?_set] at h2
    by_cases e : i = j
    · subst e; simp [hil] at h2; obtain ⟨rfl, rfl⟩ := h2; exact h1
    · simp [e] at h2; exact R.ho j ty' cs' h2
  · intro l' hl'
    exact ownsRow_keep (R.os l' hl') fun g hg => setRow_ne _ _ _ _ (fun e => R.ob_ne hb (by unfold Pl.ob; rw [hg, e]))
/-! the own slice turns -/
theorem getT_mapT (f : LV → LV) (hf : f und = und) : ∀ (t : List (Nat × LV)) (i : Nat), getT (mapT f t) i = f (getT t i)
  | [], i => hf.symm
  | (j, x) :: r, i => by
    simp only [mapT, getT]
    cases Nat.beq j i with
    | true => rfl
    | false => exact getT_mapT f hf r i
theorem Ra.turn {σ σ' : Pl} {w w' : World} (hs : σ'.g = σ.g) (hn : ∀ l v, N σ.ob w l v → N σ'.ob w' l v) : ∀ {x : AV} {v : Value}, Ra N σ w x v → Ra N σ' w' (killA x) v
  | .s _, _, h => Rs.turn hs hn h
  | .agg l, _, ⟨vs, e, h⟩ => ⟨vs, e, by
    refine ⟨by rw [List.length_map]; exact h.1, fun i x hx => ?_⟩
    rw [List.getElem?_map] at hx
    cases hq : l[i]? with
    | none => rw [hq] at hx; cases hx
    | some y =>
      rw [hq] at hx; cases hx
      obtain ⟨u, hu, hr⟩ := h.2 i y hq
      exact ⟨u, hu, Rs.turn hs hn hr⟩⟩
theorem Rl.turn {σ σ' : Pl} {w w' : World} (hs : σ'.g = σ.g) (hn : ∀ l v, N σ.ob w l v → N σ'.ob w' l v) : ∀ {x : LV} {v : Value}, Rl N σ w x v → Rl N σ' w' (killL x) v
  | .a _, _, h => Ra.turn hs hn h
  | .tup l, _, ⟨vs, e, h⟩ => ⟨vs, e, by
    refine ⟨by rw [List.length_map]; exact h.1, fun i x hx => ?_⟩
    rw [List.getElem?_map] at hx
    cases hq : l[i]? with
    | none => rw [hq] at hx; cases hx
    | some y =>
      rw [hq] at hx; cases hx
      obtain ⟨u, hu, hr⟩ := h.2 i y hq
      exact ⟨u, hu, Ra.turn hs hn hr⟩⟩
/-- another own slice: the world may have turned in the own block and in new blocks -/
theorem Rel.turn (R : Rel N T B w0 σ s a w) {vo' : Value} {w' : World} {o' : Option (List Int)} (f : LV → LV) (hf : f und = und)
    (hfr : ∀ i : Nat, Rl N σ w (getT s.t i) (a.tmps.getD i undef) → Rl N ⟨σ.g, vo'⟩ w' (f (getT s.t i)) (a.tmps.getD i undef))
    (hn : ∀ l v, N σ.ob w l v → N (Pl.ob ⟨σ.g, vo'⟩) w' l v) (hh : ∀ i b : Nat, σ.g[i]? = some b → w'.heap[b]? = w.heap[b]?) (hb : Below B w w') (hsz : w.heap.size ≤ w'.heap.size)
    (hon : o' = none → vo' = nilV) (hos : ∀ l, o' = some l → w'.ownsRow B T 1 vo' l.length (l.map (Value.int .i64))) :
    Rel N T B w0 ⟨σ.g, vo'⟩ { s with o := o', t := mapT f s.t } a w' := by
  refine ⟨R.tsz, fun i => ?_, R.df, R.hl, ?_, R.inj, R.lo, R.nt, R.bl.trans hb, Nat.le_trans R.bs hsz, R.ho, hon, hos⟩
  · show Rl N _ w' (getT (mapT f s.t) i) _
    rw [getT_mapT f hf]; exact hfr i (R.tm i)
  · intro i b ty cs h1 h2
    obtain ⟨vs, hv, hp⟩ := R.hp i b ty cs h1 h2
    refine ⟨vs, by rw [hh i b h1]; exact hv, hp.mono_mem fun x hx v hr => ?_⟩
    have hone := List.all_eq_true.1 (R.ho i ty cs h2) x hx
    have := Rs.turn (σ := σ) (σ' := ⟨σ.g, vo'⟩) (w' := w') rfl hn hr
    rw [kill_one hone] at this
    exact this
theorem Rel.owned (R : Rel N T B w0 σ s a w) {vo' : Value} {w' : World} {o' : Option (List Int)}
    (hn : ∀ l v, N σ.ob w l v → N (Pl.ob ⟨σ.g, vo'⟩) w' l v) (hh : ∀ i b : Nat, σ.g[i]? = some b → w'.heap[b]? = w.heap[b]?) (hb : Below B w w') (hsz : w.heap.size ≤ w'.heap.size)
    (hon : o' = none → vo' = nilV) (hos : ∀ l, o' = some l → w'.ownsRow B T 1 vo' l.length (l.map (Value.int .i64))) :
    Rel N T B w0 ⟨σ.g, vo'⟩ (s.own o') a w' :=
  R.turn killL rfl (fun _ h => Rl.turn (σ := σ) (σ' := ⟨σ.g, vo'⟩) rfl hn h) hn hh hb hsz hon hos
theorem Rel.retired (hN : NK T N) (R : Rel N T B w0 σ s a w) : ∃ vo', vo' = nilV ∧ Rel N T B w0 ⟨σ.g, vo'⟩ (retire s) a w := by
  refine ⟨nilV, rfl, ?_⟩
  unfold retire
  cases hs : s.o with
  | none =>
    have := R.on hs
    obtain ⟨g, vo⟩ := σ
    simp only at this; subst this
    exact R
  | some l => exact R.owned (fun l v h => hN.weak _ _ _ _ h) (fun _ _ _ => rfl) (Below.refl _ _) (Nat.le_refl _) (fun _ => rfl) (fun _ h => by cases h)
theorem cells_rel (hN : NK T N) {x : LV} {l : List SV} {v : Value} (h : cellsL x = some l) (h1 : l.all one' = true) (hr : Rl N σ w x v) : Pw (Rs N σ w) l v.cells.toList ∧ ∀ u ∈ v.cells, u.oneCell' = true := by
  cases x with
  | a y =>
    cases y with
    | s c =>
      simp only [cellsL, Option.some.injEq] at h; subst h
      have hc : one' c = true := by simpa using h1
      have ho := one_rel hN hc hr
      rw [oneCell_cells ho]
      exact ⟨Pw.cons hr Pw.nil, fun u hu => by simp at hu; subst hu; exact ho⟩
    | agg l' =>
      simp only [cellsL, Option.some.injEq] at h; subst h
      obtain ⟨vs, rfl, hp⟩ := hr
      refine ⟨hp, fun u hu => ?_⟩
      obtain ⟨i, hi, e⟩ := Array.getElem_of_mem (show u ∈ vs from hu)
      have hi' : i < l'.length := by rw [hp.1]; simpa using hi
      obtain ⟨v, hv, hr⟩ := hp.get (List.getElem?_eq_getElem hi')
      have : vs[i]? = some u := by rw [Array.getElem?_eq_getElem hi, ← e]
      have e2 : v = u := by
        have h2 : vs[i]? = some v := by simpa using hv
        rw [this] at h2; exact (Option.some.inj h2).symm
      subst e2
      exact one_rel hN (List.all_eq_true.1 h1 _ (List.getElem_mem hi')) hr
  | tup l' => simp [cellsL] at h
/-- where an operation stores -/
def storesTo (s : St) (o : Oper) : Option Nat := match o.op with
  | .store _ x _ => match ev s x with
    | .a (.s (.p i _)) => some i
    | _ => none
  | _ => none
/-- does it write into the own slice, or make one? -/
def writesOwn (s : St) (o : Oper) : Bool := match o.op with
  | .store _ x _ => match ev s x with
    | .a (.s (.ew _)) => true
    | _ => false
  | .makeSlice .. => true
  | .call c => match c.callee with
    | .builtin .append => true
    | _ => false
  | _ => false
structure Ext (T : TypeId) (s : St) (o : Oper) (σ σ' : Pl) (w w' : World) : Prop where
  sig : ∀ i b : Nat, σ.g[i]? = some b → σ'.g[i]? = some b
  blk : ∀ b : Nat, b < w.heap.size → (∀ i, storesTo s o = some i → σ.g[i]? ≠ some b) → writesOwn s o = false → w'.heap[b]? = w.heap[b]?
  all : writesOwn s o = false → ∀ (b : Nat) (cs : Array Value) (fr : Nat × Nat), w.heap[b]? = some (Obj.cells cs T fr) → w'.heap[b]? = some (Obj.cells cs T fr)
theorem splice_rel {R : SV → Value → Prop} {cs l : List SV} {us ns : List Value} {off : Nat} (h : Pw R cs us) (k : Pw R l ns) : Pw R (splice cs off l) (us.take off ++ ns ++ us.drop (off + ns.length)) := by
  unfold splice
  rw [k.1]
  exact ((h.take off).append k).append (h.drop _)
theorem splice_one {cs l : List SV} {off : Nat} (h : cs.all one' = true) (k : l.all one' = true) : (splice cs off l).all one' = true := by
  unfold splice
  rw [List.all_append, List.all_append, k]
  simp only [List.all_eq_true] at h
  simp only [Bool.and_true, Bool.and_eq_true, List.all_eq_true]
  exact ⟨fun x hx => h x (List.mem_of_mem_take hx), fun x hx => h x (List.mem_of_mem_drop hx)⟩
theorem newB_sound (hN : NK T N) {o : Oper} {k : St → Tr} {next : Act → World → Prop} {e : TypeId} {x : LV} {v : Value} (h : WT N P Φ (newB T s o e x k)) (hv : Rl N σ w x v) (R : Rel N T B w0 σ s a w)
    (hk : ∀ s' σ' a' w', WT N P Φ (k s') → Rel N T B w0 σ' s' a' w' → Ext T s o σ σ' w w' → next a' w') : next (a.put o.dst (.pointer (some ⟨w.heap.size, 0, none⟩))) (w.alloc (.cells v.cells e)) := by
  unfold newB at h
  split at h
  · rename_i l hl
    split at h
    · exact h.elim
    · rename_i hc
      simp only [Bool.or_eq_true, beq_iff_eq, Bool.not_eq_true', not_or, Bool.not_eq_false] at hc
      obtain ⟨hp, _⟩ := cells_rel hN hl hc.2 hv
      have R' := R.new hN (e := e) hc.1 hp hc.2
      refine hk _ _ _ _ h (R'.put o.dst (show Rl N _ _ (.p s.h.length 0) _ from ⟨w.heap.size, by show (σ.g ++ _)[_]? = _; rw [← R.hl]; simp, rfl⟩)) ⟨fun i b h => ?_, fun b hb _ _ => ?_, fun _ b cs fr h => keepB (belowA w _) h⟩
      · show (σ.g ++ _)[i]? = _
        rw [List.getElem?_append_left (List.getElem?_eq_some_iff.1 h).1]; exact h
      · exact (belowA w _).block b hb
  · exact h.elim
theorem noS_rel (hN : NK T N) {x : SV} {v : Value} (h : noS x = true) (hr : Rs N σ w x v) : Rs N pl0 w x v := by
  cases x with
  | v x => exact hr
  | n k => exact hN.weak _ _ _ _ hr
  | _ => cases h
theorem noP_rel (hN : NK T N) {x : LV} {v : Value} (h : noP x = true) (hr : Rl N σ w x v) : Rl N pl0 w x v := by
  cases x with
  | a y =>
    cases y with
    | s c => exact noS_rel hN (show noS c = true by cases c <;> exact h) hr
    | agg l =>
      obtain ⟨vs, e, hp⟩ := hr
      exact ⟨vs, e, hp.mono_mem fun x hx v hr => noS_rel hN (List.all_eq_true.1 h x hx) hr⟩
  | tup l => cases h
theorem pub_rel (hN : NK T N) (R : Rel N T B w0 σ s a w) {x : SV} {v : Value} (hr : Rs N σ w x v) (hx : noS (pub s x) = true) : Rs N pl0 w (pub s x) v := by
  cases x with
  | ow =>
    simp only [pub] at hx ⊢
    cases hs : s.o with
    | none => rw [hs] at hx; cases hx
    | some l =>
      have hr : v = σ.vo := hr
      subst hr
      exact hN.own _ _ _ _ (R.os l hs)
  | v y =>
    unfold pub
    split
    · rename_i e; cases e
    · rename_i e; cases e
      have hr : v = _ := hr
      subst hr
      exact hN.nil _ _
    · exact hr
  | n l => exact hN.weak _ _ _ _ hr
  | p i off => cases hx
  | en l i => cases hx
  | ew i => cases hx
  | no => cases hx
theorem pubA_rel (hN : NK T N) (R : Rel N T B w0 σ s a w) {x : AV} {v : Value} (hr : Ra N σ w x v) (hx : noPA (pubA s x) = true) : Ra N pl0 w (pubA s x) v := by
  cases x with
  | s c => exact pub_rel hN R hr hx
  | agg l =>
    obtain ⟨vs, e, hp⟩ := hr
    refine ⟨vs, e, by rw [List.length_map]; exact hp.1, fun i x hi => ?_⟩
    rw [List.getElem?_map] at hi
    cases hq : l[i]? with
    | none => rw [hq] at hi; cases hi
    | some y =>
      rw [hq] at hi; cases hi
      obtain ⟨u, hu, hr⟩ := hp.2 i y hq
      exact ⟨u, hu, pub_rel hN R hr (List.all_eq_true.1 hx _ (List.mem_map.2 ⟨y, List.mem_of_getElem? hq, rfl⟩))⟩
theorem pubL_rel (hN : NK T N) (R : Rel N T B w0 σ s a w) {x : LV} {v : Value} (hr : Rl N σ w x v) (hx : noP (pubL s x) = true) : Rl N pl0 w (pubL s x) v := by
  cases x with
  | a y =>
    refine pubA_rel hN R hr ?_
    cases y with
    | s c => exact hx
    | agg l => exact hx
  | tup l => cases hx
theorem pub0 (σ : Pl) (hN : NK T N) {x : LV} {v : Value} (hr : Rl N pl0 w x v) (hob : σ.vo = nilV) : ∀ w', w' = w → Rl N σ w' x v := by
  rintro w' rfl
  refine hr.mono hN (fun i b h => by simp [pl0] at h) hob (Pres.refl _ _ _)
theorem Ext.refl (T : TypeId) (s : St) (o : Oper) (σ : Pl) (w : World) : Ext T s o σ σ w w := ⟨fun _ _ h => h, fun _ _ _ _ => rfl, fun _ _ _ _ h => h⟩
/-- An operation. -/
theorem step_sound (hN : NK T N) {C : Tab} {o : Oper} {k : St → Tr} {next : Act → World → Prop} {Q : Exit → Act → World → Prop} (h : WT N P Φ (step P T C o s k)) (R : Rel N T B w0 σ s a w)
    (hk : ∀ s' σ' a' w', WT N P Φ (k s') → Rel N T B w0 σ' s' a' w' → Ext T s o σ σ' w w' → next a' w') : o.wp P a w next Q := by
  by_cases hs : isSoft o = true
  · obtain ⟨s', x, v, h1, h2, h3, _, h5⟩ := soft_sound hN hs h R
    have h5 := h5 w (fun _ _ _ _ => rfl) (fun _ => Pres.refl _ _ _) (fun _ _ _ => rfl)
    unfold Oper.wp
    rw [h5]
    exact hk _ _ _ _ h1 (h2.put o.dst h3) (Ext.refl _ _ _ _ _)
  · unfold step at h
    unfold Oper.wp
    cases ho : o.op with
    | box e x =>
      simp only [ho] at h
      have hrun : (execOp a.eval o).run P w = .ok (.value (.pointer (some ⟨w.heap.size, 0, none⟩))) (w.alloc (.cells (a.eval x).cells e)) := by
        simp [execOp, ho, Instr.box, newVar, newRow]
      rw [hrun]
      exact newB_sound hN h (ev_rel R x) R hk
    | alloc e =>
      simp only [ho] at h
      split at h
      · rename_i z hz
        obtain ⟨inf, hi1, hi2⟩ : ∃ inf, P.info? e = some inf ∧ inf.zero = some z := by
          cases hq : P.info? e with
          | none => simp [hq] at hz
          | some inf => exact ⟨inf, rfl, by simpa [hq] using hz⟩
        have hrun : (execOp a.eval o).run P w = .ok (.value (.pointer (some ⟨w.heap.size, 0, none⟩))) (w.alloc (.cells z.cells e)) := by
          simp [execOp, ho, Instr.alloc, zeroValue, typeInfo, hi1, hi2, newVar, newRow]
        rw [hrun]
        exact newB_sound hN h (ofV_rel z) R hk
      · exact h.elim
    | store t x y =>
      simp only [ho] at h
      split at h
      · rename_i j he hn
        obtain ⟨b, n, c, hv, h0, h1, e1⟩ := (show Rl N σ w (.a (.s (.ew j))) (a.eval x) from ev_rel' R he)
        split at h
        · rename_i z l hpl hlo
          have hy : a.eval y = .int .i64 z := plain_rel hpl (ev_rel R y)
          have hown := R.os l hlo
          rw [hv] at hown
          have hnl : n = l.length := by
            rcases hown.2 with ⟨h3, _⟩ | ⟨g', c', cur, hv', _⟩
            · cases h3
            · simp only [Value.slice.injEq] at hv'; exact hv'.2.1
          subst hnl
          obtain ⟨o1, o2⟩ := hown.stored j.toNat (.int .i64 z)
          have hcell := hown.cellAt j.toNat (by omega)
          have hfr := hown.frozenAt j.toNat
          have hob : σ.ob = some b := by unfold Pl.ob; rw [hv]; rfl
          have hrun : (execOp a.eval o).run P w = .ok .skip (w.setCell ⟨b, j.toNat, none⟩ (.int .i64 z)) := by
            have hst : (store ⟨b, j.toNat, none⟩ (.int .i64 z)).run P w = .ok () (w.setCell ⟨b, j.toNat, none⟩ (.int .i64 z)) := by
              rw [run_store P w _ _ _ rfl, hcell, List.getElem?_map, List.getElem?_eq_getElem (by omega : j.toNat < l.length)]
              simp [hfr]
            have hadd : (⟨b, j.toNat, none⟩ : Addr).add 0 = ⟨b, j.toNat, none⟩ := rfl
            simp only [execOp, ho, Instr.storeAt, e1, hy, Instr.sureAddr, Sem.run_bind, Sem.run_pure, Result.andThen_ok, storeVar, Value.cells, sz_run hn, List.size_toArray, List.length_cons, List.length_nil]
            rw [if_neg (by decide)]
            simp only [storeCells, hadd, Sem.run_bind, hst, Result.andThen_ok, Sem.run_pure]
          rw [hrun]
          have hB : B ≤ b := by obtain ⟨h6, _⟩ := R.ob_spec hob; exact h6
          have R' : Rel N T B w0 σ { s with o := some (l.set j.toNat z) } a (w.setCell ⟨b, j.toNat, none⟩ (.int .i64 z)) := by
            have hpres : Pres T σ.ob w (w.setCell ⟨b, j.toNat, none⟩ (.int .i64 z)) := fun g cs fr hg hh => by
              rw [heap_setCell_other _ _ _ _ (fun e => hg (by rw [hob]; exact congrArg some e.symm))]; exact hh
            refine ⟨R.tsz, fun i => (R.tm i).mono hN (fun _ _ h => h) rfl hpres, R.df, R.hl, ?_, R.inj, R.lo, R.nt, R.bl.setCell hB _, (by simp; exact R.bs), R.ho, (fun h => by cases h), fun l' hl' => ?_⟩
            · intro i g ty cs h1 h2
              obtain ⟨vs, hv2, hp⟩ := R.hp i g ty cs h1 h2
              refine ⟨vs, ?_, hp.mono fun _ _ => Rs.mono hN (fun _ _ h => h) rfl hpres⟩
              rw [heap_setCell_other _ _ _ _ (fun e => R.ob_ne h1 (by rw [hob]; exact congrArg some e.symm))]; exact hv2
            · cases hl'
              rw [hv, List.length_set, List.map_set]; exact o1
          refine hk _ _ _ _ h (R'.put o.dst (x := und) (v := undef) rfl) ⟨fun _ _ h => h, fun g hg hne hw => ?_, fun hw => ?_⟩
          · exact absurd hw (by simp [writesOwn, ho, he])
          · exact absurd hw (by simp [writesOwn, ho, he])
        · exact h.elim
      · rename_i i off l n he hl hn
        obtain ⟨b, hb, e1⟩ := (show Rl N σ w (.p i off) (a.eval x) from ev_rel' R he)
        split at h
        · rename_i ty cs hh
          split at h
          · rename_i hc
            simp only [Bool.and_eq_true, beq_iff_eq, decide_eq_true_eq] at hc
            obtain ⟨⟨rfl, h1⟩, h2⟩ := hc
            obtain ⟨us, hu, hup⟩ := R.hp i b ty cs hb hh
            obtain ⟨hp, hone⟩ := cells_rel hN hl h1 (ev_rel R y)
            have hlen : cs.length = us.size := by rw [hup.1]; simp
            have hlen2 : l.length = (a.eval y).cells.size := by rw [hp.1]; simp
            have hrun : (execOp a.eval o).run P w = .ok .skip (w.setRow b (us.toList.take off ++ (a.eval y).cells.toList ++ us.toList.drop (off + (a.eval y).cells.toList.length)).toArray) := by
              have hst := run_storeCells_at (P := P) b off ty (a.eval y).cells.toList 0 us w hu (by simp; omega) (fun u hu => hone u (by simpa using hu))
              simp only [Nat.add_zero] at hst
              have hsz : (a.eval y).cells.size = l.length := hlen2.symm
              simp only [execOp, ho, Instr.storeAt, e1, Instr.sureAddr, Sem.run_bind, Sem.run_pure, Result.andThen_ok, storeVar, sz_run hn, hsz]
              simp [hst]
            rw [hrun]
            have R' := R.stored hN hb hh (vs := (us.toList.take off ++ (a.eval y).cells.toList ++ us.toList.drop (off + (a.eval y).cells.toList.length)).toArray) (l := splice cs off l) (by simpa using splice_rel (off := off) hup hp) (splice_one (R.ho i ty cs hh) h1)
            refine hk _ _ _ _ h (R'.put o.dst (x := und) (v := undef) rfl) ⟨fun _ _ h => h, fun g hg hne _ => ?_, fun _ g cs' fr hg => ?_⟩
            · refine setRow_ne _ _ _ _ (fun e => hne i ?_ (e ▸ hb))
              simp [storesTo, ho, he]
            · by_cases e : g = b
              · subst e; rw [hu] at hg; cases hg; exact absurd rfl (R.nt i _ cs hh)
              · rw [setRow_ne _ _ _ _ e]; exact hg
          · exact h.elim
        · exact h.elim
      · exact h.elim
    | buildSlice t len parts =>
      simp only [ho] at h
      split at h
      · rename_i x hx
        split at h
        · rename_i hc
          simp only [Bool.and_eq_true, beq_iff_eq] at hc
          obtain ⟨hsl, rfl⟩ := hc
          obtain ⟨e, hu, hz, rfl⟩ := isSl_run hsl
          split at h
          · rename_i z hpz
            have hv : a.eval x = .int .i64 z := plain_rel hpz (ev_rel R x)
            obtain ⟨inf, hi1, hi2, hi3, _⟩ : ∃ i, P.info? e = some i ∧ i.zero = some (.int .i64 0) ∧ i.size = 1 ∧ i.bytes = 8 := by
              refine tOk_run ?_
              unfold isSl at hsl
              rw [hu] at hsl
              simp only [Bool.and_eq_true] at hsl
              exact hsl.2
            have hzv : (zeroValue e).run P w = .ok (.int .i64 0) w := by simp [zeroValue, typeInfo, hi1, hi2]
            have hparts : parts = #[(0, x)] := by rw [← Array.toList_inj, hx]
            have hrun : (execOp a.eval o).run P w = .ok (.value (.slice (some ⟨w.heap.size, 0, none⟩) 1 1)) (w.alloc (.cells #[.int .i64 z] e)) := by
              have hf : Instr.fill (fun i => some (i * 1, 1)) ((Array.range (1 * 1)).map ((Value.int .i64 0).cells[· % (Value.int .i64 0).cells.size]!)) [(0, Value.int .i64 z)] = some #[.int .i64 z] := by
                generalize (Value.int .i64 0).cells = zc
                have e1 : Array.map (fun x => zc[x % zc.size]!) (Array.range (1 * 1)) = #[zc[0 % zc.size]!] := by
                  apply Array.ext
                  · simp
                  · intro i h1 h2
                    have : i = 0 := by simp at h2; omega
                    subst this; simp
                rw [e1]; simp [Instr.fill, Value.cells]
              have hm : (Array.map (fun x => match x with | (i, x) => (i, a.eval x)) #[(0, x)]).toList = [(0, Value.int .i64 z)] := by simp [hv]
              have hno : ¬ (1 * 1 > 2 ^ 24) := by decide
              have hno2 : ¬ (1 * 1 = 0) := by decide
              simp only [execOp, ho, Instr.buildSlice, hparts, Sem.run_bind, run_underlying hu, Result.andThen_ok, sz_run hz, hno, hno2, if_false, Sem.run_pure, hzv, hm, hf]
              simp [newRow]
            rw [hrun]
            refine hk _ _ _ _ h ((R.later hN (belowA w _)).put o.dst (show Rl N σ _ (.n [z]) _ from hN.mk1 _ _ _ fun e' => ?_)) ⟨fun _ _ h => h, fun b hb _ _ => (belowA w _).block b hb, fun _ b cs fr h => keepB (belowA w _) h⟩
            obtain ⟨_, cur, hc⟩ := R.ob_spec e'
            exact absurd (Array.getElem?_eq_some_iff.1 hc).1 (by omega)
          · exact h.elim
        · exact h.elim
      · exact h.elim
    | makeSlice t l c =>
      simp only [ho] at h
      split at h
      · rename_i hc
        simp only [Bool.and_eq_true, Option.isNone_iff_eq_none] at hc
        obtain ⟨hsl, hso⟩ := hc
        obtain ⟨e, hu, hz, rfl⟩ := isSl_run hsl
        split at h
        · rename_i k1 n k2 m hp1 hp2
          obtain ⟨⟨rfl, h0, h1⟩, h⟩ := h
          have r1 := plain_rel hp1 (ev_rel R l)
          have r2 := plain_rel hp2 (ev_rel R c)
          obtain ⟨inf, hi1, hi2, hi3, hi4⟩ : ∃ i, P.info? e = some i ∧ i.zero = some (.int .i64 0) ∧ i.size = 1 ∧ i.bytes = 8 := by
            refine tOk_run ?_
            unfold isSl at hsl
            rw [hu] at hsl
            simp only [Bool.and_eq_true] at hsl
            exact hsl.2
          obtain ⟨nn, rfl⟩ : ∃ nn : Nat, n = nn := ⟨n.toNat, by omega⟩
          obtain ⟨w', hr, hown, hgrow⟩ := run_make_full (P := P) w B t e inf (.int .i64 0) 1 hu hi1 hi2 hi3 k1 k2 nn (by rw [hi4]; omega) (by unfold maxLen; omega) R.bs
          have hcells : (madeCells (Value.int .i64 0).cells (nn * 1)).toList = (List.replicate nn (0 : Int)).map (Value.int .i64) := by
            rw [Nat.mul_one, List.map_replicate]; exact toList_madeCells_one _ _
          rw [hcells] at hown
          have hrun : (execOp a.eval o).run P w = .ok (.value (.slice (some ⟨w.heap.size, 0, none⟩) nn nn)) w' := by
            simp only [execOp, ho, r1, r2, Sem.run_bind, hr, Result.andThen_ok, Sem.run_pure]
          rw [hrun]
          have hbl : Below w.heap.size w w' := ⟨hgrow.os, hgrow.tape, hgrow.output, hgrow.size, fun k hk => hgrow.block k hk (by simp)⟩
          have hon := R.on hso
          have R' : Rel N e B w0 ⟨σ.g, .slice (some ⟨w.heap.size, 0, none⟩) nn nn⟩ (s.own (some (List.replicate nn 0))) a w' :=
            R.owned (fun l v h => hN.move _ _ _ _ _ w.heap.size h (fun b cs fr _ hb => keepB hbl hb) (Nat.le_refl _))
              (fun i b hb => hbl.block b (R.lt hb)) (hbl.mono R.bs) hbl.size (fun h => by cases h) (fun l hl => by cases hl; rw [List.length_replicate]; exact hown)
          refine hk _ _ _ _ h (R'.put o.dst (x := .a (.s .ow)) (v := .slice (some ⟨w.heap.size, 0, none⟩) nn nn) rfl) ⟨fun _ _ h => h, fun b _ _ hw => absurd hw (by simp [writesOwn, ho]), fun hw => absurd hw (by simp [writesOwn, ho])⟩
        · exact h.elim
      · exact h.elim
    | call c =>
      simp only [ho] at h
      split at h
      · rename_i f hc
        split at h
        · rename_i hnp
          have hargs : Pw (Rl N pl0 w) (c.args.toList.map fun x => pubL s (ev s x)) (c.args.map a.eval).toList := by
            have h2 : Pw (Rl N pl0 w) (c.args.toList.map fun x => pubL s (ev s x)) (c.args.toList.map a.eval) :=
              Pw.map (R := Rl N pl0 w) (fun x => pubL s (ev s x)) a.eval c.args.toList (fun x hx => pubL_rel hN R (ev_rel R x) (List.all_eq_true.1 hnp _ (List.mem_map.2 ⟨x, hx, rfl⟩)))
            simpa using h2
          split at h
          · rename_i r hr hfn
            obtain ⟨hC, h⟩ := h
            cases hq : P.funcs[f]? with
            | none => simp [hq] at hfn
            | some fn =>
              simp [hq] at hfn
              obtain ⟨hname, hb⟩ := hfn
              have hrun : (execOp a.eval o).run P w = .ok (.enter f (c.args.map a.eval)) w := by
                have hb' : ¬ fn.body = none := by intro e; rw [e] at hb; cases hb
                simp [execOp, ho, resolve, hc, Act.eval, Deferred.ofValue, invoke, callFunc, hq, hname, hb']
              rw [hrun]
              refine (hC w _ hargs).mono ?_
              rintro e w' ⟨v, rfl, hv, hbl⟩
              obtain ⟨vo', hvo, R'⟩ := (R.later hN hbl).retired hN
              refine hk _ _ _ _ h (R'.put o.dst (pub0 ⟨σ.g, vo'⟩ hN hv hvo w' rfl)) ⟨fun _ _ h => h, fun b hb _ _ => hbl.block b hb, fun _ b cs fr h => keepB hbl h⟩
          · rename_i r hr hfn
            obtain ⟨hC, h⟩ := h
            obtain ⟨v, hrun0, hv⟩ := hC w _ hargs
            have hrun : (execOp a.eval o).run P w = .ok (.value v) w := by
              rw [← hrun0]
              simp [execOp, ho, resolve, hc, Act.eval, Deferred.ofValue, invoke]
            rw [hrun]
            obtain ⟨vo', hvo, R'⟩ := R.retired hN
            exact hk _ _ _ _ h (R'.put o.dst (pub0 ⟨σ.g, vo'⟩ hN hv hvo w rfl)) ⟨fun _ _ h => h, fun _ _ _ _ => rfl, fun _ _ _ _ h => h⟩
          · exact h.elim
        · exact h.elim
      · rename_i b hc
        have hbapp : b = .append := by
          cases b <;> first | rfl | exact absurd (by simp [isSoft, ho, hc]) hs
        subst hbapp
        split at h
        · simp only [mnmx] at h; exact h.elim
        · split at h
          · simp_all
          · rename_i x y t u _ hca hta
            split at h
            · rename_i hcond
              simp only [Bool.and_eq_true, beq_iff_eq] at hcond
              obtain ⟨hsl, rfl⟩ := hcond
              obtain ⟨e, hu, hz, rfl⟩ := isSl_run hsl
              obtain ⟨inf, hi1, hi2, hi3, hi4⟩ : ∃ i, P.info? e = some i ∧ i.zero = some (.int .i64 0) ∧ i.size = 1 ∧ i.bytes = 8 := by
                refine tOk_run ?_
                unfold isSl at hsl
                rw [hu] at hsl
                simp only [Bool.and_eq_true] at hsl
                exact hsl.2
              have hva : c.args = #[x, y] := by rw [← Array.toList_inj, hca]
              have hvt : c.argTypes = #[t, t] := by rw [← Array.toList_inj, hta]
              have hop : o.op = .call { callee := .builtin .append, args := #[x, y], argTypes := #[t, t] } := by
                rw [ho]; cases c; simp only at hc hva hvt; subst hc hva hvt; rfl
              -- both ways in one
              have go : ∀ (l : List Int) (z : Int) (m : List Int) (k' : Tr), w.ownsRow B e 1 (a.eval x) l.length (l.map (Value.int .i64)) → a.eval x = σ.vo → N σ.ob w (z :: m) (a.eval y) → l.length + (m.length + 1) ≤ 1099511627776 →
                  WT N P Φ (k ((s.own (some (l ++ z :: m))).put o.dst (.a (.s .ow)))) → Oper.upon P o a next Q ((execOp a.eval o).run P w) := by
                intro l z m _ hown hx hy hlen h
                obtain ⟨b, off, cp, hyv, hob, cs, fr, hh, hcs⟩ := hN.at_ _ _ _ _ hy (by simp)
                have hblk : ∀ g, σ.ob = some g → B ≤ g ∧ g < w.heap.size := fun g hg => by
                  obtain ⟨h1, cur, h2⟩ := R.ob_spec hg
                  exact ⟨h1, (Array.getElem?_eq_some_iff.1 h2).1⟩
                refine wp_append_lies w x y t hop B e inf (.int .i64 0) 1 8 hu hi1 hi2 hi3 hi4 rfl (by decide) (a.eval x) l.length _ rfl hown ⟨b, off, none⟩ (z :: m).length cp ((z :: m).map (Value.int .i64)) hyv (by simp) ?_ ?_ (by simp) (by simp [maxLen]; omega) (by simp; omega) R.bs w.heap.size rfl ?_
                · intro j u hju
                  rw [List.getElem?_map] at hju
                  cases hq : (z :: m)[j]? with
                  | none => rw [hq] at hju; cases hju
                  | some q =>
                    rw [hq] at hju; cases hju
                    have hadd : (⟨b, off, none⟩ : Addr).add j = ⟨b, off + j, none⟩ := by unfold Addr.add; split <;> simp_all
                    rw [hadd, cell_of_row w b _ cs e fr hh]; exact hcs j q hq
                · intro u hu
                  obtain ⟨q, _, rfl⟩ := List.mem_map.1 hu
                  rfl
                · intro g cap w' hown' hgrow hwhere _
                  rw [hx] at hgrow hwhere
                  have hbl : Below B w w' := ⟨hgrow.os, hgrow.tape, hgrow.output, hgrow.size, fun k hk => hgrow.block k (Nat.lt_of_lt_of_le hk R.bs) (by
                    intro e'
                    have := hblk k e'.symm
                    omega)⟩
                  have hpres : ∀ (b : Nat) (cs : Array Value) (fr : Nat × Nat), σ.ob ≠ some b → w.heap[b]? = some (Obj.cells cs e fr) → w'.heap[b]? = some (Obj.cells cs e fr) := fun b cs fr hne hb => by
                    rw [hgrow.block b (Array.getElem?_eq_some_iff.1 hb).1 (fun e' => hne e'.symm)]; exact hb
                  have R' : Rel N e B w0 ⟨σ.g, .slice (some ⟨g, 0, none⟩) (l.length + (z :: m).length) cap⟩ (s.own (some (l ++ z :: m))) a w' := by
                    refine R.owned (fun l' v h' => ?_) (fun i b' hb' => hgrow.block b' (R.lt hb') (fun e' => R.ob_ne hb' e'.symm)) hbl hgrow.size (fun h => by cases h) (fun l' hl' => by cases hl'; rw [List.length_append, List.map_append]; exact hown')
                    show N (some g) w' l' v
                    rcases hwhere with h1 | h1
                    · have h1 : σ.ob = some g := h1
                      rw [← h1]
                      exact hN.keep _ _ _ _ _ h' hpres
                    · subst h1
                      exact hN.move _ _ _ _ _ _ h' hpres (Nat.le_refl _)
                  exact hk _ _ _ _ h (R'.put o.dst (x := .a (.s .ow)) (v := .slice (some ⟨g, 0, none⟩) (l.length + (z :: m).length) cap) rfl) ⟨fun _ _ h => h, fun b _ _ hw => absurd hw (by simp [writesOwn, ho, hc]), fun hw => absurd hw (by simp [writesOwn, ho, hc])⟩
              split at h
              · rename_i l z m e1 e2 e3
                obtain ⟨hlen, h⟩ := h
                have hx : a.eval x = σ.vo := ev_rel' R e1
                exact go l z m .bad (by rw [hx]; exact R.os l e2) hx (ev_rel' R e3) hlen h
              · rename_i z m e1 e2 e3
                obtain ⟨hlen, h⟩ := h
                have hx : a.eval x = .slice none 0 0 := ev_rel' R e1
                exact go [] z m .bad (by rw [hx]; exact World.ownsRow_nil _ _ _ _) (by rw [hx, R.on e2]; rfl) (ev_rel' R e3) (by simpa using hlen) h
              · exact h.elim
            · exact h.elim
          · exact h.elim
      · exact h.elim
    | _ => first | (simp only [ho] at h; exact h.elim) | exact absurd (by simp [isSoft, ho]) hs
end Sx
