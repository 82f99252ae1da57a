/- THE EXECUTOR IS SOUND: regions, code, functions. -/
import Derived.Test.YtpliondhiahhnaaS2
import Derived.Deep.LoopGhost
namespace Sx
open Go Go.RowKit
/-! ### A region that draws its order, in one order -/
section
variable {P : Program} {ops : Array Oper} {Q : Exit → Act → World → Prop} {S : World → Prop} {md : Region.Mode}
def wpSeq (P : Program) (ops : Array Oper) (Q : Exit → Act → World → Prop) (S : World → Prop) : List (Nat × Bool) → Act → World → Prop
  | [], a, w => Q .normal a w
  | (i, true) :: r, a, w => ∃ oi v, ops[i]? = some oi ∧ (∀ c a w, Q (.panic c) (a.put oi.dst v) w → Q (.panic c) a w) ∧ YieldsIf P ops S oi v a ∧ wpSeq P ops Q S r (a.put oi.dst v) w
  | (i, false) :: r, a, w => ∃ oi, ops[i]? = some oi ∧ ∀ K : Act → World → Prop, (∀ a' w', S w' → wpSeq P ops Q S r a' w' → K a' w') → if Region.wanted oi (yielded ops a.tmps) = true then Oper.wp P oi a w K Q else K (a.put oi.dst undef) w
theorem seq_sound (hn : Region.noSelect ops = true) : ∀ (r : List (Nat × Bool)) (l : Array Bool) (a : Act) (w : World), okSeq md ops l r = true → S w → wpSeq P ops Q S r a w → ∀ fuel, r.length ≤ fuel → wpAnyH P md ops Q S fuel l a w
  | [], l, a, w, hok, _, h, fuel, _ => wpAnyH_done (by simpa [okSeq] using hok) h fuel
  | (i, true) :: r, l, a, w, hok, hS, h, fuel, hf => by
    obtain ⟨fuel, rfl⟩ : ∃ n, fuel = n + 1 := ⟨fuel - 1, by simp at hf; omega⟩
    simp only [okSeq, Bool.and_eq_true] at hok
    obtain ⟨⟨h1, h2⟩, h3⟩ := hok
    obtain ⟨oi, v, hi, hQ, hy, hr⟩ := h
    exact wpAnyH_take hi hn h1 h2 hQ hy hS (seq_sound hn r _ _ _ h3 hS hr fuel (by simp at hf; omega))
  | (i, false) :: r, l, a, w, hok, hS, h, fuel, hf => by
    obtain ⟨fuel, rfl⟩ : ∃ n, fuel = n + 1 := ⟨fuel - 1, by simp at hf; omega⟩
    simp only [okSeq, Bool.and_eq_true, beq_iff_eq] at hok
    obtain ⟨h1, h3⟩ := hok
    obtain ⟨oi, hi, hK⟩ := h
    refine wpAnyH_ready h1 (by simp) (AllReadyH.cons hi (fun K hK' => ?_) AllReadyH.nil)
    exact hK K (fun a' w' hS' hr => hK'.out a' w' hS' (fun hS'' => seq_sound hn r _ _ _ h3 hS' hr fuel (by simp at hf; omega)))
theorem reg_seq {id : Nat} {a : Act} {w : World} (S : World → Prop) (r : List (Nat × Bool)) (hm : P.follows .mixedOrders = true) (hok : (Region.noSelect ops && okSeq .any ops (Array.replicate ops.size false) r && r.length == ops.size) = true) (hS : S w.drew)
    (h : wpSeq P ops Q S r a w.drew) : (Code.region id ops true).wp P Q a w := by
  simp only [Bool.and_eq_true, beq_iff_eq] at hok
  obtain ⟨⟨h1, h2⟩, h3⟩ := hok
  exact wp_region_held_drew (S := S) hm hS (fun hS' => seq_sound h1 r _ _ _ h2 hS' h _ (by omega))
end
variable {T : TypeId} {N : Option Nat → World → List Int → Value → Prop} {B : Nat} {w0 : World} {σ : Pl} {s : St} {a : Act} {w : World} {P : Program} {Φ : LV → Prop} {C : Tab}
theorem guarded_sound {ops : Array Oper} {o : Oper} {run skip : St → Tr} (h : WT N P Φ (guarded ops o s run skip)) (R : Rel N T B w0 σ s a w) :
    ∃ s', Rel N T B w0 σ s' a w ∧ s'.h = s.h ∧ ((Region.wanted o (yielded ops a.tmps) = true ∧ WT N P Φ (run s')) ∨ (Region.wanted o (yielded ops a.tmps) = false ∧ WT N P Φ (skip s'))) := by
  unfold guarded at h
  split at h
  · rename_i hg
    exact ⟨s, R, rfl, .inl ⟨by simp [Region.wanted, hg], h⟩⟩
  · rename_i j want hg
    split at h
    · rename_i d hd
      split at h
      · rename_i hlt
        have ht : a.tmps[d]? = some (a.tmps.getD d undef) := by
          have : d < a.tmps.size := by rw [R.tsz]; exact hlt
          simp [this]
        have hr := R.tm d
        split at h
        · rename_i b hb
          rw [hb] at hr
          have hv : a.eval (.tmp d) = .bool b := hr
          have hy : yielded ops a.tmps j = some b := by
            have hr' : a.tmps.getD d undef = .bool b := hr
            simp only [yielded, hd, Option.bind_some, ht, hr']
          have hh : ∀ b, (s.know (.tmp d) b).h = s.h := fun b => put_h _ _ _
          split at h
          · rcases h.unbr with ⟨hb2, h⟩ | ⟨hb2, h⟩
            · subst hb2; exact ⟨_, know_rel R (.tmp d) hv, hh _, .inl ⟨by simp [Region.wanted, hg, hy], h⟩⟩
            · subst hb2; exact ⟨_, know_rel R (.tmp d) hv, hh _, .inr ⟨by simp [Region.wanted, hg, hy], h⟩⟩
          · rcases h.unbr with ⟨hb2, h⟩ | ⟨hb2, h⟩
            · subst hb2; exact ⟨_, know_rel R (.tmp d) hv, hh _, .inr ⟨by simp [Region.wanted, hg, hy], h⟩⟩
            · subst hb2; exact ⟨_, know_rel R (.tmp d) hv, hh _, .inl ⟨by simp [Region.wanted, hg, hy], h⟩⟩
        · rename_i vs hb
          rw [hb] at hr
          have hy : yielded ops a.tmps j = none := by
            have hr' : a.tmps.getD d undef = .tuple vs := hr
            simp only [yielded, hd, Option.bind_some, ht, hr']
          exact ⟨s, R, rfl, .inr ⟨by simp [Region.wanted, hg, hy], h⟩⟩
        · exact h.elim
      · exact h.elim
    · exact h.elim
theorem seqO_sound (hN : NK T N) {ops : Array Oper} {Q : Exit → Act → World → Prop} {k : St → Tr} (hk : ∀ s' σ' a' w', WT N P Φ (k s') → Rel N T B w0 σ' s' a' w' → Q .normal a' w') :
    ∀ (l : List Nat) (s : St) (σ : Pl) (a : Act) (w : World), WT N P Φ (seqO P T C ops l k s) → Rel N T B w0 σ s a w → wpOps P ops Q l a w
  | [], s, σ, a, w, h, R => hk _ _ _ _ h R
  | i :: r, s, σ, a, w, h, R => by
    simp only [seqO] at h
    simp only [wpOps]
    split at h
    · rename_i o hi
      rw [hi]
      dsimp only
      obtain ⟨s', R', _, h' | h'⟩ := guarded_sound h R
      · rw [if_pos h'.1]
        exact .inl (step_sound hN h'.2 R' fun s'' σ'' a'' w'' h1 h2 _ => seqO_sound hN hk r s'' σ'' a'' w'' h1 h2)
      · rw [if_neg (by rw [h'.1]; decide)]
        exact seqO_sound hN hk r _ σ _ w h'.2 (R'.put o.dst (x := und) (v := undef) rfl)
    · exact h.elim
theorem okSoft_soft {m : List Nat} {n0 : Nat} {o : Oper} (h : okSoft m n0 s o = true) : isSoft o = true ∧ (∀ i, loadsFrom s o = some i → i ∉ m ∧ i < n0) ∧ loadsOwn s o = false ∧ loadsEn s o = false := by
  unfold okSoft at h
  unfold isSoft loadsFrom loadsOwn loadsEn
  cases ho : o.op with
  | load t x =>
    simp only [ho] at h ⊢
    split at h
    · rename_i j off e
      rw [e]
      refine ⟨trivial, fun i hi => ?_, rfl, rfl⟩
      simp only [Option.some.injEq] at hi; subst hi
      simpa using h
    · cases h
  | call c =>
    simp only [ho] at h ⊢
    exact ⟨h, (fun i hi => by cases hi), (by trivial), (by trivial)⟩
  | _ => first | (simp [ho] at h; done) | (simp only [ho] at h ⊢; exact ⟨trivial, (fun i hi => by cases hi), (by trivial), (by trivial)⟩)
theorem okHard_hard {m : List Nat} {n0 : Nat} {o : Oper} (h : okHard m n0 s o = true) : (∀ i, storesTo s o = some i → i ∈ m ∨ n0 ≤ i) ∧ writesOwn s o = false := by
  unfold okHard at h
  unfold storesTo writesOwn
  cases ho : o.op with
  | store t x y =>
    simp only [ho] at h ⊢
    constructor
    · intro i hi
      split at h
      · rename_i j off e
        rw [e] at hi
        simp only [Option.some.injEq] at hi; subst hi
        simpa using h
      · cases h
    · split at h
      · rename_i j off e; rw [e]
      · cases h
  | makeSlice t x y => simp [ho] at h
  | call c =>
    simp only [ho] at h ⊢
    refine ⟨(fun i hi => by cases hi), ?_⟩
    split at h
    · cases h
    · rename_i hne
      split
      · rename_i e; exact absurd e hne
      · rfl
  | _ => exact ⟨(fun i hi => by cases hi), rfl⟩
/-- blocks that the region does not store to -/
def Held (σ0 m : List Nat) (ws w' : World) : Prop := ∀ i b : Nat, σ0[i]? = some b → i ∉ m → w'.heap[b]? = ws.heap[b]?
theorem seqD_sound (hN : NK T N) {ops : Array Oper} {Q : Exit → Act → World → Prop} (hQ : ∀ c a d v w, Q (.panic c) (Act.put a d v) w → Q (.panic c) a w) {k : St → Tr} {σ0 m : List Nat} {ws : World}
    (hk : ∀ s' σ' a' w', WT N P Φ (k s') → Rel N T B w0 σ' s' a' w' → Q .normal a' w') :
    ∀ (l : List (Nat × Bool)) (s : St) (σ : Pl) (a : Act) (w : World), WT N P Φ (seqD P T C ops m σ0.length l k s) → Rel N T B w0 σ s a w → (∀ i b : Nat, σ0[i]? = some b → σ.g[i]? = some b) → Held σ0 m ws w →
      wpSeq P ops Q (Held σ0 m ws) l a w
  | [], s, σ, a, w, h, R, _, _ => hk _ _ _ _ h R
  | (i, true) :: r, s, σ, a, w, h, R, hp, hS => by
    simp only [seqD] at h
    split at h
    · rename_i o hi
      obtain ⟨s', R', _, h' | h'⟩ := guarded_sound h R
      · obtain ⟨h1, h2⟩ := h'
        simp only [if_true] at h2
        split at h2
        · rename_i hok
          obtain ⟨hs, hl, hno, hno2⟩ := okSoft_soft hok
          obtain ⟨s'', x, v, g1, g2, g3, _, g5⟩ := soft_sound hN hs h2 R'
          refine ⟨o, v, hi, fun c a w => hQ c a _ _ w, .inl ⟨h1, fun w' hw' => g5 w' (fun j b hj hb => ?_) (fun h => by rw [hno2] at h; cases h) (fun h => by rw [hno] at h; cases h)⟩, ?_⟩
          · obtain ⟨l1, l2⟩ := hl j hj
            have hb0 : σ0[j]? = some b := by
              have := hp j _ (List.getElem?_eq_getElem l2)
              rw [this] at hb; rw [List.getElem?_eq_getElem l2]; exact hb
            rw [hw' j b hb0 l1, hS j b hb0 l1]
          · exact seqD_sound hN hQ hk r _ σ _ w g1 (g2.put o.dst g3) hp hS
        · exact h2.elim
      · exact ⟨o, undef, hi, fun c a w => hQ c a _ _ w, .inr ⟨h'.1, rfl⟩, seqD_sound hN hQ hk r _ σ _ w h'.2 (R'.put o.dst (x := und) (v := undef) rfl) hp hS⟩
    · exact h.elim
  | (i, false) :: r, s, σ, a, w, h, R, hp, hS => by
    simp only [seqD] at h
    split at h
    · rename_i o hi
      refine ⟨o, hi, fun K hK => ?_⟩
      obtain ⟨s', R', _, h' | h'⟩ := guarded_sound h R
      · obtain ⟨h1, h2⟩ := h'
        rw [if_pos h1]
        simp only [Bool.false_eq_true, if_false] at h2
        split at h2
        · rename_i hok
          obtain ⟨hst, hwr⟩ := okHard_hard hok
          refine step_sound hN h2 R' fun s'' σ'' a'' w'' g1 g2 g3 => ?_
          have hS' : Held σ0 m ws w'' := by
            intro j b hj hm
            have h5 := g3.blk b (R'.lt (hp j b hj)) (fun q hq hb => by
              have : j = q := R'.inj j q b (hp j b hj) hb
              subst this
              rcases hst j hq with h3 | h3
              · exact hm h3
              · exact absurd (List.getElem?_eq_some_iff.1 hj).1 (by omega)) hwr
            rw [h5]; exact hS j b hj hm
          exact hK a'' w'' hS' (seqD_sound hN hQ hk r s'' σ'' a'' w'' g1 g2 (fun i b h => g3.sig i b (hp i b h)) hS')
        · exact h2.elim
      · rw [if_neg (by rw [h'.1]; decide)]
        exact hK _ _ hS (seqD_sound hN hQ hk r _ σ _ w h'.2 (R'.put o.dst (x := und) (v := undef) rfl) hp hS)
    · exact h.elim
theorem WT.conj_mem : ∀ {l : List Tr}, WT N P Φ (conj l) → ∀ x ∈ l, WT N P Φ x
  | [], h, x, hx => by cases hx
  | [y], h, x, hx => by rw [List.mem_singleton] at hx; subst hx; exact h
  | y :: z :: r, h, x, hx => by
    obtain ⟨h1, h2⟩ := h
    rcases List.mem_cons.1 hx with e | e
    · subst e; exact h1
    · exact WT.conj_mem h2 x e
theorem seqN_sound (hN : NK T N) {ops : Array Oper} {Q : Exit → Act → World → Prop} (hsel : Region.noSelect ops = true) (hQ : ∀ c a d v w, Q (.panic c) (Act.put a d v) w → Q (.panic c) a w) {k : St → Tr} {σ0 m : List Nat} {ws : World}
    (hk : ∀ s' σ' a' w', WT N P Φ (k s') → Rel N T B w0 σ' s' a' w' → Q .normal a' w') :
    ∀ (n : Nat) (l : Array Bool) (s : St) (σ : Pl) (a : Act) (w : World), WT N P Φ (seqN P T C ops m σ0.length n l k s) → Rel N T B w0 σ s a w → (∀ i b : Nat, σ0[i]? = some b → σ.g[i]? = some b) → Held σ0 m ws w →
      wpAnyH P .any ops Q (Held σ0 m ws) n l a w
  | 0, l, s, σ, a, w, h, R, _, _ => by
    simp only [seqN] at h
    split at h
    · rename_i hr
      exact wpAnyH_done (by simpa using hr) (hk _ _ _ _ h R) 0
    · exact h.elim
  | n + 1, l, s, σ, a, w, h, R, hp, hS => by
    simp only [seqN] at h
    split at h
    · rename_i i hfind
      have hpred := List.find?_some hfind
      have hmem := List.mem_of_find?_eq_some hfind
      simp only [Bool.and_eq_true] at hpred
      have hcon : (Region.ready .any ops l).contains i = true := by simpa using hmem
      split at h
      · rename_i o hi
        obtain ⟨s', R', _, h' | h'⟩ := guarded_sound h R
        · obtain ⟨h1, h2⟩ := h'
          split at h2
          · rename_i hok
            obtain ⟨hs, hl, hno, hno2⟩ := okSoft_soft hok
            obtain ⟨s'', x, v, g1, g2, g3, _, g5⟩ := soft_sound hN hs h2 R'
            refine wpAnyH_take (v := v) hi hsel hpred.2 hcon (fun c a w => hQ c a _ _ w) (.inl ⟨h1, fun w' hw' => g5 w' (fun j b hj hb => ?_) (fun h => by rw [hno2] at h; cases h) (fun h => by rw [hno] at h; cases h)⟩) hS ?_
            · obtain ⟨l1, l2⟩ := hl j hj
              have hb0 : σ0[j]? = some b := by
                have := hp j _ (List.getElem?_eq_getElem l2)
                rw [this] at hb; rw [List.getElem?_eq_getElem l2]; exact hb
              rw [hw' j b hb0 l1, hS j b hb0 l1]
            · exact seqN_sound hN hsel hQ hk n _ _ σ _ w g1 (g2.put o.dst g3) hp hS
          · exact h2.elim
        · exact wpAnyH_take (v := undef) hi hsel hpred.2 hcon (fun c a w => hQ c a _ _ w) (.inr ⟨h'.1, rfl⟩) hS (seqN_sound hN hsel hQ hk n _ _ σ _ w h'.2 (R'.put o.dst (x := und) (v := undef) rfl) hp hS)
      · exact h.elim
    · split at h
      · rename_i hr
        exact wpAnyH_done hr (hk _ _ _ _ h R) _
      · rename_i j r hr
        refine wpAnyH_all hr (by simp) (fun i hmem => ?_)
        have h := WT.conj_mem h _ (List.mem_map.2 ⟨i, hmem, rfl⟩)
        unfold wpOp
        split at h
        · rename_i o hi
          rw [hi]
          dsimp only
          obtain ⟨s', R', _, h' | h'⟩ := guarded_sound h R
          · obtain ⟨h1, h2⟩ := h'
            rw [if_pos h1]
            split at h2
            · rename_i hok
              obtain ⟨hst, hwr⟩ := okHard_hard hok
              refine .inl (step_sound hN h2 R' fun s'' σ'' a'' w'' g1 g2 g3 => ?_)
              have hS' : Held σ0 m ws w'' := by
                intro j b hj hm
                have h5 := g3.blk b (R'.lt (hp j b hj)) (fun q hq hb => by
                  have : j = q := R'.inj j q b (hp j b hj) hb
                  subst this
                  rcases hst j hq with h3 | h3
                  · exact hm h3
                  · exact absurd (List.getElem?_eq_some_iff.1 hj).1 (by omega)) hwr
                rw [h5]; exact hS j b hj hm
              exact ⟨hS', seqN_sound hN hsel hQ hk n _ s'' σ'' a'' w'' g1 g2 (fun i b h => g3.sig i b (hp i b h)) hS'⟩
            · exact h2.elim
          · rw [if_neg (by rw [h'.1]; decide)]
            exact ⟨hS, seqN_sound hN hsel hQ hk n _ _ σ _ w h'.2 (R'.put o.dst (x := und) (v := undef) rfl) hp hS⟩
        · exact h.elim
theorem seqA_sound (hN : NK T N) {ops : Array Oper} {Q : Exit → Act → World → Prop} (hQ : ∀ c a d v w, Q (.panic c) (Act.put a d v) w → Q (.panic c) a w) {k : St → Tr} {w : World}
    (hk : ∀ s' σ' a', WT N P Φ (k s') → Rel N T B w0 σ' s' a' w → Q .normal a' w) :
    ∀ (l : List (Nat × Bool)) (s : St) (σ : Pl) (a : Act), l.all (·.2) = true → WT N P Φ (seqA P T C ops (l.map (·.1)) k s) → Rel N T B w0 σ s a w → wpSeq P ops Q (fun w' => w' = w) l a w
  | [], s, σ, a, _, h, R => hk _ _ _ h R
  | (i, false) :: r, s, σ, a, ha, h, R => by simp at ha
  | (i, true) :: r, s, σ, a, ha, h, R => by
    simp only [List.map_cons, seqA] at h
    have ha' : r.all (·.2) = true := by simpa using ha
    split at h
    · rename_i o hi
      obtain ⟨s', R', _, h' | h'⟩ := guarded_sound h R
      · obtain ⟨h1, h2⟩ := h'
        split at h2
        · rename_i hs
          obtain ⟨s'', x, v, g1, g2, g3, _, g5⟩ := soft_sound hN hs h2 R'
          refine ⟨o, v, hi, fun c a w => hQ c a _ _ w, .inl ⟨h1, fun w' hw' => ?_⟩, seqA_sound hN hQ hk r _ σ _ ha' g1 (g2.put o.dst g3)⟩
          subst hw'
          exact g5 w' (fun _ _ _ _ => rfl) (fun _ => Pres.refl _ _ _) (fun _ _ _ => rfl)
        · exact h2.elim
      · exact ⟨o, undef, hi, fun c a w => hQ c a _ _ w, .inr ⟨h'.1, rfl⟩, seqA_sound hN hQ hk r _ σ _ ha' h'.2 (R'.put o.dst (x := und) (v := undef) rfl)⟩
    · exact h.elim
theorem getT_zipF (t : List (Nat × LV)) : ∀ (ds : List Nat) (i : Nat), getT (zipF ds (ds.map (getT t)) t) i = getT t i
  | [], i => rfl
  | d :: ds, i => by
    simp only [List.map_cons, zipF, getT]
    by_cases e : d = i
    · subst e; simp
    · have : Nat.beq d i = false := by
        cases h : Nat.beq d i with
        | false => rfl
        | true => exact absurd (Nat.eq_of_beq_eq_true h) e
      rw [this]; exact getT_zipF t ds i
theorem Rel.front (R : Rel N T B w0 σ s a w) (ds : List Nat) (ls : List LS) : Rel N T B w0 σ ⟨s.m, zipF ds (ds.map (getT s.t)) s.t, s.h, ls, s.o⟩ a w :=
  ⟨R.tsz, fun i => by rw [getT_zipF]; exact R.tm i, R.df, R.hl, R.hp, R.inj, R.lo, R.nt, R.bl, R.bs, R.ho, R.on, R.os⟩
theorem nilL_und : nilL und = und := rfl
theorem adoptL_und : adoptL und = und := rfl
theorem Rel.nils (hN : NK T N) (R : Rel N T B w0 σ s a w) : Rel N T B w0 σ { s with t := mapT nilL s.t } a w := by
  refine ⟨R.tsz, fun i => ?_, R.df, R.hl, R.hp, R.inj, R.lo, R.nt, R.bl, R.bs, R.ho, R.on, R.os⟩
  show Rl N σ w (getT (mapT nilL s.t) i) _
  rw [getT_mapT nilL nilL_und]
  have h := R.tm i
  revert h
  generalize getT s.t i = x
  intro h
  unfold nilL
  split
  · rename_i y
    unfold nilS
    split
    · have h : a.tmps.getD i undef = .slice none 0 0 := h
      rw [h]; exact hN.nil _ _
    · exact h
  · exact h
theorem Rel.adopted (R : Rel N T B w0 σ s a w) (hs : s.o = none) : Rel N T B w0 σ { s with o := some [], t := mapT adoptL s.t } a w := by
  have hv := R.on hs
  have := R.turn (vo' := σ.vo) (w' := w) (o' := some []) adoptL adoptL_und (fun i h => ?_) (fun _ _ h => h) (fun _ _ _ => rfl) (Below.refl _ _) (Nat.le_refl _) (fun h => by cases h) (fun l hl => by cases hl; rw [hv]; exact World.ownsRow_nil _ _ _ _)
  · exact this
  · revert h
    generalize getT s.t i = x
    intro h
    unfold adoptL
    split
    · rename_i y
      unfold adoptS
      split
      · have h : a.tmps.getD i undef = .slice none 0 0 := h
        show a.tmps.getD i undef = σ.vo
        rw [h, hv]; rfl
      · exact Rs.turn (σ := σ) (σ' := ⟨σ.g, σ.vo⟩) rfl (fun _ _ h => h) h
    · exact Rl.turn (σ := σ) (σ' := ⟨σ.g, σ.vo⟩) rfl (fun _ _ h => h) h
def toE : Ex → Exit
  | .normal => .normal
  | .exit i => .exit i
  | .ret => .ret
theorem exec_sound (hN : NK T N) : ∀ (c : Code) {k : Ex → St → Tr} {Q : Exit → Act → World → Prop} {s : St} {σ : Pl} {a : Act} {w : World}, (∀ c a d v w, Q (.panic c) (Act.put a d v) w → Q (.panic c) a w) →
    (∀ e s' σ' a' w', WT N P Φ (k e s') → Rel N T B w0 σ' s' a' w' → Q (toE e) a' w') → WT N P Φ (exec P T C c k s) → Rel N T B w0 σ s a w → c.wp P Q a w
  | .skip, k, Q, s, σ, a, w, hQ, hk, h, R => wp_skip (hk .normal _ _ _ _ h R)
  | .label _, k, Q, s, σ, a, w, hQ, hk, h, R => wp_label (hk .normal _ _ _ _ h R)
  | .exit id, k, Q, s, σ, a, w, hQ, hk, h, R => wp_exit (hk (.exit id) _ _ _ _ h R)
  | .ret, k, Q, s, σ, a, w, hQ, hk, h, R => wp_ret (hk .ret _ _ _ _ h R)
  | .seq x y, k, Q, s, σ, a, w, hQ, hk, h, R => by
    simp only [exec] at h
    refine wp_seq (exec_sound hN x (fun c a d v w => hQ c a d v w) (fun e s' σ' a' w' h1 h2 => ?_) h R)
    cases e with
    | normal => exact exec_sound hN y hQ hk h1 h2
    | exit i => exact hk (.exit i) _ _ _ _ h1 h2
    | ret => exact hk .ret _ _ _ _ h1 h2
  | .cond c x y, k, Q, s, σ, a, w, hQ, hk, h, R => by
    simp only [exec] at h
    split at h
    · rename_i b he
      have hv : a.eval c = .bool b := by have := ev_rel R c; rw [he] at this; exact this
      rcases h.unbr with ⟨hb, h⟩ | ⟨hb, h⟩
      · subst hb
        exact wp_cond hv (exec_sound hN x hQ hk h (know_rel R c hv))
      · subst hb
        exact wp_cond hv (exec_sound hN y hQ hk h (know_rel R c hv))
    · exact h.elim
  | .block id c, k, Q, s, σ, a, w, hQ, hk, h, R => by
    simp only [exec] at h
    refine wp_block (exec_sound hN c (fun c a d v w => hQ c a d v w) (fun e s' σ' a' w' h1 h2 => ?_) h R)
    cases e with
    | normal => exact hk .normal _ _ _ _ h1 h2
    | ret => exact hk .ret _ _ _ _ h1 h2
    | exit i =>
      show (if i = id then Q .normal a' w' else Q (.exit i) a' w')
      simp only at h1
      by_cases e : i = id
      · rw [if_pos e] at h1 ⊢; exact hk .normal _ _ _ _ h1 h2
      · rw [if_neg e] at h1 ⊢; exact hk (.exit i) _ _ _ _ h1 h2
  | .region id ops false, k, Q, s, σ, a, w, hQ, hk, h, R => by
    simp only [exec] at h
    exact wp_region (seqO_sound hN (k := k .normal) (fun s' σ' a' w' h1 h2 => hk .normal _ _ _ _ h1 h2) _ s σ a w h R)
  | .region id ops true, k, Q, s, σ, a, w, hQ, hk, h, R => by
    simp only [exec] at h
    split at h
    · rename_i hc
      simp only [Bool.and_eq_true] at hc
      obtain ⟨⟨⟨⟨c1, c2⟩, c3⟩, c5⟩, c4⟩ := hc
      exact reg_seq (fun w' => w' = w.drew) _ c4 (by rw [c1, c2, c3]; rfl) rfl
        (seqA_sound hN hQ (k := k .normal) (fun s' σ' a' h1 h2 => hk .normal _ _ _ _ h1 h2) _ s σ a c5 h (R.drew hN))
    · split at h
      · rename_i hc
        simp only [Bool.and_eq_true] at hc
        obtain ⟨⟨⟨c1, c2⟩, c3⟩, c4⟩ := hc
        rw [← R.hl] at h
        exact reg_seq (Held σ.g (mask ops s) w.drew) _ c4 (by rw [c1, c2, c3]; rfl) (fun _ _ _ _ => rfl)
          (seqD_sound hN hQ (k := k .normal) (fun s' σ' a' w' h1 h2 => hk .normal _ _ _ _ h1 h2) _ s σ a w.drew h (R.drew hN) (fun _ _ h => h) (fun _ _ _ _ => rfl))
      · split at h
        · rename_i hc
          simp only [Bool.and_eq_true] at hc
          obtain ⟨c1, c4⟩ := hc
          rw [← R.hl] at h
          exact wp_region_held_drew (S := Held σ.g (mask ops s) w.drew) c4 (fun _ _ _ _ => rfl) (fun hS => seqN_sound hN c1 hQ (k := k .normal) (fun s' σ' a' w' h1 h2 => hk .normal _ _ _ _ h1 h2) _ _ s σ a w.drew h (R.drew hN) (fun _ _ h => h) hS)
        · exact h.elim
  | .loop c, k, Q, s, σ, a, w, hQ, hk, h, R => by
    simp only [exec] at h
    split at h
    · exact h.elim
    · rename_i L ls hl
      have h1 : Rel N T B w0 σ (enterL L s) a w := by
        unfold enterL
        split
        · split
          · rename_i hs; exact R.adopted hs
          · exact R
        · exact R.nils hN
      obtain ⟨⟨x0, hx0, hJ0, ho0⟩, h⟩ := h
      have h2 := h1.front L.ds (L.nx x0 ++ ls)
      rw [hx0, ho0] at h2
      have hm : (enterL L s).m = s.m := by
        unfold enterL
        split
        · split <;> rfl
        · rfl
      have hh : (enterL L s).h = s.h := by
        unfold enterL
        split
        · split <;> rfl
        · rfl
      rw [hm, hh] at h2
      refine wp_loop_ghost (fun n a w => ∃ x rest σ', L.mu x = n ∧ L.J x ∧ Rel N T B w0 σ' ⟨s.m, zipF L.ds (L.val x) rest, s.h, L.nx x ++ ls, L.own x⟩ a w) (L.mu x0) ⟨x0, _, σ, rfl, hJ0, h2⟩ ?_
      rintro n a w ⟨x, rest, σ', rfl, hJ, R'⟩
      refine exec_sound hN c (fun c a d v w => hQ c a d v w) (fun e s' σ'' a' w' h1 h2 => ?_) (h x rest hJ) R'
      cases e with
      | normal =>
        obtain ⟨⟨y, hy, hJy, hlt, hoy⟩, hh, hm⟩ := h1
        refine ⟨L.mu y, hlt, y, s'.t, σ'', rfl, hJy, ?_⟩
        have := Rel.front h2 L.ds (L.nx y ++ ls)
        rw [hy, hh, hm, hoy] at this
        exact this
      | exit i => exact hk (.exit i) _ _ _ _ h1 h2
      | ret => exact hk .ret _ _ _ _ h1 h2
  | .rangeFunc .., k, Q, s, σ, a, w, hQ, hk, h, R => h.elim
  | .scope _, k, Q, s, σ, a, w, hQ, hk, h, R => h.elim
  | .goto _, k, Q, s, σ, a, w, hQ, hk, h, R => h.elim
  | .refuse _, k, Q, s, σ, a, w, hQ, hk, h, R => h.elim
/-! ### What a function returns -/
def runR (tmps : Array Value) : ResultVar → Sem Value
  | .tmp t => pure (tmps.getD t undef)
  | .cell a t => do loadVar t (← asAddr (tmps.getD a undef))
theorem resA_run {r : ResultVar} {x : AV} (h : resA P s r = some x) (R : Rel N T B w0 σ s a w) : ∃ v y, x = pubA s y ∧ (runR a.tmps r).run P w = .ok v w ∧ Ra N σ w y v := by
  cases r with
  | tmp t =>
    simp only [resA] at h
    split at h
    · rename_i y e
      simp only [Option.some.injEq] at h; subst h
      have := R.tm t
      rw [e] at this
      exact ⟨_, y, rfl, rfl, this⟩
    · cases h
  | cell p t =>
    simp only [resA] at h
    split at h
    · rename_i i off e
      have hr := R.tm p
      rw [e] at hr
      obtain ⟨b, hb, e1⟩ := hr
      split at h
      · rename_i ty cs n hh hg hn
        split at h
        · rename_i hc
          simp only [Bool.and_eq_true, beq_iff_eq] at hc
          obtain ⟨rfl, hc⟩ := hc
          simp only [Option.some.injEq] at h; subst h
          obtain ⟨vs, hv, hp⟩ := R.hp i b ty cs hb hh
          obtain ⟨d, hd1, hd2⟩ := isAg_run hg
          have hz : (P.info? t).map (·.size) = some vs.size := by
            have : sz P t = some n := hn
            unfold sz at this; rw [this, hc, hp.1]; simp
          have hrow := run_loadVar_row w b ty t vs (0, 0) d hv hd1 (by cases d <;> simp_all) hz
          exact ⟨.agg vs, .agg cs, rfl, by simp only [runR, e1, asAddr, Sem.run_bind, Sem.run_pure, Result.andThen_ok, hrow], vs, rfl, hp⟩
        · cases h
      · rename_i ty cs hh hg
        split at h
        · rename_i c hc
          simp only [Option.some.injEq] at h; subst h
          obtain ⟨vs, hv, hp⟩ := R.hp i b ty cs hb hh
          obtain ⟨v, hv2, hr⟩ := hp.get hc
          have hcell : w.cell? ⟨b, off, none⟩ = some v := by rw [cell_of_row w b off vs ty (0, 0) hv]; simpa using hv2
          exact ⟨v, .s c, rfl, by simp only [runR, e1, asAddr, Sem.run_bind, Sem.run_pure, Result.andThen_ok, loadVar, isAgg_run hg, Bool.false_eq_true, if_false, run_load, hcell], hr⟩
        · cases h
      · cases h
    · cases h
theorem results_eq (fn : Func) (tmps : Array Value) : results fn tmps = (do
    let vs ← fn.results.mapM (runR tmps)
    pure (if h : vs.size = 1 then vs[0] else .tuple vs)) := by
  unfold results
  congr 1
theorem resL_run (hN : NK T N) {fn : Func} {x : LV} (h : resL P s fn.results.toList = some x) (hno : noR x = true) (R : Rel N T B w0 σ s a w) : ∃ v, (results fn a.tmps).run P w = .ok v w ∧ Rl N pl0 w x v := by
  have key : ∀ (vs : List Value), (fn.results.toList.mapM (runR a.tmps)).run P w = .ok vs w → (results fn a.tmps).run P w = .ok (if h : vs.toArray.size = 1 then vs.toArray[0] else .tuple vs.toArray) w := by
    intro vs hv
    rw [results_eq, Sem.run_bind, Array.mapM_eq_mapM_toList, Sem.run_map, hv]
    rfl
  unfold resL at h
  split at h
  · rename_i r e
    split at h
    · rename_i y e1
      simp only [Option.some.injEq] at h; subst h
      obtain ⟨v, y1, rfl, hv, hr⟩ := resA_run e1 R
      exact ⟨v, key [v] (by rw [e]; simp [List.mapM_cons, hv]), pubA_rel hN R hr hno⟩
    · cases h
  · rename_i r1 r2 e
    split at h
    · rename_i y z e1 e2
      simp only [Option.some.injEq] at h; subst h
      obtain ⟨v, y1, rfl, hv, hr⟩ := resA_run e1 R
      obtain ⟨u, y2, rfl, hu, hr2⟩ := resA_run e2 R
      simp only [noR, List.all_cons, List.all_nil, Bool.and_true, Bool.and_eq_true] at hno
      obtain ⟨n1, n2⟩ := hno
      exact ⟨.tuple #[v, u], key [v, u] (by rw [e]; simp [List.mapM_cons, hv, hu]), #[v, u], rfl, Pw.cons (pubA_rel hN R hr n1) (Pw.cons (pubA_rel hN R hr2 n2) Pw.nil)⟩
    · cases h
  · rename_i r1 r2 r3 e
    split at h
    · rename_i y z q e1 e2 e3
      simp only [Option.some.injEq] at h; subst h
      obtain ⟨v, y1, rfl, hv, hr⟩ := resA_run e1 R
      obtain ⟨u, y2, rfl, hu, hr2⟩ := resA_run e2 R
      obtain ⟨x, y3, rfl, hx, hr3⟩ := resA_run e3 R
      simp only [noR, List.all_cons, List.all_nil, Bool.and_true, Bool.and_eq_true] at hno
      obtain ⟨n1, n2, n3⟩ := hno
      exact ⟨.tuple #[v, u, x], key [v, u, x] (by rw [e]; simp [List.mapM_cons, hv, hu, hx]), #[v, u, x], rfl, Pw.cons (pubA_rel hN R hr n1) (Pw.cons (pubA_rel hN R hr2 n2) (Pw.cons (pubA_rel hN R hr3 n3) Pw.nil))⟩
    · cases h
  · rename_i r1 r2 r3 r4 e
    split at h
    · rename_i y z q p e1 e2 e3 e4
      simp only [Option.some.injEq] at h; subst h
      obtain ⟨v, y1, rfl, hv, hr⟩ := resA_run e1 R
      obtain ⟨u, y2, rfl, hu, hr2⟩ := resA_run e2 R
      obtain ⟨x, y3, rfl, hx, hr3⟩ := resA_run e3 R
      obtain ⟨t, y4, rfl, ht, hr4⟩ := resA_run e4 R
      simp only [noR, List.all_cons, List.all_nil, Bool.and_true, Bool.and_eq_true] at hno
      obtain ⟨n1, n2, n3, n4⟩ := hno
      exact ⟨.tuple #[v, u, x, t], key [v, u, x, t] (by rw [e]; simp [List.mapM_cons, hv, hu, hx, ht]), #[v, u, x, t], rfl, Pw.cons (pubA_rel hN R hr n1) (Pw.cons (pubA_rel hN R hr2 n2) (Pw.cons (pubA_rel hN R hr3 n3) (Pw.cons (pubA_rel hN R hr4 n4) Pw.nil)))⟩
    · cases h
  · cases h
theorem getT_num : ∀ (l : List LV) (n i : Nat), n ≤ i → getT (num n l) i = l.getD (i - n) und
  | [], n, i, _ => by simp [num, getT]
  | x :: l, n, i, h => by
    simp only [num, getT]
    by_cases e : n = i
    · subst e; simp
    · have : Nat.beq n i = false := by
        cases h : Nat.beq n i with
        | false => rfl
        | true => exact absurd (Nat.eq_of_beq_eq_true h) e
      rw [this]
      show getT (num (n + 1) l) i = _
      rw [getT_num l (n + 1) i (by omega), show i - n = (i - (n + 1)) + 1 by omega]
      simp
/-- **A tree whose conditions hold is a function's contract.** -/
theorem treeL_sound (hN : NK T N) {Ls : List LS} {f : FuncId} {args : List LV} {r : LV} (h : WT N P (fun x => x = r) (treeL P T C Ls f args)) : Cn N P f args r := by
  intro w vs hp
  unfold treeL at h
  split at h
  · rename_i fn hf
    split at h
    · rename_i c hb
      have hl : args.length = vs.size := by rw [hp.1]; simp
      refine calls_of_wp hf hb (exec_sound (Φ := fun x => x = r) (B := w.heap.size) (w0 := w) hN c (k := fin P fn) (σ := pl0) ?_ ?_ h ?_)
      · rintro ch a d v w ⟨h1, h2⟩
        refine ⟨?_, h2⟩
        cases d <;> exact h1
      · intro e s' σ' a' w' h1 R
        have key : WT N P (fun x => x = r) (match resL P s' fn.results.toList with | some r => if noR r then .ret r else .bad | none => .bad) → a'.defers = [] ∧ ∃ v, (results fn a'.tmps).run P w' = .ok v w' ∧ ∃ u, Ending.returned v = .returned u ∧ Rl N pl0 w' r u ∧ Below w.heap.size w w' := by
          intro h1
          split at h1
          · rename_i x hx
            split at h1
            · rename_i hno
              obtain ⟨v, hv, hr⟩ := resL_run hN hx hno R
              have h1 : x = r := h1
              subst h1
              exact ⟨R.df, v, hv, v, rfl, hr, R.bl⟩
            · exact h1.elim
          · exact h1.elim
        cases e with
        | normal => exact key h1
        | ret => exact key h1
        | exit i => exact h1.elim
      · refine ⟨?_, ?_, rfl, rfl, ?_, ?_, ?_, ?_, Below.refl _ _, Nat.le_refl _, ?_, fun _ => rfl, fun l h => by cases h⟩
        · simp [ent, hl]; omega
        · intro i
          show Rl N pl0 w (getT (num 0 args) i) _
          rw [getT_num _ 0 i (Nat.zero_le _), Nat.sub_zero]
          by_cases hi : i < args.length
          · obtain ⟨v, hv, hr⟩ := hp.get (List.getElem?_eq_getElem hi)
            have hiv : i < vs.size := by omega
            have e1 : args.getD i und = args[i] := by simp [List.getD, List.getElem?_eq_getElem hi]
            have e2 : (vs ++ Array.replicate (fn.ntmps - vs.size) undef).getD i undef = v := by
              rw [Array.getD_eq_getD_getElem?, Array.getElem?_append_left hiv]
              have : vs[i]? = some v := by simpa using hv
              rw [this]; rfl
            show Rl N pl0 w (args.getD i und) ((vs ++ Array.replicate (fn.ntmps - vs.size) undef).getD i undef)
            rw [e1, e2]; exact hr
          · have e1 : args.getD i und = und := by simp [List.getD, List.getElem?_eq_none (by omega : args.length ≤ i)]
            have e2 : (vs ++ Array.replicate (fn.ntmps - vs.size) undef).getD i undef = undef := by
              rw [Array.getD_eq_getD_getElem?, Array.getElem?_append_right (by omega)]
              rw [Array.getElem?_replicate]; split <;> rfl
            show Rl N pl0 w (args.getD i und) ((vs ++ Array.replicate (fn.ntmps - vs.size) undef).getD i undef)
            rw [e1, e2]; rfl
        · intro i b ty cs h; simp [pl0] at h
        · intro i j b h; simp [pl0] at h
        · intro i b h; simp [pl0] at h
        · intro i ty cs h; simp [ent] at h
        · intro i ty cs h; simp [ent] at h
    · exact h.elim
  · exact h.elim
theorem tree_sound (hN : NK T N) {f : FuncId} {args : List LV} {r : LV} (h : WT N P (fun x => x = r) (tree P T C f args)) : Cn N P f args r := treeL_sound hN h
end Sx
