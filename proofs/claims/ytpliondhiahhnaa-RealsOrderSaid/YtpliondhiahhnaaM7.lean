/- PLAIN: numbers as digits to the base 65536. No program. -/
import Derived.Test.YtpliondhiahhnaaM2
namespace Fl
def dig (n : Nat) : List Int := if n = 0 then [] else ((n % 65536 : Nat) : Int) :: dig (n / 65536)
termination_by n
decreasing_by exact Nat.div_lt_self (by omega) (by decide)
/-- the value of digits -/
def vl : List Int → Nat
  | [] => 0
  | d :: r => d.toNat + 65536 * vl r
def okd (l : List Int) : Prop := ∀ d ∈ l, 0 ≤ d ∧ d < 65536
theorem dig_zero : dig 0 = [] := by unfold dig; rfl
theorem dig_pos {n : Nat} (h : n ≠ 0) : dig n = ((n % 65536 : Nat) : Int) :: dig (n / 65536) := by rw [dig, if_neg h]
theorem vl_dig : ∀ n : Nat, vl (dig n) = n := by
  intro n
  induction n using Nat.strongRecOn with
  | _ n ih =>
    by_cases h : n = 0
    · subst h; rw [dig_zero]; rfl
    · rw [dig_pos h]
      simp only [vl, Int.toNat_natCast]
      rw [ih (n / 65536) (Nat.div_lt_self (by omega) (by decide))]; omega
theorem okd_dig : ∀ n : Nat, okd (dig n) := by
  intro n
  induction n using Nat.strongRecOn with
  | _ n ih =>
    by_cases h : n = 0
    · subst h; rw [dig_zero]; intro d hd; cases hd
    · rw [dig_pos h]
      intro d hd
      rcases List.mem_cons.1 hd with rfl | hd
      · omega
      · exact ih _ (Nat.div_lt_self (by omega) (by decide)) d hd
theorem okd_cons {d : Int} {l : List Int} : okd (d :: l) ↔ (0 ≤ d ∧ d < 65536) ∧ okd l := by
  unfold okd; simp
theorem okd_append {l m : List Int} (h : okd l) (k : okd m) : okd (l ++ m) := fun d hd => by
  rcases List.mem_append.1 hd with h1 | h1
  · exact h d h1
  · exact k d h1
theorem okd_take {l : List Int} (h : okd l) (n : Nat) : okd (l.take n) := fun d hd => h d (List.mem_of_mem_take hd)
theorem okd_get {l : List Int} (h : okd l) (j : Nat) : 0 ≤ l.getD j 0 ∧ l.getD j 0 < 65536 := by
  rw [List.getD_eq_getElem?_getD]
  cases hq : l[j]? with
  | none => simp
  | some x => simpa using h x (List.mem_of_getElem? hq)
theorem vl_append : ∀ (l m : List Int), vl (l ++ m) = vl l + 65536^l.length * vl m
  | [], m => by simp [vl]
  | d :: l, m => by
    simp only [List.cons_append, vl, List.length_cons]
    rw [vl_append l m, Nat.pow_succ, Nat.mul_add]
    have : 65536 ^ l.length * 65536 * vl m = 65536 * (65536 ^ l.length * vl m) := by ac_rfl
    omega
theorem vl_lt : ∀ {l : List Int}, okd l → vl l < 65536^l.length
  | [], _ => by simp [vl]
  | d :: l, h => by
    obtain ⟨h1, h2⟩ := okd_cons.1 h
    have := vl_lt h2
    simp only [vl, List.length_cons]
    rw [Nat.pow_succ]
    omega
theorem vl_take (l : List Int) (n : Nat) : vl l = vl (l.take n) + 65536^(l.take n).length * vl (l.drop n) := by
  rw [← vl_append, List.take_append_drop]
theorem vl_take_succ {l : List Int} {n : Nat} (h : n < l.length) : vl (l.take (n+1)) = vl (l.take n) + 65536^n * (l.getD n 0).toNat := by
  rw [List.take_succ_eq_append_getElem h, vl_append]
  simp only [vl, List.length_take, Nat.min_eq_left (Nat.le_of_lt h), Nat.mul_zero, Nat.add_zero]
  rw [List.getD_eq_getElem?_getD, List.getElem?_eq_getElem h]; rfl
theorem vl_drop_succ {l : List Int} {n : Nat} (h : n < l.length) : vl (l.drop n) = (l.getD n 0).toNat + 65536 * vl (l.drop (n+1)) := by
  rw [List.drop_eq_getElem_cons h]
  simp only [vl]
  rw [List.getD_eq_getElem?_getD, List.getElem?_eq_getElem h]; rfl
theorem vl_take_all {l : List Int} {n : Nat} (h : l.length ≤ n) : vl (l.take n) = vl l := by rw [List.take_of_length_le h]
theorem dig_vl : ∀ {l : List Int}, okd l → (∀ h : l ≠ [], l.getLast h ≠ 0) → dig (vl l) = l
  | [], _, _ => dig_zero
  | d :: l, h, hl => by
    obtain ⟨h1, h2⟩ := okd_cons.1 h
    have hl' : ∀ h : l ≠ [], l.getLast h ≠ 0 := fun hn => by
      have := hl (by simp)
      rwa [List.getLast_cons hn] at this
    have ih := dig_vl h2 hl'
    have hne : vl (d :: l) ≠ 0 := by
      simp only [vl]
      intro e
      have hv : vl l = 0 := by omega
      have hd : d = 0 := by omega
      rw [hv, dig_zero] at ih
      subst ih
      exact hl (by simp) hd
    rw [dig_pos hne]
    have e1 : vl (d :: l) % 65536 = d.toNat := by simp only [vl]; omega
    have e2 : vl (d :: l) / 65536 = vl l := by simp only [vl]; omega
    rw [e1, e2, ih]
    congr 1; omega
theorem dig_last {n : Nat} (h : dig n ≠ []) : (dig n).getLast h ≠ 0 := by
  revert h
  induction n using Nat.strongRecOn with
  | _ n ih =>
    intro h
    have hn : n ≠ 0 := by intro e; subst e; exact h dig_zero
    by_cases hq : n / 65536 = 0
    · have : dig n = [((n % 65536 : Nat) : Int)] := by rw [dig_pos hn, hq, dig_zero]
      simp only [this, List.getLast_singleton]; omega
    · have hne : dig (n / 65536) ≠ [] := by rw [dig_pos hq]; simp
      have hlt := ih (n / 65536) (Nat.div_lt_self (by omega) (by decide)) hne
      simp only [dig_pos hn, List.getLast_cons hne]; exact hlt
/-- digits without zeros at their end -/
theorem trim_eq {l : List Int} {n : Nat} (hl : okd l) (hn : n ≤ l.length) (hz : vl (l.drop n) = 0) (h : n = 0 ∨ l.getD (n-1) 0 ≠ 0) : l.take n = dig (vl l) := by
  have e : vl l = vl (l.take n) := by rw [vl_take l n, hz, Nat.mul_zero, Nat.add_zero]
  rw [e]
  refine (dig_vl (okd_take hl n) fun hne => ?_).symm
  have hn0 : n ≠ 0 := by intro e; subst e; simp at hne
  have h := h.resolve_left hn0
  rw [List.getLast_eq_getElem]
  intro e
  apply h
  rw [List.getD_eq_getElem?_getD, List.getElem?_eq_getElem (by omega)]
  simp only [List.length_take, Nat.min_eq_left hn, List.getElem_take] at e
  exact e
/-- the lowest digits -/
def lowD (n : Nat) : Nat → List Int
  | 0 => []
  | j + 1 => lowD n j ++ [((n / 65536^j % 65536 : Nat) : Int)]
theorem lowD_len (n : Nat) : ∀ j, (lowD n j).length = j
  | 0 => rfl
  | j + 1 => by simp [lowD, lowD_len n j]
theorem lowD_ok (n : Nat) : ∀ j, okd (lowD n j)
  | 0 => fun d hd => by cases hd
  | j + 1 => okd_append (lowD_ok n j) (fun d hd => by simp at hd; subst hd; omega)
theorem lowD_vl (n : Nat) : ∀ j, vl (lowD n j) = n % 65536^j
  | 0 => by simp [lowD, vl, Nat.mod_one]
  | j + 1 => by
    rw [lowD, vl_append, lowD_vl n j, lowD_len]
    simp only [vl, Int.toNat_natCast, Nat.mul_zero, Nat.add_zero]
    rw [Nat.pow_succ, Nat.mod_mul]
theorem lowD_add (n d : Nat) : ∀ (j i : Nat), j ≤ i → lowD (n + 65536^i * d) j = lowD n j
  | 0, _, _ => rfl
  | j + 1, i, h => by
    rw [lowD, lowD, lowD_add n d j i (by omega)]
    congr 3
    obtain ⟨k, rfl⟩ : ∃ k, i = j + 1 + k := ⟨i - (j+1), by omega⟩
    have e : n + 65536^(j+1+k) * d = n + 65536^j * (65536 * (65536^k * d)) := by
      rw [Nat.pow_add, Nat.pow_succ]; ac_rfl
    rw [e, Nat.add_mul_div_left _ _ (Nat.pow_pos (by decide)), Nat.add_mul_mod_self_left]
/-- one more digit -/
theorem lowD_step (n d i : Nat) : lowD n i ++ [(((n / 65536^i + d) % 65536 : Nat) : Int)] = lowD (n + 65536^i * d) (i+1) ∧ (n + 65536^i * d) / 65536^(i+1) = (n / 65536^i + d) / 65536 := by
  have e : (n + 65536^i * d) / 65536^i = n / 65536^i + d := Nat.add_mul_div_left _ _ (Nat.pow_pos (by decide))
  constructor
  · rw [lowD, lowD_add n d i i (Nat.le_refl _), e]
  · rw [Nat.pow_succ, ← Nat.div_div_eq_div_mul, e]
theorem lowD_get (n : Nat) : ∀ (L j : Nat), j < L → (lowD n L).getD j 0 = ((n / 65536^j % 65536 : Nat) : Int)
  | 0, j, h => by omega
  | L + 1, j, h => by
    rw [lowD, List.getD_eq_getElem?_getD]
    by_cases e : j < L
    · rw [List.getElem?_append_left (by rw [lowD_len]; exact e), ← List.getD_eq_getElem?_getD]; exact lowD_get n L j e
    · have : j = L := by omega
      subst this
      rw [List.getElem?_append_right (by rw [lowD_len]; exact Nat.le_refl _), lowD_len]; simp
theorem dig_len_le {n j : Nat} (h : n < 65536^j) : (dig n).length ≤ j := by
  rcases Nat.lt_or_ge j (dig n).length with l | l
  · exfalso
    have hne : dig n ≠ [] := by intro e; rw [e] at l; simp at l
    have h1 := dig_last hne
    have h2 := vl_take (dig n) ((dig n).length - 1)
    rw [vl_dig] at h2
    have h3 : (dig n).length - 1 < (dig n).length := by omega
    have h4 := vl_drop_succ h3
    have h5 : 1 ≤ ((dig n).getD ((dig n).length - 1) 0).toNat := by
      have hg := okd_get (okd_dig n) ((dig n).length - 1)
      have : (dig n).getD ((dig n).length - 1) 0 = (dig n).getLast hne := by
        rw [List.getLast_eq_getElem, List.getD_eq_getElem?_getD, List.getElem?_eq_getElem h3]; rfl
      rw [this] at hg ⊢; omega
    have h6 : ((dig n).take ((dig n).length - 1)).length = (dig n).length - 1 := by simp
    rw [h6] at h2
    have h7 : 65536^j ≤ 65536^((dig n).length - 1) := Nat.pow_le_pow_right (by decide) (by omega)
    have h8 : 65536^((dig n).length - 1) * 1 ≤ 65536^((dig n).length - 1) * vl ((dig n).drop ((dig n).length - 1)) := Nat.mul_le_mul_left _ (by omega)
    omega
  · exact l
theorem dig_len_ge {n : Nat} (h : dig n ≠ []) : 65536^((dig n).length - 1) ≤ n := by
  rcases Nat.lt_or_ge n (65536^((dig n).length - 1)) with l | l
  · have := dig_len_le l
    have : 0 < (dig n).length := List.length_pos_iff.2 h
    omega
  · exact l
end Fl
