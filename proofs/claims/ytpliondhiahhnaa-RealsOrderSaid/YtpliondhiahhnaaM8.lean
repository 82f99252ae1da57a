/- PLAIN: digits, more. No program. -/
import Derived.Test.YtpliondhiahhnaaM7
namespace Fl
/-- a difference, digit by digit: the digits and what is borrowed -/
def sbB (a b : List Int) : Nat → List Int × Int
  | 0 => ([], 0)
  | i + 1 => if a.getD i 0 - (sbB a b i).2 - b.getD i 0 < 0 then ((sbB a b i).1 ++ [a.getD i 0 - (sbB a b i).2 - b.getD i 0 + 65536], 1) else ((sbB a b i).1 ++ [a.getD i 0 - (sbB a b i).2 - b.getD i 0], 0)
theorem vl_take_step (l : List Int) (n : Nat) : vl (l.take (n+1)) = vl (l.take n) + 65536^n * (l.getD n 0).toNat := by
  rcases Nat.lt_or_ge n l.length with h | h
  · exact vl_take_succ h
  · rw [vl_take_all h, vl_take_all (by omega), List.getD_eq_getElem?_getD, List.getElem?_eq_none h]; simp
theorem vl_take_lt {l : List Int} (h : okd l) (n : Nat) : vl (l.take n) < 65536^n := by
  refine Nat.lt_of_lt_of_le (vl_lt (okd_take h n)) (Nat.pow_le_pow_right (by decide) ?_)
  rw [List.length_take]; omega
theorem okd_nil : okd [] := fun d hd => by cases hd
theorem okd_one {d : Int} (h : 0 ≤ d) (k : d < 65536) : okd [d] := fun e he => by
  rw [List.mem_singleton] at he; subst he; exact ⟨h, k⟩
theorem vl_one {d : Int} : vl [d] = d.toNat := by simp [vl]
theorem sbB_spec {a b : List Int} (ha : okd a) (hb : okd b) : ∀ i, okd (sbB a b i).1 ∧ (sbB a b i).1.length = i ∧ ((sbB a b i).2 = 0 ∨ (sbB a b i).2 = 1) ∧ vl (a.take i) + (sbB a b i).2.toNat * 65536^i = vl (b.take i) + vl (sbB a b i).1
  | 0 => ⟨okd_nil, rfl, .inl rfl, rfl⟩
  | i + 1 => by
    obtain ⟨h1, h2, h3, h4⟩ := sbB_spec ha hb i
    obtain ⟨a1, a2⟩ := okd_get ha i
    obtain ⟨b1, b2⟩ := okd_get hb i
    rw [vl_take_step, vl_take_step, sbB]
    generalize (sbB a b i).2 = c at *
    generalize (sbB a b i).1 = l at *
    obtain ⟨x, hx⟩ : ∃ x : Nat, a.getD i 0 = x := ⟨(a.getD i 0).toNat, by omega⟩
    obtain ⟨y, hy⟩ : ∃ y : Nat, b.getD i 0 = y := ⟨(b.getD i 0).toNat, by omega⟩
    obtain ⟨z, rfl⟩ : ∃ z : Nat, c = z := ⟨c.toNat, by omega⟩
    rw [hx] at a1 a2 ⊢
    rw [hy] at b1 b2 ⊢
    simp only [Int.toNat_natCast] at *
    have hz1 : z ≤ 1 := by omega
    have hp : 65536^(i+1) = 65536^i * 65536 := Nat.pow_succ ..
    split
    · rename_i hlt
      obtain ⟨d, hd⟩ : ∃ d : Nat, (x : Int) - z - y + 65536 = d := ⟨((x : Int) - z - y + 65536).toNat, by omega⟩
      rw [hd]
      refine ⟨okd_append h1 (okd_one (by omega) (by omega)), by simp [h2], .inr rfl, ?_⟩
      rw [vl_append, vl_one, h2, Int.toNat_natCast, hp]
      have e : x + 65536 = z + y + d := by omega
      have e2 : 65536^i * (x + 65536) = 65536^i * (z + y + d) := by rw [e]
      simp only [Nat.mul_add] at e2
      have e3 : z * 65536^i = 65536^i * z := Nat.mul_comm _ _
      show _ + (1 : Int).toNat * _ = _
      rw [show (1 : Int).toNat = 1 from rfl, Nat.one_mul]
      omega
    · rename_i hlt
      obtain ⟨d, hd⟩ : ∃ d : Nat, (x : Int) - z - y = d := ⟨((x : Int) - z - y).toNat, by omega⟩
      rw [hd]
      refine ⟨okd_append h1 (okd_one (by omega) (by omega)), by simp [h2], .inl rfl, ?_⟩
      rw [vl_append, vl_one, h2, Int.toNat_natCast]
      have e : x = z + y + d := by omega
      have e2 : 65536^i * x = 65536^i * (z + y + d) := by rw [e]
      simp only [Nat.mul_add] at e2
      have e3 : z * 65536^i = 65536^i * z := Nat.mul_comm _ _
      show _ + (0 : Int).toNat * _ = _
      rw [show (0 : Int).toNat = 0 from rfl, Nat.zero_mul]
      omega
theorem dig_mono {n m : Nat} (h : m ≤ n) : (dig m).length ≤ (dig n).length := by
  refine dig_len_le (Nat.lt_of_le_of_lt h ?_)
  have := vl_lt (okd_dig n)
  rwa [vl_dig] at this
theorem sbB_dig {n m : Nat} (h : m ≤ n) : vl (sbB (dig n) (dig m) (dig n).length).1 = n - m := by
  obtain ⟨h1, h2, h3, h4⟩ := sbB_spec (okd_dig n) (okd_dig m) (dig n).length
  rw [vl_take_all (Nat.le_refl _), vl_take_all (dig_mono h), vl_dig, vl_dig] at h4
  have h5 := vl_lt h1
  rw [h2] at h5
  rcases h3 with h3 | h3
  · rw [h3] at h4; simp at h4; omega
  · rw [h3] at h4
    rw [show (1 : Int).toNat = 1 from rfl, Nat.one_mul] at h4
    omega
theorem vl_rep : ∀ z, vl (List.replicate z 0) = 0
  | 0 => rfl
  | z + 1 => by simp only [List.replicate_succ, vl]; rw [vl_rep z]; rfl
theorem okd_rep (z : Nat) : okd (List.replicate z 0) := fun d hd => by
  rw [List.eq_of_mem_replicate hd]; exact ⟨by decide, by decide⟩
/-- all the digits -/
theorem lowD_top (N L : Nat) : vl (lowD N L ++ [((N / 65536^L : Nat) : Int)]) = N := by
  rw [vl_append, lowD_len, lowD_vl, vl_one, Int.toNat_natCast]
  exact Nat.mod_add_div _ _
theorem lowD_of : ∀ (L : Nat) {l : List Int}, okd l → l.length = L → lowD (vl l) L = l := by
  intro L l hl h
  refine List.ext_getElem (by rw [lowD_len, h]) fun j h1 h2 => ?_
  rw [lowD_len] at h1
  have e1 := lowD_get (vl l) L j h1
  rw [List.getD_eq_getElem?_getD, List.getElem?_eq_getElem (by rw [lowD_len]; exact h1)] at e1
  have e2 := vl_take l j
  rw [vl_drop_succ h2, List.length_take, Nat.min_eq_left (by omega)] at e2
  have e3 := vl_take_lt hl j
  obtain ⟨g1, g2⟩ := okd_get hl j
  have e4 : l.getD j 0 = l[j] := by rw [List.getD_eq_getElem?_getD, List.getElem?_eq_getElem h2]; rfl
  rw [e4] at e2 g1 g2
  have : vl l / 65536^j % 65536 = l[j].toNat := by
    rw [e2, Nat.add_mul_div_left _ _ (Nat.pow_pos (by decide)), Nat.div_eq_of_lt e3]; omega
  rw [this] at e1
  have e5 : (lowD (vl l) L)[j]'(by rw [lowD_len]; exact h1) = ((l[j].toNat : Nat) : Int) := e1
  rw [e5]; omega
theorem vl_set : ∀ (l : List Int) (j : Nat) (d : Int), j < l.length → vl (l.set j d) + 65536^j * (l.getD j 0).toNat = vl l + 65536^j * d.toNat
  | [], j, d, h => by simp at h
  | a :: l, 0, d, _ => by simp [vl]; omega
  | a :: l, j + 1, d, h => by
    have ih := vl_set l j d (by simpa using h)
    simp only [List.set_cons_succ, vl, List.getD_cons_succ]
    rw [Nat.pow_succ]
    have e1 : 65536^j * 65536 * (l.getD j 0).toNat = 65536 * (65536^j * (l.getD j 0).toNat) := by ac_rfl
    have e2 : 65536^j * 65536 * d.toNat = 65536 * (65536^j * d.toNat) := by ac_rfl
    rw [e1, e2]; omega
theorem okd_set {l : List Int} (h : okd l) (j : Nat) {d : Int} (h1 : 0 ≤ d) (h2 : d < 65536) : okd (l.set j d) := fun e he => by
  rcases List.mem_or_eq_of_mem_set he with he | rfl
  · exact h e he
  · exact ⟨h1, h2⟩
end Fl
