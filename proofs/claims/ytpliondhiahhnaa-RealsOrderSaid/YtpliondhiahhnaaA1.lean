/- CONTRACTS of math/bits: Len64, LeadingZeros64, Mul64. -/
import Derived.Test.YtpliondhiahhnaaK
namespace Go.Proofs.Ytpliondhiahhnaa.K
open Go.RowKit Fl
set_option maxRecDepth 100000
set_option maxHeartbeats 1000000
/-! ### math/bits -/
def lenTab : ByteArray := { data := #[0, 1, 2, 2, 3, 3, 3, 3, 4, 4, 4, 4, 4, 4, 4, 4, 5, 5, 5, 5, 5, 5, 5, 5, 5, 5, 5, 5, 5, 5, 5, 5, 6, 6, 6, 6, 6, 6, 6, 6, 6, 6, 6, 6, 6, 6, 6, 6, 6, 6, 6, 6, 6, 6, 6, 6, 6, 6, 6, 6, 6, 6, 6, 6, 7, 7, 7, 7, 7, 7, 7, 7, 7, 7, 7, 7, 7, 7, 7, 7, 7, 7, 7, 7, 7, 7, 7, 7, 7, 7, 7, 7, 7, 7, 7, 7, 7, 7, 7, 7, 7, 7, 7, 7, 7, 7, 7, 7, 7, 7, 7, 7, 7, 7, 7, 7, 7, 7, 7, 7, 7, 7, 7, 7, 7, 7, 7, 7, 8, 8, 8, 8, 8, 8, 8, 8, 8, 8, 8, 8, 8, 8, 8, 8, 8, 8, 8, 8, 8, 8, 8, 8, 8, 8, 8, 8, 8, 8, 8, 8, 8, 8, 8, 8, 8, 8, 8, 8, 8, 8, 8, 8, 8, 8, 8, 8, 8, 8, 8, 8, 8, 8, 8, 8, 8, 8, 8, 8, 8, 8, 8, 8, 8, 8, 8, 8, 8, 8, 8, 8, 8, 8, 8, 8, 8, 8, 8, 8, 8, 8, 8, 8, 8, 8, 8, 8, 8, 8, 8, 8, 8, 8, 8, 8, 8, 8, 8, 8, 8, 8, 8, 8, 8, 8, 8, 8, 8, 8, 8, 8, 8, 8, 8, 8, 8, 8, 8, 8, 8, 8, 8, 8, 8, 8, 8, 8] }
theorem lenTab_bl : ∀ i : Fin 256, (lenTab.data.toList.getD i.val 0).toNat = bl i.val := by decide +kernel
theorem tab_at (B : ByteArray) (hB : ∀ i : Fin 256, (B.data.toList.getD i.val 0).toNat = bl i.val) (a : Nat) (h : a < 256) (hs : a < B.size) : (B[a]'hs).toNat = bl a := by
  have h1 := hB ⟨a, h⟩
  rw [← h1]
  congr 1
  show B.data[a] = _
  rw [List.getD_eq_getElem?_getD, Array.getElem?_toList, Array.getElem?_eq_getElem hs]; rfl
theorem len_fin (B : ByteArray) (hB : ∀ i : Fin 256, (B.data.toList.getD i.val 0).toNat = bl i.val) (a : Int) (b q : Nat) (k : Nat) (hb : b < 2^64) (hq : q = b / 2^k) (hk : k ≤ 56) (hn : k = 0 ∨ q ≠ 0) (ha : a = q) (hs : a.toNat < B.size) (h2 : q < 256) : wrap64 (k + wrap64 ((B[a.toNat]'hs).toNat : Int)) = (bl b : Nat) := by
  subst ha
  have hbl : bl b ≤ 64 := bl_le_iff.2 hb
  have e : bl b = bl q + k := by
    rcases hn with rfl | hn
    · subst hq; simp
    · subst hq; exact bl_shift hn
  have h3 : (B[(q:Int).toNat]'hs).toNat = bl q := tab_at B hB q h2 hs
  rw [h3]
  rw [IntWalk.wrap64_in (bl q : Int) ⟨by omega, by omega⟩, IntWalk.wrap64_in _ ⟨by omega, by omega⟩]; omega
theorem len_fin0 (B : ByteArray) (hB : ∀ i : Fin 256, (B.data.toList.getD i.val 0).toNat = bl i.val) (a : Int) (b : Nat) (ha : a = b) (hs : a.toNat < B.size) (h2 : b < 256) : wrap64 (wrap64 ((B[a.toNat]'hs).toNat : Int)) = (bl b : Nat) := by
  have h := len_fin B hB a b b 0 (by omega) (by simp) (by decide) (.inl rfl) ha hs h2
  simpa using h
theorem lenI_calls (a : Int) (b : Nat) (h0 : 0 ≤ a) (hab : Hid (a = b)) (ha : Hid (b < 2^64)) (f1 : a / 4294967296 / 65536 / 256 < 256) (w : World) :
    Calls Try.prog 125 #[.int .u64 a] w (Ret (.int .i64 (bl b : Nat)) w) := by
  have fin (k : Nat) (q : Int) (hs) (hk : k ≤ 56) (hk0 : k ≠ 0) (hq : q = (b / 2^k : Nat)) (h1 : 1 ≤ q) (h2 : q < 256) :=
    len_fin lenTab lenTab_bl q b (b / 2^k) k ha.out rfl hk (.inr (by omega)) hq hs (by omega)
  by_cases c1 : 4294967296 ≤ a
  · by_cases c2 : 65536 ≤ a / 4294967296
    · by_cases c3 : 256 ≤ a / 4294967296 / 65536
      all_goals go_enter Try.func125, Try.ntmps125
      all_goals go_wp2
      all_goals go_ret
      all_goals refine ret_close (int_eq ?_) (Below.refl _ _)
      all_goals have hab' := hab.out
      · exact fin 56 _ _ (by decide) (by decide) (by omega) (by omega) (by omega)
      · exact fin 48 _ _ (by decide) (by decide) (by omega) (by omega) (by omega)
    · by_cases c3 : 256 ≤ a / 4294967296
      all_goals go_enter Try.func125, Try.ntmps125
      all_goals go_wp2
      all_goals go_ret
      all_goals refine ret_close (int_eq ?_) (Below.refl _ _)
      all_goals have hab' := hab.out
      · exact fin 40 _ _ (by decide) (by decide) (by omega) (by omega) (by omega)
      · exact fin 32 _ _ (by decide) (by decide) (by omega) (by omega) (by omega)
  · by_cases c2 : 65536 ≤ a
    · by_cases c3 : 256 ≤ a / 65536
      all_goals go_enter Try.func125, Try.ntmps125
      all_goals go_wp2
      all_goals go_ret
      all_goals refine ret_close (int_eq ?_) (Below.refl _ _)
      all_goals have hab' := hab.out
      · exact fin 24 _ _ (by decide) (by decide) (by omega) (by omega) (by omega)
      · exact fin 16 _ _ (by decide) (by decide) (by omega) (by omega) (by omega)
    · by_cases c3 : 256 ≤ a
      all_goals go_enter Try.func125, Try.ntmps125
      all_goals go_wp2
      all_goals go_ret
      all_goals refine ret_close (int_eq ?_) (Below.refl _ _)
      all_goals have hab' := hab.out
      · exact fin 8 _ _ (by decide) (by decide) (by omega) (by omega) (by omega)
      · exact len_fin0 lenTab lenTab_bl _ b hab' _ (by omega)
theorem len_calls (a : Nat) (ha : a < 2^64) (w : World) :
    Calls Try.prog 125 #[.int .u64 a] w (Ret (.int .i64 (bl a : Nat)) w) :=
  lenI_calls a a (by omega) rfl ha (by have : (2:Nat)^64 = 18446744073709551616 := rfl
                                       omega) w
theorem lz_calls (a : Nat) (ha : a < 2^64) (w : World) :
    Calls Try.prog 76 #[.int .u64 a] w (Ret (.int .i64 (64 - bl a : Nat)) w) := by
  have hb : bl a ≤ 64 := bl_le_iff.2 ha
  have H : Hid (a < 2^64) := ha; clear ha
  go_enter Try.func76, Try.ntmps76
  go_wp2_with (go_at_call 125; refine (len_calls _ H.out _).mono ?_; rintro e w1 ⟨rfl, hb1⟩)
  go_ret
  exact ret_close (int_eq (by omega)) hb1
/-- The high word of a product, by halves. -/
theorem mul_hi (a b : Nat) (ha : a < 2^64) (hb : b < 2^64) : 
    let x0 := a % 2^32; let x1 := a / 2^32; let y0 := b % 2^32; let y1 := b / 2^32
    let t := x1*y0 + x0*y0/2^32
    t < 2^64 ∧ t % 2^32 + x0*y1 < 2^64 ∧ x1*y1 + t/2^32 + (t % 2^32 + x0*y1)/2^32 = a*b/2^64 ∧ a*b/2^64 < 2^64 := by
  intro x0 x1 y0 y1 t
  have ea : a = x1*2^32 + x0 := by show a = a/2^32*2^32 + a%2^32; omega
  have eb : b = y1*2^32 + y0 := by show b = b/2^32*2^32 + b%2^32; omega
  have b0 : x0 < 2^32 := Nat.mod_lt _ (by decide)
  have b1 : y0 < 2^32 := Nat.mod_lt _ (by decide)
  have b2 : x1 < 2^32 := by show a/2^32 < 2^32; omega
  have b3 : y1 < 2^32 := by show b/2^32 < 2^32; omega
  clear_value x0 x1 y0 y1
  have p1 : x1*y0 ≤ (2^32-1)*(2^32-1) := Nat.mul_le_mul (by omega) (by omega)
  have p2 : x0*y0 ≤ (2^32-1)*(2^32-1) := Nat.mul_le_mul (by omega) (by omega)
  have p3 : x0*y1 ≤ (2^32-1)*(2^32-1) := Nat.mul_le_mul (by omega) (by omega)
  have p4 : x1*y1 ≤ (2^32-1)*(2^32-1) := Nat.mul_le_mul (by omega) (by omega)
  have ht : t = x1*y0 + x0*y0/2^32 := rfl
  clear_value t
  have hab : a*b = x1*y1*2^64 + (x1*y0 + x0*y1)*2^32 + x0*y0 := by
    rw [ea, eb, show (2:Nat)^64 = 2^32*2^32 from rfl]
    simp only [Nat.add_mul, Nat.mul_add]
    have e1 : x1*2^32*(y1*2^32) = x1*y1*(2^32*2^32) := by ac_rfl
    have e2 : x0*(y1*2^32) = x0*y1*2^32 := by ac_rfl
    have e3 : x1*2^32*y0 = x1*y0*2^32 := by ac_rfl
    omega
  generalize x1*y0 = A at *
  generalize x0*y1 = B at *
  generalize x1*y1 = C at *
  generalize x0*y0 = D at *
  generalize a*b = P at *
  omega
theorem mul_calls (a b : Nat) (ha : a < 2^64) (hb : b < 2^64) (w : World) :
    Calls Try.prog 68 #[.int .u64 a, .int .u64 b] w (Ret (.tuple #[.int .u64 (a * b / 2^64 : Nat), .int .u64 (a * b % 2^64 : Nat)]) w) := by
  have H : Hid (a < 2^64) := ha; clear ha
  have H2 : Hid (b < 2^64) := hb; clear hb
  go_enter Try.func68, Try.ntmps68
  go_wp2
  go_ret2
  refine ret_close (tup2 (int_eq ?_) (int_eq ?_)) (Below.refl _ _)
  · have ha := H.out
    have hb := H2.out
    obtain ⟨m1, m2, m3, m4⟩ := mul_hi a b ha hb
    have q1 : (2:Nat)^32 = 4294967296 := rfl
    have l1 : a / 2^32 < 2^32 := by omega
    have l2 : b / 2^32 < 2^32 := by omega
    have l3 : a % 2^32 < 2^32 := by omega
    have l4 : b % 2^32 < 2^32 := by omega
    have k1 : ∀ x : Nat, x < 2^64 → bits BinOp.and IntKind.u64 (x : Int) 4294967295 = ((x % 2^32 : Nat) : Int) := by
      intro x hx
      have h := and64 (b := 2^32-1) hx (by decide)
      rw [and_mask] at h
      exact h
    have k2 : ∀ x : Nat, (x : Int) / 4294967296 = ((x / 2^32 : Nat) : Int) := fun x => by omega
    have k3 : ∀ x y : Nat, (x : Int) * (y : Int) = ((x * y : Nat) : Int) := fun x y => by simp
    have k4 : ∀ x y : Nat, (x : Int) + (y : Int) = ((x + y : Nat) : Int) := fun x y => by simp
    have pr : ∀ x y : Nat, x < 2^32 → y < 2^32 → x * y < 2^64 := fun x y hx hy => Nat.lt_of_le_of_lt (Nat.mul_le_mul (Nat.le_of_lt_succ (by omega : x < 2^32-1+1)) (Nat.le_of_lt_succ (by omega : y < 2^32-1+1))) (by decide)
    rw [k1 a ha, k1 b hb, k2 a, k2 b]
    simp only [k3]
    rw [u64_nat (pr _ _ l1 l2), u64_nat (pr _ _ l1 l4), u64_nat (pr _ _ l3 l4), u64_nat (pr _ _ l3 l2), k2, k4, u64_nat m1, k1 _ m1, k2, k4, k4, u64_nat m2, k2]
    have s1 : a / 2^32 * (b / 2^32) + (a / 2^32 * (b % 2^32) + a % 2^32 * (b % 2^32) / 2^32) / 2^32 < 2^64 := by omega
    rw [u64_nat s1, k4, m3, u64_nat m4]
  · rw [← u64_mod]; simp
end Go.Proofs.Ytpliondhiahhnaa.K
