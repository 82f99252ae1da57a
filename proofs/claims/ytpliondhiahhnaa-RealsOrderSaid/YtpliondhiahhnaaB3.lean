/- CONTRACT of math/bits.Div64 (a divisor whose highest bit is set). -/
import Derived.Test.YtpliondhiahhnaaB1
import Derived.Test.YtpliondhiahhnaaM5
import Derived.Deep.CutBlock
namespace Go.Proofs.Ytpliondhiahhnaa.K
open Go.RowKit Fl
set_option linter.unusedVariables false
set_option linter.unusedSimpArgs false
set_option maxRecDepth 100000
set_option maxHeartbeats 1000000
/-! ### math/bits.Div64, of a divisor whose highest bit is set -/
/-- dig of whole numbers. -/
def DigI (y1 y0 u v q r : Int) : Prop := 0 ≤ q ∧ 0 ≤ r ∧ Dig 4294967296 y1.toNat y0.toNat u.toNat v.toNat q.toNat r.toNat
/-- q is the digit. -/
def EndI (y1 y0 u v q : Int) : Prop := 0 ≤ q ∧ q.toNat = (u.toNat*4294967296+v.toNat) / (y1.toNat*4294967296+y0.toNat)
theorem digI_end {y1 y0 u v q Q : Int} (h : EndI y1 y0 u v Q) (k : EndI y1 y0 u v q) : q = Q := by
  obtain ⟨h1, h2⟩ := h; obtain ⟨k1, k2⟩ := k; rw [← h2] at k2; omega
theorem to_mul {a b : Int} (ha : 0 ≤ a) (hb : 0 ≤ b) : (a * b).toNat = a.toNat * b.toNat := by
  obtain ⟨m, rfl⟩ := Int.eq_ofNat_of_zero_le ha; obtain ⟨n, rfl⟩ := Int.eq_ofNat_of_zero_le hb
  rw [← Int.natCast_mul]; rfl
theorem digI_stop {y1 y0 u v q r : Int} (hp : 0 < y1.toNat*4294967296+y0.toNat) (hy0 : 0 ≤ y0) (hv : 0 ≤ v) (h : DigI y1 y0 u v q r) (ht : q * y0 ≤ 4294967296 * r + v) : EndI y1 y0 u v q := by
  obtain ⟨h1, h2, h3⟩ := h
  refine ⟨h1, dig_stop hp h3 ?_⟩
  rw [← to_mul h1 hy0]; omega
theorem digI_far {y1 y0 u v q r : Int} (hp : 0 < y1.toNat*4294967296+y0.toNat) (hy0 : y0 < 4294967296) (hv : 0 ≤ v) (h : DigI y1 y0 u v q r) (hq : q ≤ 4294967296) (hr : 4294967296 ≤ r) : EndI y1 y0 u v q := by
  obtain ⟨h1, h2, h3⟩ := h
  refine ⟨h1, dig_stop hp h3 ?_⟩
  have a1 : q.toNat * y0.toNat ≤ 4294967296 * 4294967296 := Nat.mul_le_mul (by omega) (by omega)
  have a2 : 4294967296 * 4294967296 ≤ 4294967296 * r.toNat := Nat.mul_le_mul_left _ (by omega)
  omega
theorem digI_next {y1 y0 u v q r : Int} (hp : 0 < y1.toNat*4294967296+y0.toNat) (hy0 : 0 ≤ y0) (hy1 : 0 ≤ y1) (hv : 0 ≤ v) (h : DigI y1 y0 u v q r) (hq : 1 ≤ q) (ht : 4294967296 * r + v < q * y0) : DigI y1 y0 u v (q-1) (r+y1) := by
  obtain ⟨h1, h2, h3⟩ := h
  have e1 : q.toNat = (q-1).toNat + 1 := by omega
  have e2 : (r+y1).toNat = r.toNat + y1.toNat := by omega
  have e3 := to_mul h1 hy0
  rw [e1] at h3 e3
  refine ⟨by omega, by omega, ?_⟩
  rw [e2]
  exact dig_next hp h3 (by omega)
theorem digI_big {y1 y0 u v q r : Int} (hu : u.toNat < y1.toNat*4294967296+y0.toNat) (hv : 0 ≤ v) (hv' : v < 4294967296) (hy1 : 0 ≤ y1) (h : DigI y1 y0 u v q r) (hq : 4294967296 ≤ q) : DigI y1 y0 u v (q-1) (r+y1) := by
  obtain ⟨h1, h2, h3⟩ := h
  have e1 : q.toNat = (q-1).toNat + 1 := by omega
  have e2 : (r+y1).toNat = r.toNat + y1.toNat := by omega
  rw [e1] at h3
  refine ⟨by omega, by omega, ?_⟩
  rw [e2]
  exact dig_big hu (by omega) h3 (by omega)
theorem pos_of_lt {a q y : Int} (h0 : 0 ≤ a) (hq : 0 ≤ q) (h : a < q * y) : 1 ≤ q := by
  rcases Int.lt_or_le 0 q with h1 | h1
  · omega
  · have : q = 0 := by omega
    subst this; rw [Int.zero_mul] at h; omega
theorem prod_in {a b : Int} (ha : 0 ≤ a) (ha' : a ≤ 4294967295) (hb : 0 ≤ b) (hb' : b ≤ 4294967295) : IntKind.u64.wrap (a * b) = a * b := by
  have h1 : a * b ≤ 4294967295 * 4294967295 := Int.mul_le_mul ha' hb' hb (by decide)
  have h2 : 0 ≤ a * b := Int.mul_nonneg ha hb
  exact IntWalk.u64_in _ ⟨h2, by omega⟩
set_option maxHeartbeats 8000000 in
theorem div64_core (hi lo y y1 y0 u1 u0 : Int) (hy1 : y1 < 4294967296) (hy00 : 0 ≤ y0) (hy0 : y0 < 4294967296) (hu10 : 0 ≤ u1) (hu1 : u1 < 4294967296) (hu00 : 0 ≤ u0) (hu0 : u0 < 4294967296) (hy1' : 2147483648 ≤ y1) (hhi0 : 0 ≤ hi)
    (yn : Nat) (hyn : y = yn) (hyn2 : Hid (yn < 2^64)) (hbl : bl yn = 64) (hpos : Hid (0 < y1.toNat*4294967296+y0.toNat)) (hltQ1 : Hid (hi.toNat < y1.toNat*4294967296+y0.toNat))
    (e1 : y / 4294967296 = y1) (e2 : bits .and .u64 y 4294967295 = y0) (e3 : lo / 4294967296 = u1) (e4 : bits .and .u64 lo 4294967295 = u0)
    (e5 : IntKind.u64.wrap y = y) (e6 : bits .or .u64 hi 0 = hi) (e7 : IntKind.u64.wrap lo = lo) (e8 : IntKind.u64.wrap hi = hi) (e9 : lo / 18446744073709551616 = 0)
    (z1 : (y == 0) = false) (z2 : (hi == 0) = false) (z3 : ¬ y ≤ hi)
    (r0 : Int) (e11 : IntKind.u64.wrap (hi - IntKind.u64.wrap (hi / y1 * y1)) = r0) (hs : Hid (DigI y1 y0 hi u1 (hi / y1) r0 ∧ 0 ≤ hi / y1 ∧ 0 ≤ r0 ∧ r0 < 4294967296 ∧ hi / y1 ≤ 4294967297))
    (Q1 : Int) (hQ1 : Hid (EndI y1 y0 hi u1 Q1)) (U : Int) (hU0 : 0 ≤ U) (e12 : IntKind.u64.wrap (IntKind.u64.wrap (IntKind.u64.wrap (hi * 4294967296) + u1) - IntKind.u64.wrap (Q1 * y)) = U) (hltQ0 : Hid (U.toNat < y1.toNat*4294967296+y0.toNat))
    (q2 r2 : Int) (e13 : IntKind.u64.wrap (U.tdiv y1) = q2) (e14 : IntKind.u64.wrap (U - IntKind.u64.wrap (q2 * y1)) = r2) (hs2 : Hid (DigI y1 y0 U u0 q2 r2 ∧ 0 ≤ q2 ∧ 0 ≤ r2 ∧ r2 < 4294967296 ∧ q2 ≤ 4294967297))
    (Q0 : Int) (hQ0 : Hid (EndI y1 y0 U u0 Q0)) (A R : Int) (e15 : IntKind.u64.wrap (IntKind.u64.wrap (Q1 * 4294967296) + Q0) = A) (e16 : IntKind.u64.wrap (IntKind.u64.wrap (IntKind.u64.wrap (U * 4294967296) + u0) - IntKind.u64.wrap (Q0 * y)) = R) (w : World) :
    Calls Try.prog 77 #[.int .u64 hi, .int .u64 lo, .int .u64 y] w (Ret (.tuple #[.int .u64 A, .int .u64 R]) w) := by
  have HY := Lib.hid hyn; clear hyn
  go_enter Try.func77, Try.ntmps77
  go_upto_block 0 with (go_at_call 76; rw [HY.out]; refine (lz_calls _ hyn2.out _).mono ?_; rw [hbl, ← HY.out]; rintro e w1 ⟨rfl, hB⟩)
  go_cut [15, 16] (fun q _ W => q = .int .u64 Q1 ∧ Below w.heap.size w W)
  case first =>
    clear e1 e2 e3 e4 e5 e6 e7 e8 e9 e11 e12 e13 e14 e15 e16 z1 z2 z3 hbl
    go_wp2_with fail
    go_loop [15, 16] (fun q r => ∃ qn rn : Int, q = .int .u64 qn ∧ r = .int .u64 rn ∧ Hid (DigI y1 y0 hi u1 qn rn) ∧ 0 ≤ qn ∧ 0 ≤ rn ∧ rn < 4294967296 ∧ qn ≤ 4294967297) (fun q _ => (intOf q).toNat)
    case atStart => exact ⟨(hi / y1), r0, rfl, rfl, hs.out.1, hs.out.2⟩
    case round =>
      obtain ⟨q, r, rfl, rfl, hd, hqp, hrp, hr, hq⟩ := hrel
      by_cases c1 : 4294967296 ≤ q
      · have k1 : IntKind.u64.wrap (q - 1) = q - 1 := IntWalk.u64_in _ ⟨by omega, by omega⟩
        have k2 : IntKind.u64.wrap (r + y1) = r + y1 := IntWalk.u64_in _ ⟨by omega, by omega⟩
        have hd' := Lib.hid (digI_big hltQ1.out (by omega) (by omega) (by omega) hd.out c1)
        by_cases c3 : 4294967296 ≤ r + y1
        · have hst := Lib.hid (digI_far hpos.out (by omega) (by omega) hd'.out (by omega) c3)
          go_wp2
          go_meet
          exact ⟨int_eq (digI_end hQ1.out hst.out), hB⟩
        · go_wp2
          go_round
          case rel => exact ⟨q - 1, r + y1, rfl, rfl, hd', by omega, by omega, by omega, by omega⟩
          case measure => simp [intOf]; omega
      · have k3 : IntKind.u64.wrap (q * y0) = q * y0 := prod_in hqp (by omega) hy00 (by omega)
        have k4 : IntKind.u64.wrap (4294967296 * r) = 4294967296 * r := IntWalk.u64_in _ ⟨by omega, by omega⟩
        have k5 : IntKind.u64.wrap (4294967296 * r + u1) = 4294967296 * r + u1 := IntWalk.u64_in _ ⟨by omega, by omega⟩
        by_cases c2 : 4294967296 * r + u1 < q * y0
        · have hq1 : 1 ≤ q := pos_of_lt (by omega) hqp c2
          have k1 : IntKind.u64.wrap (q - 1) = q - 1 := IntWalk.u64_in _ ⟨by omega, by omega⟩
          have k2 : IntKind.u64.wrap (r + y1) = r + y1 := IntWalk.u64_in _ ⟨by omega, by omega⟩
          have hd' := Lib.hid (digI_next hpos.out hy00 (by omega) (by omega) hd.out hq1 c2)
          by_cases c3 : 4294967296 ≤ r + y1
          · have hst := Lib.hid (digI_far hpos.out (by omega) (by omega) hd'.out (by omega) c3)
            go_wp2
            go_meet
            exact ⟨int_eq (digI_end hQ1.out hst.out), hB⟩
          · go_wp2
            go_round
            case rel => exact ⟨q - 1, r + y1, rfl, rfl, hd', by omega, by omega, by omega, by omega⟩
            case measure => simp [intOf]; omega
        · have hst := Lib.hid (digI_stop hpos.out hy00 (by omega) hd.out (by omega))
          go_wp2
          go_meet
          exact ⟨int_eq (digI_end hQ1.out hst.out), hB⟩
  case rest =>
    clear hB
    obtain ⟨rfl, hB⟩ := hcut
    go_upto_block 2 with (fail)
    go_cut [18, 16] (fun q _ W => q = .int .u64 Q0 ∧ Below w.heap.size w W)
    case first =>
      clear e1 e2 e3 e4 e5 e6 e7 e8 e9 e11 e12 e13 e14 e15 e16 z1 z2 z3 hbl
      go_wp2_with fail
      go_loop [18, 16] (fun q r => ∃ qn rn : Int, q = .int .u64 qn ∧ r = .int .u64 rn ∧ Hid (DigI y1 y0 U u0 qn rn) ∧ 0 ≤ qn ∧ 0 ≤ rn ∧ rn < 4294967296 ∧ qn ≤ 4294967297) (fun q _ => (intOf q).toNat)
      case atStart => exact ⟨q2, r2, rfl, rfl, hs2.out.1, hs2.out.2⟩
      case round =>
        obtain ⟨q, r, rfl, rfl, hd, hqp, hrp, hr, hq⟩ := hrel
        by_cases c1 : 4294967296 ≤ q
        · have k1 : IntKind.u64.wrap (q - 1) = q - 1 := IntWalk.u64_in _ ⟨by omega, by omega⟩
          have k2 : IntKind.u64.wrap (r + y1) = r + y1 := IntWalk.u64_in _ ⟨by omega, by omega⟩
          have hd' := Lib.hid (digI_big hltQ0.out (by omega) (by omega) (by omega) hd.out c1)
          by_cases c3 : 4294967296 ≤ r + y1
          · have hst := Lib.hid (digI_far hpos.out (by omega) (by omega) hd'.out (by omega) c3)
            go_wp2
            go_meet
            exact ⟨int_eq (digI_end hQ0.out hst.out), hB⟩
          · go_wp2
            go_round
            case rel => exact ⟨q - 1, r + y1, rfl, rfl, hd', by omega, by omega, by omega, by omega⟩
            case measure => simp [intOf]; omega
        · have k3 : IntKind.u64.wrap (q * y0) = q * y0 := prod_in hqp (by omega) hy00 (by omega)
          have k4 : IntKind.u64.wrap (4294967296 * r) = 4294967296 * r := IntWalk.u64_in _ ⟨by omega, by omega⟩
          have k5 : IntKind.u64.wrap (4294967296 * r + u0) = 4294967296 * r + u0 := IntWalk.u64_in _ ⟨by omega, by omega⟩
          by_cases c2 : 4294967296 * r + u0 < q * y0
          · have hq1 : 1 ≤ q := pos_of_lt (by omega) hqp c2
            have k1 : IntKind.u64.wrap (q - 1) = q - 1 := IntWalk.u64_in _ ⟨by omega, by omega⟩
            have k2 : IntKind.u64.wrap (r + y1) = r + y1 := IntWalk.u64_in _ ⟨by omega, by omega⟩
            have hd' := Lib.hid (digI_next hpos.out hy00 (by omega) (by omega) hd.out hq1 c2)
            by_cases c3 : 4294967296 ≤ r + y1
            · have hst := Lib.hid (digI_far hpos.out (by omega) (by omega) hd'.out (by omega) c3)
              go_wp2
              go_meet
              exact ⟨int_eq (digI_end hQ0.out hst.out), hB⟩
            · go_wp2
              go_round
              case rel => exact ⟨q - 1, r + y1, rfl, rfl, hd', by omega, by omega, by omega, by omega⟩
              case measure => simp [intOf]; omega
          · have hst := Lib.hid (digI_stop hpos.out hy00 (by omega) hd.out (by omega))
            go_wp2
            go_meet
            exact ⟨int_eq (digI_end hQ0.out hst.out), hB⟩

    case rest =>
      clear hB
      obtain ⟨rfl, hB⟩ := hcut
      go_wp2
      go_ret2
      exact ret_close (tup2 rfl rfl) hB
theorem u64_emod (n : Int) : IntKind.u64.wrap n = n % 18446744073709551616 := by
  simp [IntKind.wrap, IntKind.bits, IntKind.signed]
/-- The quotient digit by digit. -/
theorem two_digits (B hi u1 u0 y : Nat) (hy : 0 < y) : ((hi*B+u1)*B+u0) / y = (hi*B+u1)/y*B + ((hi*B+u1)%y*B+u0)/y ∧ ((hi*B+u1)*B+u0) % y = ((hi*B+u1)%y*B+u0)%y := by
  have h1 := Nat.div_add_mod (hi*B+u1) y
  generalize (hi*B+u1)/y = Q at *
  generalize (hi*B+u1)%y = U at *
  rw [← h1]
  have e : (y*Q+U)*B+u0 = (U*B+u0) + y*(Q*B) := by rw [Nat.add_mul, Nat.mul_assoc]; omega
  rw [e, Nat.add_mul_div_left _ _ hy, Nat.add_mul_mod_self_left]
  exact ⟨Nat.add_comm .., rfl⟩
theorem digit_lt {B u v y : Nat} (hu : u < y) (hv : v < B) : (u*B+v)/y < B := by
  rw [Nat.div_lt_iff_lt_mul (by omega)]
  have h2 : (u+1)*B ≤ y*B := Nat.mul_le_mul_right B hu
  rw [Nat.add_mul, Nat.one_mul] at h2
  rw [Nat.mul_comm B]; omega
theorem first_le {u y1 y0 : Nat} (hy1 : 2147483648 ≤ y1) (hy0 : y0 < 4294967296) (hu : u < y1*4294967296+y0) : u / y1 ≤ 4294967297 := by
  refine Nat.le_of_lt_succ ((Nat.div_lt_iff_lt_mul (by omega)).2 ?_)
  show u < 4294967298 * y1
  omega
theorem dig_first {u v y1 y0 : Nat} (hy1 : 2147483648 ≤ y1) (hy1' : y1 < 4294967296) (hy0 : y0 < 4294967296) (hu : u < y1*4294967296+y0) (hv : v < 4294967296) :
    DigI y1 y0 u v ((u / y1 : Nat) : Int) ((u % y1 : Nat) : Int) ∧ (0 : Int) ≤ ((u / y1 : Nat) : Int) ∧ (0 : Int) ≤ ((u % y1 : Nat) : Int) ∧ ((u % y1 : Nat) : Int) < 4294967296 ∧ ((u / y1 : Nat) : Int) ≤ 4294967297 := by
  have h1 := first_le hy1 hy0 hu
  have h2 : u % y1 < y1 := Nat.mod_lt _ (by omega)
  exact ⟨⟨Int.natCast_nonneg _, Int.natCast_nonneg _, dig_start (by omega) hv⟩, Int.natCast_nonneg _, Int.natCast_nonneg _, Int.ofNat_lt.2 (Nat.lt_trans h2 hy1'), Int.ofNat_le.2 h1⟩
theorem div64_calls (hi lo y : Nat) (h0 : hi ≠ 0) (h1 : hi < y) (h2 : lo < 2^64) (h3 : 2^63 ≤ y) (h4 : y < 2^64) (w : World) :
    Calls Try.prog 77 #[.int .u64 hi, .int .u64 lo, .int .u64 y] w (Ret (.tuple #[.int .u64 ((hi*2^64+lo) / y : Nat), .int .u64 ((hi*2^64+lo) % y : Nat)]) w) := by
  obtain ⟨y1, hy1⟩ : ∃ y1, y / 4294967296 = y1 := ⟨_, rfl⟩
  obtain ⟨y0, hy0⟩ : ∃ y0, y % 4294967296 = y0 := ⟨_, rfl⟩
  obtain ⟨u1, hu1⟩ : ∃ u1, lo / 4294967296 = u1 := ⟨_, rfl⟩
  obtain ⟨u0, hu0⟩ : ∃ u0, lo % 4294967296 = u0 := ⟨_, rfl⟩
  have hyy : y1*4294967296+y0 = y := by omega
  have hlo : u1*4294967296+u0 = lo := by have := Nat.div_add_mod lo 4294967296; rw [hu1, hu0] at this; rw [Nat.mul_comm]; exact this
  have b1 : y1 < 4294967296 := by omega
  have b2 : 2147483648 ≤ y1 := by omega
  have b3 : y0 < 4294967296 := by omega
  have b4 : u1 < 4294967296 := by omega
  have b5 : u0 < 4294967296 := by omega
  have hN : hi*2^64+lo = (hi*4294967296+u1)*4294967296+u0 := by
    rw [← hlo, show (2:Nat)^64 = 4294967296*4294967296 from rfl, Nat.add_mul, Nat.mul_assoc, Nat.add_assoc]
  obtain ⟨t1, t2⟩ := two_digits 4294967296 hi u1 u0 y (by omega)
  rw [hN, t1, t2]
  obtain ⟨Q1, hQ1⟩ : ∃ Q1, (hi*4294967296+u1)/y = Q1 := ⟨_, rfl⟩
  obtain ⟨U, hU⟩ : ∃ U, (hi*4294967296+u1)%y = U := ⟨_, rfl⟩
  have hUlt : U < y := by rw [← hU]; exact Nat.mod_lt _ (by omega)
  have hdm := Nat.div_add_mod (hi*4294967296+u1) y
  rw [hQ1, hU] at hdm ⊢
  obtain ⟨Q0, hQ0⟩ : ∃ Q0, (U*4294967296+u0)/y = Q0 := ⟨_, rfl⟩
  obtain ⟨R, hR⟩ : ∃ R, (U*4294967296+u0)%y = R := ⟨_, rfl⟩
  have hRlt : R < y := by rw [← hR]; exact Nat.mod_lt _ (by omega)
  have hdm2 := Nat.div_add_mod (U*4294967296+u0) y
  rw [hQ0, hR] at hdm2 ⊢
  have q1 : Q1 < 4294967296 := by rw [← hQ1]; exact digit_lt h1 b4
  have q0 : Q0 < 4294967296 := by rw [← hQ0]; exact digit_lt hUlt b5
  have m1 : hi / y1 * y1 + hi % y1 = hi := by rw [Nat.mul_comm]; exact Nat.div_add_mod hi y1
  have m2 : U / y1 * y1 + U % y1 = U := by rw [Nat.mul_comm]; exact Nat.div_add_mod U y1
  have s1 := first_le b2 b3 (show hi < y1*4294967296+y0 by omega)
  have s2 := first_le b2 b3 (show U < y1*4294967296+y0 by omega)
  have hbl : bl y = 64 := bl_uniq (k := 63) (by omega) h3 h4
  have c1 : ((hi : Int) / (y1 : Int)) = ((hi / y1 : Nat) : Int) := rfl
  have c2 : (U : Int).tdiv (y1 : Int) = ((U / y1 : Nat) : Int) := rfl
  have and32 : ∀ x : Nat, x < 2^64 → bits BinOp.and IntKind.u64 (x : Int) 4294967295 = ((x % 4294967296 : Nat) : Int) := by
    intro x hx
    have h := and64 (b := 2^32-1) hx (by decide)
    rw [and_mask] at h
    exact h
  refine div64_core hi lo y y1 y0 u1 u0 (by omega) (by omega) (by omega) (by omega) (by omega) (by omega) (by omega) (by omega) (by omega) y rfl h4 hbl (show 0 < _ by show 0 < y1*4294967296+y0; omega) (show (hi:Int).toNat < _ by show hi < y1*4294967296+y0; omega)
    (by omega) (by rw [and32 y h4, hy0]) (by omega) (by rw [and32 lo h2, hu0]) (by rw [u64_emod]; omega) ?_ (by rw [u64_emod]; omega) (by rw [u64_emod]; omega) (by omega)
    (by rw [beq_eq_false_iff_ne]; omega) (by rw [beq_eq_false_iff_ne]; omega) (by omega) ((hi % y1 : Nat) : Int) ?_ (dig_first b2 b1 b3 (by omega) b4)
    Q1 ⟨by omega, ?_⟩ U (by omega) ?_ (show (U:Int).toNat < _ by show U < y1*4294967296+y0; omega) ((U / y1 : Nat) : Int) ((U % y1 : Nat) : Int) ?_ ?_ (dig_first b2 b1 b3 (by omega) b5)
    Q0 ⟨by omega, ?_⟩ _ _ ?_ ?_ w
  · have := or64 (a := hi) (b := 0) (by omega) (by decide); simpa using this
  · rw [c1, ← Int.natCast_mul, u64_emod ((hi / y1 * y1 : Nat) : Int), u64_emod]; omega
  · show Q1 = (hi*4294967296+u1) / (y1*4294967296+y0); rw [hyy, hQ1]
  · rw [u64_emod, u64_emod, u64_emod, u64_emod, ← Int.natCast_mul Q1 y]
    have : y * Q1 = Q1 * y := Nat.mul_comm ..
    omega
  · rw [c2]; exact u64_nat (n := U / y1) (by omega)
  · rw [← Int.natCast_mul, u64_emod ((U / y1 * y1 : Nat) : Int), u64_emod]; omega
  · show Q0 = (U*4294967296+u0) / (y1*4294967296+y0); rw [hyy, hQ0]
  · rw [u64_emod, u64_emod]; omega
  · rw [u64_emod, u64_emod, u64_emod, u64_emod, ← Int.natCast_mul Q0 y]
    have : y * Q0 = Q0 * y := Nat.mul_comm ..
    omega
end Go.Proofs.Ytpliondhiahhnaa.K
