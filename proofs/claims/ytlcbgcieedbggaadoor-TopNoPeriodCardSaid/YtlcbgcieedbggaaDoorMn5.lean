/- Texts of this claim, one behind the other: Bits, Div, Wc. -/
import Derived.Test.YtlcbgcieedbggaaDoorMn2
import Derived.Test.YtlcbgcieedbggaaDoorProg
import Derived.Shelf.Bits.Mul64
import Derived.Lib.Mul64
import Derived.Lib.BitFns
import Derived.Test.YtlcbgcieedbggaaDoorMn4
import Derived.Laws.Bits64b
import Derived.Test.YtlcbgcieedbggaaDoorMn3
set_option linter.unusedVariables false
set_option linter.unusedSimpArgs false
namespace Go.Proofs.YtlcbgcieedbggaaDoor
open Go Go.RowKit

set_option maxHeartbeats 1000000 in
theorem mul64 (x y : Nat) (hx : x < 18446744073709551616) (hy : y < 18446744073709551616) (w : World) :
    Calls Tryd.prog 89 #[.int .u64 x, .int .u64 y] w fun e w' => e = .returned (.tuple #[.int .u64 ((x * y / 18446744073709551616 : Nat) : Int), .int .u64 ((x * y % 18446744073709551616 : Nat) : Int)]) ∧ w = w' := by
  obtain ⟨bd, bt, bw, hhi⟩ := Lib.mul64_hi x y hx hy
  have ba := Lib.half_mul_le (a := x / 4294967296) (b := y / 4294967296) (by omega) (by omega)
  have bb := Lib.half_mul_le (a := x / 4294967296) (b := y % 4294967296) (by omega) (by omega)
  have bc := Lib.half_mul_le (a := x % 4294967296) (b := y / 4294967296) (by omega) (by omega)
  have ba' : x / 4294967296 * (y / 4294967296) < 18446744073709551616 := by omega
  have bb' : x / 4294967296 * (y % 4294967296) < 18446744073709551616 := by omega
  have bc' : x % 4294967296 * (y / 4294967296) < 18446744073709551616 := by omega
  have bh1 : x / 4294967296 * (y / 4294967296) + (x / 4294967296 * (y % 4294967296) + x % 4294967296 * (y % 4294967296) / 4294967296) / 4294967296 < 18446744073709551616 := by omega
  have bh : x / 4294967296 * (y / 4294967296) + (x / 4294967296 * (y % 4294967296) + x % 4294967296 * (y % 4294967296) / 4294967296) / 4294967296 + ((x / 4294967296 * (y % 4294967296) + x % 4294967296 * (y % 4294967296) / 4294967296) % 4294967296 + x % 4294967296 * (y / 4294967296)) / 4294967296 < 18446744073709551616 := by omega
  go_enter Tryd.func89, Tryd.ntmps89
  go_wp2
  simp only [Mul64.maskN x hx, Mul64.maskN y hy, Mul64.divN, Mul64.mulN, Mul64.addN, Mul64.wrapN _ bd, Mul64.wrapN _ bb', Mul64.wrapN _ bt, Mul64.maskN _ bt, Mul64.wrapN _ bc', Mul64.wrapN _ bw, Mul64.wrapN _ ba', Mul64.wrapN _ bh1, Mul64.wrapN _ bh, Mul64.wrapM (x * y)]
  rw [hhi]
  go_ret2
  exact ⟨rfl, rfl⟩

theorem leadingZeros64 (x : Int) (w : World) (h0 : 0 ≤ x) (h1 : x ≤ 18446744073709551615) (hb : Lib.bitLen x.toNat ≤ 64) :
    Calls Tryd.prog 108 #[.int .u64 x] w fun e w' => e = .returned (.int .i64 (64 - Lib.bitLen x.toNat)) ∧ w = w' := by
  go_enter Tryd.func108, Tryd.ntmps108
  go_wp2_with (go_at_call 119; refine (len64 x _ h0 h1).mono ?_; rintro e w' ⟨rfl, rfl⟩)
  go_ret
  exact ⟨rfl, rfl⟩

set_option maxRecDepth 100000
/-! ### the division of two digits by one, in base 2^32, as Go's text goes (Knuth's D): numbers alone -/
/-- The state of the estimate: u = q yn1 + r, and q is not too small. -/
structure Est (y yn1 u d q r : Nat) : Prop where
  split : u = q * yn1 + r
  up : 4294967296 * u + d < (q + 1) * y
  le : q ≤ 4294967297

theorem mul_split (q yn1 yn0 : Nat) : q * (4294967296 * yn1 + yn0) = 4294967296 * (q * yn1) + q * yn0 := by
  rw [Nat.mul_add, Nat.mul_left_comm]

theorem est_begin {y yn1 yn0 u d : Nat} (hy : y = 4294967296 * yn1 + yn0) (h0 : yn0 < 4294967296) (h1 : 2147483648 ≤ yn1) (hd : d < 4294967296) (hu : u < y) :
    Est y yn1 u d (u / yn1) (u - u / yn1 * yn1) ∧ u - u / yn1 * yn1 < yn1 ∧ u / yn1 * yn1 ≤ u := by
  have hle : u / yn1 * yn1 ≤ u := Nat.div_mul_le_self u yn1
  have e1 : (u / yn1 + 1) * yn1 = u / yn1 * yn1 + yn1 := by rw [Nat.add_mul, Nat.one_mul]
  have hlt : u < (u / yn1 + 1) * yn1 := by
    have := Nat.lt_mul_div_succ u (by omega : 0 < yn1)
    rw [Nat.mul_comm] at this; exact this
  refine ⟨⟨by omega, ?_, ?_⟩, by omega, hle⟩
  · have e : (u / yn1 + 1) * y = 4294967296 * ((u / yn1 + 1) * yn1) + (u / yn1 + 1) * yn0 := by rw [hy, mul_split]
    rw [e]
    clear hle e1 e hy hu
    generalize (u / yn1 + 1) * yn1 = z1 at *
    generalize (u / yn1 + 1) * yn0 = z2 at *
    omega
  · refine Nat.le_of_lt_succ (Nat.lt_of_not_le fun h => ?_)
    have h2 := Nat.mul_le_mul_right yn1 h
    have e2 : Nat.succ 4294967297 * yn1 = 4294967296 * yn1 + 2 * yn1 := by rw [← Nat.add_mul]
    rw [e2] at h2
    clear e2 e1 hlt h
    generalize u / yn1 * yn1 = z1 at *
    omega

theorem est_more {y yn1 yn0 u d q r : Nat} (hy : y = 4294967296 * yn1 + yn0) (hd : d < 4294967296) (hu : u < y) (E : Est y yn1 u d q r)
    (hc : 4294967296 ≤ q ∨ 4294967296 * r + d < q * yn0) : 0 < q ∧ Est y yn1 u d (q - 1) (r + yn1) := by
  have hlt : 4294967296 * u + d < q * y := by
    rcases hc with h | h
    · have h2 := Nat.mul_le_mul_right y h
      clear hy E h
      generalize q * y = z1 at *
      omega
    · have e : q * y = 4294967296 * (q * yn1) + q * yn0 := by rw [hy, mul_split]
      have e2 := E.split
      clear hy hu E
      generalize q * y = z1 at *
      generalize q * yn1 = z2 at *
      generalize q * yn0 = z3 at *
      omega
  have hq : 0 < q := by
    rcases Nat.eq_zero_or_pos q with h | h
    · subst h; simp at hlt
    · exact h
  have eq1 : q - 1 + 1 = q := by omega
  refine ⟨hq, ⟨?_, by rw [eq1]; exact hlt, by have := E.le; omega⟩⟩
  have e : q * yn1 = (q - 1) * yn1 + yn1 := by
    have : (q - 1 + 1) * yn1 = (q - 1) * yn1 + yn1 := by rw [Nat.add_mul, Nat.one_mul]
    rw [eq1] at this; exact this
  have := E.split
  omega

/-- The estimate is the digit: where the test fails .. -/
theorem est_done {y yn1 yn0 u d q r : Nat} (hy : y = 4294967296 * yn1 + yn0) (E : Est y yn1 u d q r) (hc : q * yn0 ≤ 4294967296 * r + d) : q * y ≤ 4294967296 * u + d ∧ 4294967296 * u + d < (q + 1) * y := by
  refine ⟨?_, E.up⟩
  have e : q * y = 4294967296 * (q * yn1) + q * yn0 := by rw [hy, mul_split]
  have e2 := E.split
  clear hy E
  generalize q * y = z1 at *
  generalize q * yn1 = z2 at *
  generalize q * yn0 = z3 at *
  omega
/-- .. and where the rest has grown to the base. -/
theorem est_grown {y yn1 yn0 u d q r : Nat} (hy : y = 4294967296 * yn1 + yn0) (h0 : yn0 < 4294967296) (E : Est y yn1 u d q r) (hq : q ≤ 4294967296) (hr : 4294967296 ≤ r) : q * y ≤ 4294967296 * u + d ∧ 4294967296 * u + d < (q + 1) * y := by
  refine est_done hy E ?_
  have h1 : q * yn0 ≤ 4294967296 * 4294967295 := Nat.mul_le_mul hq (by omega)
  clear hy E
  generalize q * yn0 = z at *
  omega

/-- Two digits make the quotient. -/
theorem two_digits {y u un1 un0 q1 q0 : Nat} (h1 : q1 * y ≤ 4294967296 * u + un1) (h0 : q0 * y ≤ 4294967296 * (4294967296 * u + un1 - q1 * y) + un0) (h0' : 4294967296 * (4294967296 * u + un1 - q1 * y) + un0 < (q0 + 1) * y) :
    (18446744073709551616 * u + 4294967296 * un1 + un0) / y = 4294967296 * q1 + q0 ∧ (18446744073709551616 * u + 4294967296 * un1 + un0) % y = 4294967296 * (4294967296 * u + un1 - q1 * y) + un0 - q0 * y := by
  have e1 : (q0 + 1) * y = q0 * y + y := by rw [Nat.add_mul, Nat.one_mul]
  have e2 : y * (4294967296 * q1 + q0) = 4294967296 * (q1 * y) + q0 * y := by rw [Nat.mul_add, Nat.mul_left_comm, Nat.mul_comm y q1, Nat.mul_comm y q0]
  have key : 18446744073709551616 * u + 4294967296 * un1 + un0 = (4294967296 * (4294967296 * u + un1 - q1 * y) + un0 - q0 * y) + y * (4294967296 * q1 + q0) := by
    rw [e2]
    clear e1 e2 h0'
    generalize q1 * y = a at *
    generalize q0 * y = b at *
    omega
  have hlt : 4294967296 * (4294967296 * u + un1 - q1 * y) + un0 - q0 * y < y ∧ 0 < y := by
    clear e2 key
    generalize (q0 + 1) * y = b1 at *
    generalize q1 * y = a at *
    generalize q0 * y = b at *
    omega
  rw [key]
  refine ⟨?_, ?_⟩
  · rw [Nat.add_mul_div_left _ _ hlt.2, Nat.div_eq_of_lt hlt.1]; omega
  · rw [Nat.add_mul_mod_self_left, Nat.mod_eq_of_lt hlt.1]
end Go.Proofs.YtlcbgcieedbggaaDoor
namespace Go.Proofs.YtlcbgcieedbggaaDoor
open Go Go.RowKit

set_option maxHeartbeats 1000000 in
theorem div64_small (lo y : Nat) (hy : y < 18446744073709551616) (hlo : lo < 18446744073709551616) (h0 : 0 < y) (w : World) :
    Calls Tryd.prog 90 #[.int .u64 0, .int .u64 lo, .int .u64 y] w fun e w' => e = .returned (.tuple #[.int .u64 ((lo / y : Nat) : Int), .int .u64 ((lo % y : Nat) : Int)]) ∧ Kept w w' := by
  have hz : ((y : Int) == 0) = false := by simp; omega
  go_enter Tryd.func90, Tryd.ntmps90
  go_wp2
  go_quiet (fail)
  go_wp2
  go_ret2
  have hw : IntKind.u64.wrap ((lo : Int) / (y : Int)) = (lo : Int) / (y : Int) := by
    rw [← Int.natCast_ediv]
    have := Nat.div_le_self lo y
    generalize lo / y = z at *
    exact IntWalk.u64_in _ (by omega)
  exact ⟨by simp [hw], Kept.drewN _ _⟩

theorem aux_lt : ∀ (f x : Nat), x < 2 ^ f → x < 2 ^ Lib.bitLenAux f x ∧ (x ≠ 0 → 2 ^ Lib.bitLenAux f x ≤ 2 * x)
  | 0, x, h => by simp [Lib.bitLenAux]; simp at h; omega
  | f + 1, x, h => by
    by_cases hx : x = 0
    · subst hx; simp [Lib.bitLenAux]
    · have h2 : x / 2 < 2 ^ f := by rw [Nat.pow_succ] at h; omega
      obtain ⟨h3, h4⟩ := aux_lt f (x / 2) h2
      simp only [Lib.bitLenAux, hx, if_false]
      rw [Nat.add_comm, Nat.pow_succ]
      refine ⟨by omega, fun _ => ?_⟩
      by_cases h5 : x / 2 = 0
      · have : x = 1 := by omega
        subst this
        have : Lib.bitLenAux f (1 / 2) = 0 := by cases f <;> simp [Lib.bitLenAux]
        rw [this]; omega
      · have := h4 h5; omega
theorem bitLen_bounds {x : Nat} (h : x < 18446744073709551616) (h0 : x ≠ 0) : x < 2 ^ Lib.bitLen x ∧ 2 ^ Lib.bitLen x ≤ 2 * x := by
  have := aux_lt 64 x (by simpa using h)
  exact ⟨this.1, this.2 h0⟩
/-- What the first rows of Div64 make of the numbers: both shifted by s, cut into halves. -/
structure Norm (hi lo y s Y yn1 yn0 u un1 un0 : Nat) : Prop where
  y' : Y = 4294967296 * yn1 + yn0
  yn0' : yn0 < 4294967296
  yn1' : 2147483648 ≤ yn1 ∧ yn1 < 4294967296
  un1' : un1 < 4294967296
  un0' : un0 < 4294967296
  u' : u < Y
  div : (18446744073709551616 * u + 4294967296 * un1 + un0) / Y = (18446744073709551616 * hi + lo) / y
  mod : (18446744073709551616 * u + 4294967296 * un1 + un0) % Y / 2 ^ s = (18446744073709551616 * hi + lo) % y
  e1 : IntKind.u64.wrap ((y : Int) * 2 ^ s) = (Y : Int)
  e2 : (Y : Int) / 4294967296 = (yn1 : Int)
  e3 : bits .and .u64 (Y : Int) 4294967295 = (yn0 : Int)
  e4 : bits .or .u64 (IntKind.u64.wrap ((hi : Int) * 2 ^ s)) ((lo : Int) / 2 ^ (64 - s)) = (u : Int)
  e5 : IntKind.u64.wrap ((lo : Int) * 2 ^ s) / 4294967296 = (un1 : Int)
  e6 : bits .and .u64 (IntKind.u64.wrap ((lo : Int) * 2 ^ s)) 4294967295 = (un0 : Int)
theorem cast_pow (a s : Nat) : ((a : Int) * 2 ^ s) = ((a * 2 ^ s : Nat) : Int) := by rw [Int.natCast_mul, Int.natCast_pow]; rfl
theorem norm_of (hi lo y s : Nat) (hy : y < 18446744073709551616) (hlo : lo < 18446744073709551616) (hlt : hi < y) (hs : Lib.bitLen y + s = 64) (hs63 : s ≤ 63) : ∃ Y yn1 yn0 u un1 un0, Norm hi lo y s Y yn1 yn0 u un1 un0 := by
  obtain ⟨b1, b2⟩ := bitLen_bounds hy (by omega)
  have hp : 2 ^ Lib.bitLen y * 2 ^ s = 18446744073709551616 := by rw [← Nat.pow_add, hs]
  have hps : 0 < 2 ^ s := Nat.two_pow_pos s
  have hp2 : 2 ^ (64 - s) * 2 ^ s = 18446744073709551616 := by rw [← Nat.pow_add, show 64 - s + s = 64 by omega]
  have Y1 : y * 2 ^ s < 18446744073709551616 := by rw [← hp]; exact Nat.mul_lt_mul_of_pos_right b1 hps
  have Y2 : 18446744073709551616 ≤ 2 * (y * 2 ^ s) := by rw [← hp, ← Nat.mul_assoc]; exact Nat.mul_le_mul_right _ b2
  have hq : lo * 2 ^ s / 18446744073709551616 = lo / 2 ^ (64 - s) := by rw [← hp2]; exact Nat.mul_div_mul_right _ _ hps
  have hdm := Nat.div_add_mod (lo * 2 ^ s) 18446744073709551616
  rw [hq] at hdm
  have hh : hi * 2 ^ s < y * 2 ^ s := Nat.mul_lt_mul_of_pos_right hlt hps
  have hr : lo / 2 ^ (64 - s) < 2 ^ s := by
    rw [Nat.div_lt_iff_lt_mul (Nat.two_pow_pos _), Nat.mul_comm, hp2]; exact hlo
  have key : 18446744073709551616 * (hi * 2 ^ s + lo / 2 ^ (64 - s)) + lo * 2 ^ s % 18446744073709551616 = (18446744073709551616 * hi + lo) * 2 ^ s := by
    rw [Nat.add_mul, Nat.mul_assoc, Nat.mul_add]; omega
  have hL : lo * 2 ^ s % 18446744073709551616 < 18446744073709551616 := Nat.mod_lt _ (by omega)
  have hw : IntKind.u64.wrap ((lo : Int) * 2 ^ s) = ((lo * 2 ^ s % 18446744073709551616 : Nat) : Int) := by rw [cast_pow, Mul64.wrapM]
  have hsplit : 18446744073709551616 * (hi * 2 ^ s + lo / 2 ^ (64 - s)) + 4294967296 * (lo * 2 ^ s % 18446744073709551616 / 4294967296) + lo * 2 ^ s % 18446744073709551616 % 4294967296 = (18446744073709551616 * hi + lo) * 2 ^ s := by
    rw [← key, Nat.add_assoc, Nat.div_add_mod]
  refine ⟨y * 2 ^ s, y * 2 ^ s / 4294967296, y * 2 ^ s % 4294967296, hi * 2 ^ s + lo / 2 ^ (64 - s), lo * 2 ^ s % 18446744073709551616 / 4294967296, lo * 2 ^ s % 18446744073709551616 % 4294967296, ?_⟩
  refine { y' := (Nat.div_add_mod _ _).symm, yn0' := Nat.mod_lt _ (by omega), yn1' := by omega, un1' := by omega, un0' := Nat.mod_lt _ (by omega), u' := ?_, div := ?_, mod := ?_, e1 := ?_, e2 := ?_, e3 := ?_, e4 := ?_, e5 := ?_, e6 := ?_ }
  · have h1 : (18446744073709551616 * hi + lo) * 2 ^ s < 18446744073709551616 * y * 2 ^ s := Nat.mul_lt_mul_of_pos_right (by omega) hps
    rw [← key, Nat.mul_assoc] at h1
    omega
  · rw [hsplit]; exact Nat.mul_div_mul_right _ _ hps
  · rw [hsplit, Nat.mul_mod_mul_right, Nat.mul_div_cancel _ hps]
  · rw [cast_pow]; exact Mul64.wrapN _ Y1
  · exact Mul64.divN _
  · exact Mul64.maskN _ Y1
  · rw [cast_pow, Mul64.wrapN _ (by omega), show ((lo : Int) / 2 ^ (64 - s)) = ((lo / 2 ^ (64 - s) : Nat) : Int) by rw [Int.natCast_ediv, Int.natCast_pow]; rfl]
    rw [bits_or_u64_nat _ _ (by omega) (by have := Nat.div_le_self lo (2 ^ (64 - s)); generalize lo / 2 ^ (64 - s) = z at *; omega), Nat.mul_comm hi, ← Nat.two_pow_add_eq_or_of_lt hr]
  · rw [hw]; exact Mul64.divN _
  · rw [hw]; exact Mul64.maskN _ hL

theorem div_end {hi lo y s Y yn1 yn0 u un1 un0 q1 q0 v : Nat} (hu : u < 18446744073709551616) (N : Norm hi lo y s Y yn1 yn0 u un1 un0) (A1 : q1 * Y ≤ 4294967296 * u + un1 ∧ 4294967296 * u + un1 < (q1 + 1) * Y) (hv : 4294967296 * u + un1 - q1 * Y = v)
    (A2 : q0 * Y ≤ 4294967296 * v + un0 ∧ 4294967296 * v + un0 < (q0 + 1) * Y) (hY : Y < 18446744073709551616)
    (td : (18446744073709551616 * u + 4294967296 * un1 + un0) / Y = 4294967296 * q1 + q0 ∧ (18446744073709551616 * u + 4294967296 * un1 + un0) % Y = 4294967296 * v + un0 - q0 * Y) :
    IntKind.u64.wrap (IntKind.u64.wrap ((q1 : Int) * 4294967296) + (q0 : Int)) = (18446744073709551616 * (hi : Int) + (lo : Int)) / (y : Int) ∧
    IntKind.u64.wrap (IntKind.u64.wrap (IntKind.u64.wrap ((v : Int) * 4294967296) + (un0 : Int)) - IntKind.u64.wrap ((q0 : Int) * (Y : Int))) / 2 ^ s = (18446744073709551616 * (hi : Int) + (lo : Int)) % (y : Int) := by
  have eY1 : (q1 + 1) * Y = q1 * Y + Y := by rw [Nat.add_mul, Nat.one_mul]
  have eY0 : (q0 + 1) * Y = q0 * Y + Y := by rw [Nat.add_mul, Nat.one_mul]
  rw [eY1] at A1
  rw [eY0] at A2
  have n1 := N.un1'
  have n2 := N.un0'
  have n3 := N.u'
  have lim : ∀ (q a d : Nat), q * Y ≤ 4294967296 * a + d → a < Y → d < 4294967296 → q < 4294967296 := by
    intro q a d h1 h2 h3
    refine Nat.lt_of_not_le fun h => ?_
    have h4 := Nat.mul_le_mul_right Y h
    generalize q * Y = z at *
    omega
  have hq1 := lim q1 u un1 A1.1 n3 n1
  have hvY : v < Y := by clear td; generalize q1 * Y = z at *; omega
  have hq0 := lim q0 v un0 A2.1 hvY n2
  have d1 := N.div
  have d2 := N.mod
  rw [td.1] at d1
  rw [td.2] at d2
  clear td N lim eY1 eY0
  have c1 : (18446744073709551616 * (hi : Int) + (lo : Int)) = ((18446744073709551616 * hi + lo : Nat) : Int) := by omega
  rw [c1, ← Int.natCast_ediv, ← Int.natCast_emod, ← d1, ← d2]
  refine ⟨?_, ?_⟩
  · rw [Int.mul_comm (q1 : Int)]; simp only [IntKind.wrap_u64]; omega
  · rw [Int.natCast_ediv, Int.natCast_pow, ← Int.natCast_mul, Int.mul_comm (v : Int) 4294967296]
    congr 1
    generalize q0 * Y = z at *
    clear d1 d2 A1 hv c1
    simp only [IntKind.wrap_u64]
    omega

set_option maxHeartbeats 4000000 in
set_option maxRecDepth 100000 in
theorem div64_big (hi lo y s : Nat) (hy : y < 18446744073709551616) (hlo : lo < 18446744073709551616) (h0 : 0 < hi) (hlt : hi < y) (hs : Lib.bitLen y + s = 64) (hs63 : s ≤ 63) (w : World) :
    Calls Tryd.prog 90 #[.int .u64 hi, .int .u64 lo, .int .u64 y] w fun e w' => e = .returned (.tuple #[.int .u64 ((18446744073709551616 * hi + lo) / y : Nat), .int .u64 ((18446744073709551616 * hi + lo) % y : Nat)]) ∧ w = w' := by
  obtain ⟨Y, yn1, yn0, u, un1, un0, N⟩ := norm_of hi lo y s hy hlo hlt hs hs63
  have hz : ((y : Int) == 0) = false := by simp; omega
  have hz2 : ((hi : Int) == 0) = false := by simp; omega
  have HS := Lib.hid (show (64 : Int) - (Lib.bitLen (y : Int).toNat : Int) = (s : Int) by rw [Int.toNat_natCast]; omega)
  have hbl := Lib.hid (show Lib.bitLen (y : Int).toNat ≤ 64 by rw [Int.toNat_natCast]; omega)
  clear hs
  obtain ⟨g1, g2⟩ := N.yn1'
  have g3 := N.yn0'
  have g4 := N.un1'
  have g5 := N.un0'
  have hz3 : ((yn1 : Int) == 0) = false := by simp; omega
  obtain ⟨E0, hr0, hle0⟩ := est_begin N.y' g3 g1 g4 N.u'
  go_enter Tryd.func90, Tryd.ntmps90
  go_upto_region 15 with (go_at_call 108; refine (leadingZeros64 (y : Int) _ (by omega) (by omega) hbl.out).mono ?_; rintro e w' ⟨rfl, rfl⟩; rw [HS.out])
  simp only [N.e1, N.e2, N.e3, N.e4, N.e5, N.e6]
  have hu := N.u'
  have hYlt : Y < 18446744073709551616 := by have := N.y'; omega
  have HN := Lib.hid N
  clear N
  have HE0 := Lib.hid E0
  have hqb := E0.le
  clear E0
  have hq0 : ((u : Int) / (yn1 : Int)) = ((u / yn1 : Nat) : Int) := by simp
  have hw0 : IntKind.u64.wrap (((u / yn1 : Nat) : Int) * (yn1 : Int)) = ((u / yn1 * yn1 : Nat) : Int) := by rw [← Int.natCast_mul]; exact IntWalk.u64_in _ (by omega)
  have hw1 : IntKind.u64.wrap ((u : Int) - ((u / yn1 * yn1 : Nat) : Int)) = ((u - u / yn1 * yn1 : Nat) : Int) := by rw [← Int.natCast_sub hle0]; exact IntWalk.u64_in _ (by omega)
  have hr0' : u - u / yn1 * yn1 < 4294967296 := by omega
  generalize u - u / yn1 * yn1 = r at *
  generalize u / yn1 * yn1 = qy at *
  generalize u / yn1 = q at *
  go_upto_block 0 with (fail)
  clear hw0 hw1 hq0
  go_cut [15] (fun s15 wx => ∃ q1 : Nat, s15 = .int .u64 q1 ∧ w = wx ∧ Aside (q1 * Y ≤ 4294967296 * u + un1 ∧ 4294967296 * u + un1 < (q1 + 1) * Y))
  case first =>
    go_wp2_with (fail)
    go_loopg [15, 16] q (fun gg s15 s16 wr => ∃ q r : Nat, q ≤ gg ∧ q ≤ 4294967297 ∧ r < 4294967296 ∧ s15 = .int .u64 q ∧ s16 = .int .u64 r ∧ Aside (w = wr) ∧ Aside (Est Y yn1 u un1 q r))
    case atStart => exact ⟨q, r, Nat.le_refl _, hqb, hr0', rfl, rfl, (rfl : w = w), HE0.out⟩
    case round =>
      obtain ⟨q, r, hqg, hql, hrl, rfl, rfl, rfl, EA⟩ := hrel
      have e1 : IntKind.u64.wrap ((q : Int) * (yn0 : Int)) = ((q * yn0 : Nat) : Int) := by
        have := Nat.mul_le_mul hql (show yn0 ≤ 4294967295 by omega)
        rw [← Int.natCast_mul]; exact IntWalk.u64_in _ (by omega)
      obtain ⟨qi, hqi⟩ : ∃ qi : Int, (q : Int) = qi := ⟨_, rfl⟩
      obtain ⟨ri, hri⟩ : ∃ ri : Int, (r : Int) = ri := ⟨_, rfl⟩
      obtain ⟨m, hm⟩ : ∃ m : Nat, q * yn0 = m := ⟨_, rfl⟩
      have HM := Lib.hid hm
      rw [hm] at e1
      clear hm
      obtain ⟨mi, hmi⟩ : ∃ mi : Int, (m : Int) = mi := ⟨_, rfl⟩
      rw [hmi, hqi] at e1
      rw [hqi, hri]
      have r1 : 0 ≤ ri := by omega
      have r2 : ri < 4294967296 := by omega
      have q1 : 0 ≤ qi := by omega
      have q2 : qi ≤ 4294967297 := by omega
      by_cases hq : 4294967296 ≤ q
      · have t1 : 4294967296 ≤ qi := by omega
        obtain ⟨hpos, E2⟩ := est_more HN.out.y' g4 hu EA.out (.inl hq)
        have HE2 := Lib.hid E2
        have HQ := Lib.hid hqi
        have HR := Lib.hid hri
        have t4 : 1 ≤ qi := by omega
        by_cases hr : 4294967296 ≤ r + yn1
        · have HA := Lib.hid (est_grown HN.out.y' g3 HE2.out (by omega) hr)
          have HP := Lib.hid hpos
          have t2 : 4294967296 ≤ ri + (yn1 : Int) := by omega
          clear E2 hqi hri hr hq hql hrl hqg hmi hpos
          go_wp2_with (fail)
          go_meet
          have := HQ.out
          have := HP.out
          exact ⟨q - 1, by go_num, rfl, HA.out⟩
        · have HP := Lib.hid (show 0 < q ∧ q - 1 ≤ 4294967296 ∧ r + yn1 < 4294967296 ∧ q ≤ gk by omega)
          have t2 : ri + (yn1 : Int) < 4294967296 := by omega
          clear E2 hqi hri hr hq hql hrl hqg hmi hpos
          go_wp2_with (fail)
          go_roundg (q - 1)
          case measure => have := HP.out; omega
          case rel =>
            have := HQ.out
            have := HR.out
            have := HP.out
            exact ⟨q - 1, r + yn1, by omega, by omega, by omega, by go_num, by go_num, (rfl : w = w), HE2.out⟩
      · by_cases hc : 4294967296 * r + un1 < m
        · have t1 : qi < 4294967296 := by omega
          have t3 : 4294967296 * ri + (un1 : Int) < mi := by omega
          obtain ⟨hpos, E2⟩ := est_more HN.out.y' g4 hu EA.out (.inr (by rw [HM.out]; exact hc))
          have HE2 := Lib.hid E2
          have HQ := Lib.hid hqi
          have HR := Lib.hid hri
          have t4 : 1 ≤ qi := by omega
          by_cases hr : 4294967296 ≤ r + yn1
          · have HA := Lib.hid (est_grown HN.out.y' g3 HE2.out (by omega) hr)
            have HP := Lib.hid hpos
            have t2 : 4294967296 ≤ ri + (yn1 : Int) := by omega
            clear E2 hqi hri hr hc hq hql hrl hqg hmi hpos
            go_wp2_with (fail)
            go_meet
            have := HQ.out
            have := HP.out
            exact ⟨q - 1, by go_num, rfl, HA.out⟩
          · have HP := Lib.hid (show 0 < q ∧ q - 1 ≤ 4294967296 ∧ r + yn1 < 4294967296 ∧ q ≤ gk by omega)
            have t2 : ri + (yn1 : Int) < 4294967296 := by omega
            clear E2 hqi hri hr hc hq hql hrl hqg hmi hpos
            go_wp2_with (fail)
            go_roundg (q - 1)
            case measure => have := HP.out; omega
            case rel =>
              have := HQ.out
              have := HR.out
              have := HP.out
              exact ⟨q - 1, r + yn1, by omega, by omega, by omega, by go_num, by go_num, (rfl : w = w), HE2.out⟩
        · have HA := Lib.hid (est_done HN.out.y' EA.out (by rw [HM.out]; omega))
          have HQ := Lib.hid hqi
          have t1 : qi < 4294967296 := by omega
          have t3 : mi ≤ 4294967296 * ri + (un1 : Int) := by omega
          clear hqi hri hc hq hql hrl hqg hmi
          go_wp2_with (fail)
          go_meet
          have := HQ.out
          exact ⟨q, by go_num, rfl, HA.out⟩
  case rest =>
    obtain ⟨q1, rfl, rfl, A1⟩ := hcut
    have HA1 := A1.out
    have hv : IntKind.u64.wrap (IntKind.u64.wrap (IntKind.u64.wrap ((u : Int) * 4294967296) + (un1 : Int)) - IntKind.u64.wrap ((q1 : Int) * (Y : Int))) = ((4294967296 * u + un1 - q1 * Y : Nat) : Int) := by
      rw [← Int.natCast_mul, Int.mul_comm (u : Int) 4294967296]
      have e : (q1 + 1) * Y = q1 * Y + Y := by rw [Nat.add_mul, Nat.one_mul]
      rw [e] at HA1
      generalize q1 * Y = z at *
      clear e
      simp only [IntKind.wrap_u64]
      omega
    have hvY : 4294967296 * u + un1 - q1 * Y < Y := by
      have e : (q1 + 1) * Y = q1 * Y + Y := by rw [Nat.add_mul, Nat.one_mul]
      rw [e] at HA1
      generalize q1 * Y = z at *
      omega
    have HA2 := Lib.hid HA1
    clear HA1
    have HV := Lib.hid hv
    clear hv
    go_upto_region 22 with (fail)
    simp only [HV.out]
    clear HV
    obtain ⟨v, HVV⟩ : ∃ v : Nat, Hid (4294967296 * u + un1 - q1 * Y = v) := ⟨_, rfl⟩
    rw [HVV.out] at hvY
    rw [HVV.out]
    obtain ⟨F0, fr0, fle0⟩ := est_begin HN.out.y' g3 g1 g5 hvY
    have HF0 := Lib.hid F0
    have fqb := F0.le
    clear F0
    have hq0 : ((v : Int) / (yn1 : Int)) = ((v / yn1 : Nat) : Int) := by simp
    have hw0 : IntKind.u64.wrap (((v / yn1 : Nat) : Int) * (yn1 : Int)) = ((v / yn1 * yn1 : Nat) : Int) := by rw [← Int.natCast_mul]; exact IntWalk.u64_in _ (by omega)
    have hw1 : IntKind.u64.wrap ((v : Int) - ((v / yn1 * yn1 : Nat) : Int)) = ((v - v / yn1 * yn1 : Nat) : Int) := by rw [← Int.natCast_sub fle0]; exact IntWalk.u64_in _ (by omega)
    have fr0' : v - v / yn1 * yn1 < 4294967296 := by omega
    generalize v - v / yn1 * yn1 = r at *
    generalize v / yn1 * yn1 = qy at *
    generalize v / yn1 = q at *
    go_upto_block 2 with (fail)
    clear hw0 hw1 hq0
    go_cut [18] (fun s18 wx => ∃ q0 : Nat, s18 = .int .u64 q0 ∧ w = wx ∧ Aside (q0 * Y ≤ 4294967296 * v + un0 ∧ 4294967296 * v + un0 < (q0 + 1) * Y))
    case first =>
      go_wp2_with (fail)
      go_loopg [16, 18] q (fun gg s16 s18 wr => ∃ q r : Nat, q ≤ gg ∧ q ≤ 4294967297 ∧ r < 4294967296 ∧ s18 = .int .u64 q ∧ s16 = .int .u64 r ∧ Aside (w = wr) ∧ Aside (Est Y yn1 v un0 q r))
      case atStart => exact ⟨q, r, Nat.le_refl _, fqb, fr0', rfl, rfl, (rfl : w = w), HF0.out⟩
      case round =>
        obtain ⟨q, r, hqg, hql, hrl, rfl, rfl, rfl, EA⟩ := hrel
        have e1 : IntKind.u64.wrap ((q : Int) * (yn0 : Int)) = ((q * yn0 : Nat) : Int) := by
          have := Nat.mul_le_mul hql (show yn0 ≤ 4294967295 by omega)
          rw [← Int.natCast_mul]; exact IntWalk.u64_in _ (by omega)
        obtain ⟨qi, hqi⟩ : ∃ qi : Int, (q : Int) = qi := ⟨_, rfl⟩
        obtain ⟨ri, hri⟩ : ∃ ri : Int, (r : Int) = ri := ⟨_, rfl⟩
        obtain ⟨m, hm⟩ : ∃ m : Nat, q * yn0 = m := ⟨_, rfl⟩
        have HM := Lib.hid hm
        rw [hm] at e1
        clear hm
        obtain ⟨mi, hmi⟩ : ∃ mi : Int, (m : Int) = mi := ⟨_, rfl⟩
        rw [hmi, hqi] at e1
        rw [hqi, hri]
        have r1 : 0 ≤ ri := by omega
        have r2 : ri < 4294967296 := by omega
        have q1 : 0 ≤ qi := by omega
        have q2 : qi ≤ 4294967297 := by omega
        by_cases hq : 4294967296 ≤ q
        · have t1 : 4294967296 ≤ qi := by omega
          obtain ⟨hpos, E2⟩ := est_more HN.out.y' g5 hvY EA.out (.inl hq)
          have HE2 := Lib.hid E2
          have HQ := Lib.hid hqi
          have HR := Lib.hid hri
          have t4 : 1 ≤ qi := by omega
          by_cases hr : 4294967296 ≤ r + yn1
          · have HA := Lib.hid (est_grown HN.out.y' g3 HE2.out (by omega) hr)
            have HP := Lib.hid hpos
            have t2 : 4294967296 ≤ ri + (yn1 : Int) := by omega
            clear E2 hqi hri hr hq hql hrl hqg hmi hpos
            go_wp2_with (fail)
            go_meet
            have := HQ.out
            have := HP.out
            exact ⟨q - 1, by go_num, rfl, HA.out⟩
          · have HP := Lib.hid (show 0 < q ∧ q - 1 ≤ 4294967296 ∧ r + yn1 < 4294967296 ∧ q ≤ gk by omega)
            have t2 : ri + (yn1 : Int) < 4294967296 := by omega
            clear E2 hqi hri hr hq hql hrl hqg hmi hpos
            go_wp2_with (fail)
            go_roundg (q - 1)
            case measure => have := HP.out; omega
            case rel =>
              have := HQ.out
              have := HR.out
              have := HP.out
              exact ⟨q - 1, r + yn1, by omega, by omega, by omega, by go_num, by go_num, (rfl : w = w), HE2.out⟩
        · by_cases hc : 4294967296 * r + un0 < m
          · have t1 : qi < 4294967296 := by omega
            have t3 : 4294967296 * ri + (un0 : Int) < mi := by omega
            obtain ⟨hpos, E2⟩ := est_more HN.out.y' g5 hvY EA.out (.inr (by rw [HM.out]; exact hc))
            have HE2 := Lib.hid E2
            have HQ := Lib.hid hqi
            have HR := Lib.hid hri
            have t4 : 1 ≤ qi := by omega
            by_cases hr : 4294967296 ≤ r + yn1
            · have HA := Lib.hid (est_grown HN.out.y' g3 HE2.out (by omega) hr)
              have HP := Lib.hid hpos
              have t2 : 4294967296 ≤ ri + (yn1 : Int) := by omega
              clear E2 hqi hri hr hc hq hql hrl hqg hmi hpos
              go_wp2_with (fail)
              go_meet
              have := HQ.out
              have := HP.out
              exact ⟨q - 1, by go_num, rfl, HA.out⟩
            · have HP := Lib.hid (show 0 < q ∧ q - 1 ≤ 4294967296 ∧ r + yn1 < 4294967296 ∧ q ≤ gk by omega)
              have t2 : ri + (yn1 : Int) < 4294967296 := by omega
              clear E2 hqi hri hr hc hq hql hrl hqg hmi hpos
              go_wp2_with (fail)
              go_roundg (q - 1)
              case measure => have := HP.out; omega
              case rel =>
                have := HQ.out
                have := HR.out
                have := HP.out
                exact ⟨q - 1, r + yn1, by omega, by omega, by omega, by go_num, by go_num, (rfl : w = w), HE2.out⟩
          · have HA := Lib.hid (est_done HN.out.y' EA.out (by rw [HM.out]; omega))
            have HQ := Lib.hid hqi
            have t1 : qi < 4294967296 := by omega
            have t3 : mi ≤ 4294967296 * ri + (un0 : Int) := by omega
            clear hqi hri hc hq hql hrl hqg hmi
            go_wp2_with (fail)
            go_meet
            have := HQ.out
            exact ⟨q, by go_num, rfl, HA.out⟩
    case rest =>
      obtain ⟨q0, rfl, rfl, A2⟩ := hcut
      go_wp2_with (fail)
      go_ret2
      refine ⟨?_, rfl⟩
      have td := two_digits HA2.out.1 (by rw [HVV.out]; exact A2.out.1) (by rw [HVV.out]; exact A2.out.2)
      rw [HVV.out] at td
      have he := div_end (by omega) HN.out HA2.out HVV.out A2.out hYlt td
      simp
      exact he

/-- math/bits.Div64 -/
theorem div64 (hi lo y : Nat) (hy : y < 18446744073709551616) (hlo : lo < 18446744073709551616) (hlt : hi < y) (w : World) :
    Calls Tryd.prog 90 #[.int .u64 hi, .int .u64 lo, .int .u64 y] w fun e w' => e = .returned (.tuple #[.int .u64 ((18446744073709551616 * hi + lo) / y : Nat), .int .u64 ((18446744073709551616 * hi + lo) % y : Nat)]) ∧ Kept w w' := by
  by_cases h0 : hi = 0
  · subst h0
    have := div64_small lo y hy hlo (by omega) w
    rw [Nat.mul_zero, Nat.zero_add]
    exact this
  · obtain ⟨b1, b2⟩ := bitLen_bounds hy (by omega)
    have h64 : Lib.bitLen y ≤ 64 := by
      refine Nat.le_of_not_lt fun h => ?_
      have h1 : 2 ^ 65 ≤ 2 ^ Lib.bitLen y := Nat.pow_le_pow_right (by omega) h
      have h2 : (2 : Nat) ^ 65 = 36893488147419103232 := rfl
      omega
    have h1 : 0 < Lib.bitLen y := by
      refine Nat.pos_of_ne_zero fun h => ?_
      rw [h] at b1; omega
    refine (div64_big hi lo y (64 - Lib.bitLen y) hy hlo (by omega) hlt (by omega) (by omega) w).mono ?_
    rintro e w' ⟨rfl, rfl⟩
    exact ⟨rfl, Kept.refl _⟩
end Go.Proofs.YtlcbgcieedbggaaDoor
namespace Go.Proofs.YtlcbgcieedbggaaDoor
open Go Go.RowKit

theorem mul64_ex (x y : Nat) (hx : x < 18446744073709551616) (hy : y < 18446744073709551616) (w : World) :
    Calls Tryd.prog 89 #[.int .u64 x, .int .u64 y] w fun e w' => ∃ hi lo : Nat, e = .returned (.tuple #[.int .u64 hi, .int .u64 lo]) ∧ 18446744073709551616 * hi + lo = x * y ∧ lo < 18446744073709551616 ∧ w = w' := by
  refine (mul64 x y hx hy w).mono ?_
  rintro e w' ⟨rfl, rfl⟩
  exact ⟨_, _, rfl, Nat.div_add_mod _ _, Nat.mod_lt _ (by omega), rfl⟩
theorem div64_ex (hi lo y : Nat) (hy : y < 18446744073709551616) (hlo : lo < 18446744073709551616) (hlt : hi < y) (w : World) :
    Calls Tryd.prog 90 #[.int .u64 hi, .int .u64 lo, .int .u64 y] w fun e w' => ∃ q r : Nat, e = .returned (.tuple #[.int .u64 q, .int .u64 r]) ∧ r = (18446744073709551616 * hi + lo) % y ∧ q = (18446744073709551616 * hi + lo) / y ∧ Kept w w' := by
  refine (div64 hi lo y hy hlo hlt w).mono ?_
  rintro e w' ⟨rfl, h⟩
  exact ⟨_, _, rfl, rfl, rfl, h⟩

def prodL (l : List Int) : Int := l.foldl (· * ·) 1
theorem prodL_next {l : List Int} {k : Nat} (h : k < l.length) : prodL (l.take (k + 1)) = prodL (l.take k) * l[k] := by
  rw [List.take_succ_eq_append_getElem h, prodL, List.foldl_append]; rfl

/-- One factor more. -/
theorem prod_step {m out hi lo hm r n : Nat} {sg sg' s0 p x : Int} (hmul : 18446744073709551616 * hi + lo = out * (n % m)) (hhm : hi % m = hm) (hr : r = (18446744073709551616 * hm + lo) % m)
    (hx : sg' * (n : Int) = sg * x) (A : (m : Int) ∣ sg * (out : Int) - s0 * p) : (m : Int) ∣ sg' * (r : Int) - s0 * (p * x) := by
  have e1 : r = out * n % m := by
    rw [hr, ← hhm, Nat.add_mod, Nat.mul_mod_mod, ← Nat.add_mod, hmul, Nat.mul_mod_mod]
  have e2 : ((out * n : Nat) : Int) = (m : Int) * ((out * n / m : Nat) : Int) + (r : Int) := by
    rw [e1, ← Int.natCast_mul, ← Int.natCast_add, Nat.div_add_mod]
  obtain ⟨c, hc⟩ := A
  refine ⟨c * x - sg' * ((out * n / m : Nat) : Int), ?_⟩
  have e3 : sg' * ((out * n : Nat) : Int) = sg * (out : Int) * x := by
    rw [Int.natCast_mul, Int.mul_left_comm, hx, ← Int.mul_assoc, Int.mul_comm (out : Int) sg]
  have e4 : sg * (out : Int) = (m : Int) * c + s0 * p := by omega
  rw [e4, e2, Int.mul_add, Int.add_mul] at e3
  rw [Int.mul_sub, ← Int.mul_assoc (m : Int) c x, ← Int.mul_assoc (m : Int) sg', Int.mul_comm (m : Int) sg', Int.mul_assoc sg', ← Int.mul_assoc s0]
  omega

theorem fin_mod {m t p : Int} (h0 : 0 ≤ t) (h1 : t < m) (h : m ∣ t - p) : p % m = t := by
  obtain ⟨c, hc⟩ := h
  have : p = t - m * c := by omega
  rw [this, Int.sub_mul_emod_self_left, Int.emod_eq_of_lt h0 h1]
theorem end_zero {m : Nat} {sg p : Int} (hm : 1 < m) (h : (m : Int) ∣ sg * ((0 : Nat) : Int) - p) : p % (m : Int) = 0 :=
  fin_mod (by omega) (by omega) (by simpa using h)
theorem end_neg {m out : Nat} {sg p : Int} (ho : out ≠ 0) (ho2 : out < m) (hs : sg < 0) (hs1 : sg = 1 ∨ sg = -1) (h : (m : Int) ∣ sg * (out : Int) - p) : p % (m : Int) = (m : Int) - (out : Int) := by
  obtain rfl : sg = -1 := by omega
  refine fin_mod (by omega) (by omega) ?_
  obtain ⟨c, hc⟩ := h
  exact ⟨c + 1, by rw [Int.mul_add]; omega⟩
theorem end_pos {m out : Nat} {sg p : Int} (ho2 : out < m) (hs : ¬ sg < 0) (hs1 : sg = 1 ∨ sg = -1) (h : (m : Int) ∣ sg * (out : Int) - p) : p % (m : Int) = (out : Int) := by
  obtain rfl : sg = 1 := by omega
  exact fin_mod (by omega) (by omega) (by simpa using h)

set_option maxHeartbeats 1000000 in
theorem product (m : Nat) (s0 : Int) (l : List Int) (hm1 : 1 < m) (hm2 : m < 4611686018427387904) (hs : s0 = 1 ∨ s0 = -1) (hl : ∀ x ∈ l, -1000000 ≤ x ∧ x ≤ 1000000) (a : Option Addr) (cap : Nat) (w : World) (hx : SlA w 1 encI a l) :
    Calls Tryd.prog 62 #[.int .u64 m, .int .i64 s0, .slice a l.length cap] w fun e w' => e = .returned (.int .u64 (s0 * prodL l % (m : Int))) ∧ Kept w w' := by
  have hm := hx.len
  have hmz : ((m : Int) == 0) = false := by simp; omega
  go_enter Tryd.func62, Tryd.ntmps62
  go_wp2
  go_loopg [1, 7, 15] l.length (fun gg s1 s7 s15 wr => ∃ kk out : Nat, ∃ sg : Int, kk ≤ l.length ∧ l.length - kk ≤ gg ∧ -1 ≤ sg ∧ sg ≤ 1 ∧ s15 = .int .i64 kk ∧ s1 = .int .i64 sg ∧ s7 = .int .u64 out ∧ out < m ∧ Aside (Kept w wr) ∧ Aside ((sg = 1 ∨ sg = -1) ∧ (m : Int) ∣ sg * (out : Int) - s0 * prodL (l.take kk)))
  case atStart => exact ⟨0, 1, s0, Nat.zero_le _, by omega, by omega, by omega, rfl, rfl, rfl, by omega, Kept.refl w, hs, by simp [prodL]⟩
  case round =>
    obtain ⟨kk, out, sg, hkk, hg, hs1, hs2, rfl, rfl, rfl, hout, BW, A⟩ := hrel
    by_cases hlt : kk < l.length
    · obtain ⟨b, off, rfl, hb, hc0⟩ := hx.int hlt
      have hc0 := (BW.out.cell (p := ⟨b, off + kk, none⟩) hb).trans hc0
      obtain ⟨hx1, hx2⟩ := hl _ (List.getElem_mem hlt)
      have HP := Lib.hid (prodL_next hlt)
      generalize l[kk] = x at hc0 HP hx1 hx2
      by_cases hneg : x < 0
      · obtain ⟨n, hn⟩ : ∃ n : Nat, x = -(n : Int) := ⟨x.natAbs, by omega⟩
        subst hn
        have hn1 : 1 ≤ n := by omega
        have hmx : max (-(n : Int)) (n : Int) = (n : Int) := by omega
        have hym : n % m < m := Nat.mod_lt _ (by omega)
        have hmod : (n : Int) % (m : Int) = ((n % m : Nat) : Int) := by simp
        generalize hy : n % m = y at hym hmod
        have HY := Lib.hid hy
        clear hy
        go_wp2_with (first
          | (go_at_call 89; go_must (refine (mul64_ex out y (by omega) (by omega) _).mono ?_); rintro e w' ⟨hi, lo, rfl, h1, h2, rfl⟩; have H1 := Lib.hid h1; clear h1; have hzm : hi % m < m := Nat.mod_lt _ (by omega); have hz2 : (hi : Int) % (m : Int) = ((hi % m : Nat) : Int) := (by simp); generalize hz : hi % m = z at hzm hz2; have HZ := Lib.hid hz; clear hz)
          | (go_at_call 90; go_must (refine (div64_ex _ _ m (by omega) (by assumption) (by assumption) _).mono ?_); rintro e w' ⟨q, r, rfl, hr, hq, hk⟩; have HR := Lib.hid hr; clear hr hq))
        go_roundg (l.length - (kk + 1))
        case measure => omega
        case rel =>
          have hrm : r < m := by rw [HR.out]; exact Nat.mod_lt _ (by omega)
          exact ⟨kk + 1, r, -sg, by omega, by omega, by omega, by omega, by go_num, rfl, rfl, hrm, BW.out.trans hk, by have := A.out.1; omega, by rw [HP.out]; exact prod_step (by rw [HY.out]; exact H1.out) HZ.out HR.out (by rw [Int.mul_neg, Int.neg_mul]) A.out.2⟩
      · obtain ⟨n, hn⟩ : ∃ n : Nat, x = (n : Int) := ⟨x.natAbs, by omega⟩
        subst hn
        have hmx : max (n : Int) (-(n : Int)) = (n : Int) := by omega
        have hym : n % m < m := Nat.mod_lt _ (by omega)
        have hmod : (n : Int) % (m : Int) = ((n % m : Nat) : Int) := by simp
        generalize hy : n % m = y at hym hmod
        have HY := Lib.hid hy
        clear hy
        go_wp2_with (first
          | (go_at_call 89; go_must (refine (mul64_ex out y (by omega) (by omega) _).mono ?_); rintro e w' ⟨hi, lo, rfl, h1, h2, rfl⟩; have H1 := Lib.hid h1; clear h1; have hzm : hi % m < m := Nat.mod_lt _ (by omega); have hz2 : (hi : Int) % (m : Int) = ((hi % m : Nat) : Int) := (by simp); generalize hz : hi % m = z at hzm hz2; have HZ := Lib.hid hz; clear hz)
          | (go_at_call 90; go_must (refine (div64_ex _ _ m (by omega) (by assumption) (by assumption) _).mono ?_); rintro e w' ⟨q, r, rfl, hr, hq, hk⟩; have HR := Lib.hid hr; clear hr hq))
        go_roundg (l.length - (kk + 1))
        case measure => omega
        case rel =>
          have hrm : r < m := by rw [HR.out]; exact Nat.mod_lt _ (by omega)
          exact ⟨kk + 1, r, sg, by omega, by omega, by omega, by omega, by go_num, rfl, rfl, hrm, BW.out.trans hk, A.out.1, by rw [HP.out]; exact prod_step (by rw [HY.out]; exact H1.out) HZ.out HR.out (by rfl) A.out.2⟩
    · have hkk : kk = l.length := by omega
      subst hkk
      have HT := Lib.hid (List.take_length (l := l))
      have A2 := A.out
      rw [HT.out] at A2
      have HA := Lib.hid A2
      clear A2 A
      have HS := Lib.hid (show out < m from hout)
      by_cases hneg : sg < 0
      · by_cases ho : out = 0
        · subst ho
          have HE := Lib.hid (end_zero hm1 HA.out.2)
          go_wp2_with (fail)
          go_ret
          refine ⟨?_, BW.out⟩
          rw [HE.out]
          rfl
        · have ho' : ((out : Int) == 0) = false := by simp; omega
          have ho2 : ((out : Int) != 0) = true := by simp; omega
          have HE := Lib.hid (end_neg ho hout hneg HA.out.1 HA.out.2)
          go_wp2_with (fail)
          go_ret
          refine ⟨?_, BW.out⟩
          rw [HE.out]
          rfl
      · have HE := Lib.hid (end_pos hout hneg HA.out.1 HA.out.2)
        go_wp2_with (fail)
        go_ret
        refine ⟨?_, BW.out⟩
        rw [HE.out]
        rfl

/-- f s + w = n + e, the denominators multiplied out -/
def balSum (f s w n e : Frac) : Int := prodL [f.num, s.num, w.den, n.den, e.den] + prodL [w.num, f.den, s.den, n.den, e.den] - prodL [n.num, f.den, s.den, w.den, e.den] - prodL [e.num, f.den, s.den, w.den, n.den]

theorem SlA.five (w : World) (t : TypeId) (x0 x1 x2 x3 x4 : Int) : SlA (w.alloc (.cells #[.int .i64 x0, .int .i64 x1, .int .i64 x2, .int .i64 x3, .int .i64 x4] t)) 1 encI (some ⟨w.heap.size, 0, none⟩) [x0, x1, x2, x3, x4] := by
  refine ⟨by simp, .inr ⟨w.heap.size, 0, rfl, by simp, ?_⟩⟩
  intro j h i v hv
  simp only [List.length_cons, List.length_nil] at h
  have hi : i = 0 := by
    cases i with
    | zero => rfl
    | succ i => simp [encI] at hv
  subst hi
  match j, h with
  | 0, _ => simp [encI] at hv; subst hv; simp
  | 1, _ => simp [encI] at hv; subst hv; simp
  | 2, _ => simp [encI] at hv; subst hv; simp
  | 3, _ => simp [encI] at hv; subst hv; simp
  | 4, _ => simp [encI] at hv; subst hv; simp

theorem product5 (m : Nat) (s0 x0 x1 x2 x3 x4 : Int) (hm1 : 1 < m) (hm2 : m < 4611686018427387904) (hs : s0 = 1 ∨ s0 = -1) (hl : ∀ x ∈ [x0, x1, x2, x3, x4], -1000000 ≤ x ∧ x ≤ 1000000) (a : Option Addr) (cap : Nat) (w : World) (hx : SlA w 1 encI a [x0, x1, x2, x3, x4]) :
    Calls Tryd.prog 62 #[.int .u64 m, .int .i64 s0, .slice a 5 cap] w fun e w' => e = .returned (.int .u64 (s0 * prodL [x0, x1, x2, x3, x4] % (m : Int))) ∧ Kept w w' :=
  product m s0 _ hm1 hm2 hs hl a cap w hx
end Go.Proofs.YtlcbgcieedbggaaDoor
