/- Texts of this claim, one behind the other: Ti. -/
import Derived.Test.YtlcbgcieedbggaaDoorMn18
import Derived.Test.YtlcbgcieedbggaaDoorMn20
set_option linter.unusedVariables false
set_option linter.unusedSimpArgs false
namespace Go.Proofs.YtlcbgcieedbggaaDoor
open Go Go.RowKit

theorem topCheck (ts : List Tile) (W : Wt) (v b : Bool) (hv : validW ts W = v) (hb : (validW ts W && checkB 2305843009213693951 2305843009213693921 2305843009213693907 ts W) = b) (a : Option Addr) (cap : Nat) (a0 a1 a2 a3 a4 : Option Addr) (c0 c1 c2 c3 c4 : Nat) (hc3 : W.primes.length ≤ c3) (w : World) (hx : SlA w 4 encT a ts) (hW : WIs w a0 a1 a2 a3 a4 W) (hM : Mods 2305843009213693951 2305843009213693921 2305843009213693907 w) :
    Calls Tryd.prog 12 #[.slice a ts.length cap, .agg #[.slice a0 W.values.length c0, .slice a1 W.carries.length c1, .slice a2 W.factors.length c2, .slice a3 W.primes.length c3, .slice a4 W.logs.length c4]] w
      fun e w' => e = .returned (.tuple #[.bool b, .int .i64 (if v then 0 else 1)]) ∧ Kept w w' := by
  subst hb; subst hv
  exact check _ _ _ ts W a cap a0 a1 a2 a3 a4 c0 c1 c2 c3 c4 hc3 w hx hW hM

/-- what 'of' says of an accepted set: no -/
theorem topOf (ts : List Tile) (W : Wt) (hb : (validW ts W && checkB 2305843009213693951 2305843009213693921 2305843009213693907 ts W) = true) (pw ph : Int) (cells : List Int) (a ac : Option Addr) (cap cc : Nat) (w : World) (hx : SlA w 4 encT a ts) (hc : SlA w 1 encI ac cells) (hw0 : -9223372036854775808 ≤ pw ∧ pw ≤ 9223372036854775807) (hh0 : -9223372036854775808 ≤ ph ∧ ph ≤ 9223372036854775807) :
    Calls Tryd.prog 13 #[.slice a ts.length cap, .agg #[.int .i64 pw, .int .i64 ph, .slice ac cells.length cc], .bool true] w fun e w' => e = .returned (.bool false) ∧ Kept w w' := by
  simp only [Bool.and_eq_true] at hb
  refine (ofCalls ts pw ph cells a ac cap cc w hx hc hw0 hh0).mono ?_
  rintro e w' ⟨b, rfl, h2, h1⟩
  cases b with
  | true => exact absurd (h1 rfl) (noPeriod hb.1 hb.2)
  | false => exact ⟨rfl, h2⟩

set_option maxHeartbeats 2000000 in
set_option maxRecDepth 100000 in
theorem topNoPeriod (ts : List Tile) (W : Wt) (pw ph : Int) (cells : List Int) (a : Option Addr) (cap : Nat) (a0 a1 a2 a3 a4 : Option Addr) (c0 c1 c2 c3 c4 : Nat) (hc3 : W.primes.length ≤ c3) (ac : Option Addr) (cc : Nat) (w : World) (hx : SlA w 4 encT a ts) (hW : WIs w a0 a1 a2 a3 a4 W) (hc : SlA w 1 encI ac cells) (hw0 : -9223372036854775808 ≤ pw ∧ pw ≤ 9223372036854775807) (hh0 : -9223372036854775808 ≤ ph ∧ ph ≤ 9223372036854775807)
    (hM : Mods 2305843009213693951 2305843009213693921 2305843009213693907 w) :
    Calls Tryd.prog 4 #[.slice a ts.length cap, .agg #[.slice a0 W.values.length c0, .slice a1 W.carries.length c1, .slice a2 W.factors.length c2, .slice a3 W.primes.length c3, .slice a4 W.logs.length c4], .agg #[.int .i64 pw, .int .i64 ph, .slice ac cells.length cc]] w
      fun e w' => e = .returned (.bool true) ∧ Kept w w' := by
  obtain ⟨v, hv⟩ : ∃ v, validW ts W = v := ⟨_, rfl⟩
  obtain ⟨b, hb⟩ : ∃ b, (validW ts W && checkB 2305843009213693951 2305843009213693921 2305843009213693907 ts W) = b := ⟨_, rfl⟩
  have hk : Kept w ((w.alloc (.cells #[.slice a0 W.values.length c0, .slice a1 W.carries.length c1, .slice a2 W.factors.length c2, .slice a3 W.primes.length c3, .slice a4 W.logs.length c4] 38)).alloc (.cells #[.int .i64 pw, .int .i64 ph, .slice ac cells.length cc] 31)) := ((Kept.refl w).alloc (Nat.le_refl _) _).alloc (by simp) _
  have l1 := hx.len
  have l2 := hc.len
  have HC := Lib.hid (fun w hx hW hM => topCheck ts W v b hv hb a cap a0 a1 a2 a3 a4 c0 c1 c2 c3 c4 hc3 w hx hW hM)
  have HO := Lib.hid (fun (h : b = true) w hx hc => topOf ts W (hb.trans h) pw ph cells a ac cap cc w hx hc hw0 hh0)
  have HK := Lib.hid hk
  have HI := Lib.hid (And.intro hx (And.intro hW (And.intro hc hM)))
  have hvb : b = true → v = true := by
    intro h
    rw [← hv]
    rw [h] at hb
    exact (Bool.and_eq_true _ _ ▸ hb).1
  clear hv hb hk hx hW hc hM
  by_cases h1 : 200 < ts.length
  · have t1 : decide (200 < (ts.length : Int)) = true := decide_eq_true (by omega)
    have t2 : decide (200 < ts.length) = true := decide_eq_true h1
    clear h1 hvb l1 l2
    go_enter Tryd.func4, Tryd.ntmps4
    go_wp2_with (go_at_call 11; refine (doubles _ (HI.out.2.2.2.kept HK.out)).mono ?_; rintro e w1 ⟨rfl, k1⟩)
    go_ret
    exact ⟨rfl, HK.out.trans k1⟩
  · have t1 : decide (200 < (ts.length : Int)) = false := decide_eq_false (by omega)
    have t2 : decide (200 < ts.length) = false := decide_eq_false h1
    clear h1
    by_cases h2 : 5000 < cells.length
    · have t3 : decide (5000 < (cells.length : Int)) = true := decide_eq_true (by omega)
      have t4 : decide (5000 < cells.length) = true := decide_eq_true h2
      clear h2 hvb l1 l2
      go_enter Tryd.func4, Tryd.ntmps4
      go_wp2_with (go_at_call 11; refine (doubles _ (HI.out.2.2.2.kept HK.out)).mono ?_; rintro e w1 ⟨rfl, k1⟩)
      go_ret
      exact ⟨rfl, HK.out.trans k1⟩
    · have t3 : decide (5000 < (cells.length : Int)) = false := decide_eq_false (by omega)
      have t4 : decide (5000 < cells.length) = false := decide_eq_false h2
      clear h2 l1 l2
      cases b with
      | true =>
        obtain rfl := hvb rfl
        clear hvb
        have HO' := Lib.hid (HO.out rfl)
        go_enter Tryd.func4, Tryd.ntmps4
        go_wp2_with (first
          | (go_at_call 12; refine (HC.out _ (HI.out.1.kept HK.out) (HI.out.2.1.kept HK.out) (HI.out.2.2.2.kept HK.out)).mono ?_; rintro e w1 ⟨rfl, k1⟩; obtain ⟨kc, kf⟩ := k1.cells; have l3 := k1.size)
          | (go_at_call 13; refine (HO'.out _ (HI.out.1.kept (HK.out.trans k1)) (HI.out.2.2.1.kept (HK.out.trans k1))).mono ?_; rintro e w2 ⟨rfl, k2⟩)
          | (go_at_call 11; refine (doubles _ (HI.out.2.2.2.kept (HK.out.trans (k1.trans k2)))).mono ?_; rintro e w3 ⟨rfl, k3⟩))
        go_ret
        exact ⟨rfl, HK.out.trans (k1.trans (k2.trans k3))⟩
      | false =>
        clear hvb HO
        cases v with
        | true =>
          go_enter Tryd.func4, Tryd.ntmps4
          go_wp2_with (first
            | (go_at_call 12; refine (HC.out _ (HI.out.1.kept HK.out) (HI.out.2.1.kept HK.out) (HI.out.2.2.2.kept HK.out)).mono ?_; rintro e w1 ⟨rfl, k1⟩)
            | (go_at_call 11; refine (doubles _ (HI.out.2.2.2.kept (HK.out.trans k1))).mono ?_; rintro e w3 ⟨rfl, k3⟩))
          go_ret
          exact ⟨rfl, HK.out.trans (k1.trans k3)⟩
        | false =>
          go_enter Tryd.func4, Tryd.ntmps4
          go_wp2_with (first
            | (go_at_call 12; refine (HC.out _ (HI.out.1.kept HK.out) (HI.out.2.1.kept HK.out) (HI.out.2.2.2.kept HK.out)).mono ?_; rintro e w1 ⟨rfl, k1⟩)
            | (go_at_call 11; refine (doubles _ (HI.out.2.2.2.kept (HK.out.trans k1))).mono ?_; rintro e w3 ⟨rfl, k3⟩))
          go_ret
          exact ⟨rfl, HK.out.trans (k1.trans k3)⟩
end Go.Proofs.YtlcbgcieedbggaaDoor
