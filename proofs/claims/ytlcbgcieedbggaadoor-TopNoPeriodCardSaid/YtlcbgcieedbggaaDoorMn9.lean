/- Texts of this claim, one behind the other: Wh. -/
import Derived.Test.YtlcbgcieedbggaaDoorMn7
import Derived.Test.YtlcbgcieedbggaaDoorMn8
set_option linter.unusedVariables false
set_option linter.unusedSimpArgs false
namespace Go.Proofs.YtlcbgcieedbggaaDoor
open Go Go.RowKit

theorem grows_b (f : Frac) (W : Wt) (q : Bool) (hq : growsB f W = q) (hf : fracOk f = true) (hp : 0 < f.num) (hl : W.logs.length = W.primes.length) (h12 : W.primes.length ≤ 12) (hP : PrimesTo W W.primes.length) (a0 a1 a2 a3 a4 : Option Addr) (n0 n1 n2 c0 c1 c2 c3 c4 : Nat) (w : World)
    (h3 : SlA w 1 encI a3 W.primes) (h4 : SlA w 1 encI a4 W.logs) :
    Calls Tryd.prog 41 #[.agg #[.int .i64 f.num, .int .i64 f.den], .agg #[.slice a0 n0 c0, .slice a1 n1 c1, .slice a2 n2 c2, .slice a3 W.primes.length c3, .slice a4 W.logs.length c4]] w
      fun e w' => e = .returned (.bool q) ∧ Kept w w' := by
  subst hq; exact growsCalls f W hf hp hl h12 hP a0 a1 a2 a3 a4 n0 n1 n2 c0 c1 c2 c3 c4 w h3 h4

set_option maxHeartbeats 1000000 in
set_option maxRecDepth 100000 in
theorem check41 (f : Frac) (q : Bool) (ts : List Tile) (W : Wt) (hq : growsB f W = q) (Bs Bw : Nat) (a : Option Addr) (cap : Nat) (a0 a1 a2 a3 a4 : Option Addr) (c0 c1 c2 c3 c4 : Nat) (w : World) (hC : Caps w Bs Bw ts W a cap a0 a1 a2 a3 a4 c0 c1 c2 c3 c4)
    (hf : fracOk f = true) (hp : 0 < f.num) (hl : W.logs.length = W.primes.length) (h12 : W.primes.length ≤ 12) (hP : PrimesTo W W.primes.length) :
    Calls Tryd.prog 40 #[.agg #[.int .i64 f.num, .int .i64 f.den], .pointer (some ⟨Bw, 0, none⟩)] w fun e w' => e = .returned (.bool q) ∧ Kept w w' := by
  have hk : Kept w (w.alloc (.cells #[.int .i64 f.num, .int .i64 f.den] 87)) := (Kept.refl w).alloc (Nat.le_refl _) _
  have hC := hC.kept hk
  have HQ := Lib.hid hq
  have HL := Lib.hid hl
  clear hq hl
  have x0 : (w.alloc (.cells #[.int .i64 f.num, .int .i64 f.den] 87)).cell? ⟨w.heap.size, 0, none⟩ = some (.int .i64 f.num) := by simp
  have x1 : (w.alloc (.cells #[.int .i64 f.num, .int .i64 f.den] 87)).cell? ⟨w.heap.size, 1, none⟩ = some (.int .i64 f.den) := by simp
  have HX := Lib.hid (And.intro x0 x1)
  have HK := Lib.hid hk
  have HC := Lib.hid hC
  clear x0 x1 hk hC
  go_enter Tryd.func40, Tryd.ntmps40
  go_upto_region 1 with (fail)
  generalize w.alloc (.cells #[.int .i64 f.num, .int .i64 f.den] 87) = wx at HX HK HC ⊢
  have q0 := HC.out.w0
  have q1 := HC.out.w1
  have q2 := HC.out.w2
  have q3 := HC.out.w3
  have q4 := HC.out.w4
  have x0 := HX.out.1
  have x1 := HX.out.2
  go_wp2_with (go_at_call 41; refine (grows_b f W q HQ.out hf hp HL.out h12 hP a0 a1 a2 a3 a4 _ _ _ c0 c1 c2 c3 c4 _ HC.out.W'.s3 HC.out.W'.s4).mono ?_; rintro e w' ⟨rfl, hb'⟩)
  go_ret
  exact ⟨rfl, HK.out.trans hb'⟩

theorem all_b (g : Nat) (lb : Array Value) (eg : ∀ args w, (callFunc g args).run Tryd.prog w = .ok (.enter g args) w) (p : Frac → Bool) (xs : List Frac) (q : Bool) (hq : xs.all p = q) (a : Option Addr) (cap n : Nat) (hn : n = xs.length) (w : World)
    (hp : Pred Tryd.prog g lb encF p w xs) (hx : SlA w 2 encF a xs) :
    Calls Tryd.prog 39 #[.slice a n cap, .func (.func g) #[] lb] w fun e w' => e = .returned (.bool q) ∧ Kept w w' := by
  subst hq; subst hn; exact all g lb eg p xs a cap w hp hx

set_option maxHeartbeats 1000000 in
theorem check4 (q : Bool) (ts : List Tile) (W : Wt) (hq : W.factors.all (growsB · W) = q) (Bs Bw : Nat) (a : Option Addr) (cap : Nat) (a0 a1 a2 a3 a4 : Option Addr) (c0 c1 c2 c3 c4 : Nat) (w : World) (hC : Caps w Bs Bw ts W a cap a0 a1 a2 a3 a4 c0 c1 c2 c3 c4)
    (hf : W.factors.all fracOk = true) (hp : W.factors.all (fun f => decide (0 < f.num)) = true) (hl : W.logs.length = W.primes.length) (h12 : W.primes.length ≤ 12) (hP : PrimesTo W W.primes.length) :
    Calls Tryd.prog 38 #[.pointer (some ⟨Bw, 0, none⟩)] w fun e w' => e = .returned (.bool q) ∧ Kept w w' := by
  have hpr : Pred Tryd.prog 40 #[.pointer (some ⟨Bw, 0, none⟩)] encF (growsB · W) w W.factors := by
    intro W1 x hx hk
    exact check41 x _ ts W rfl Bs Bw a cap a0 a1 a2 a3 a4 c0 c1 c2 c3 c4 W1 (hC.kept hk) (List.all_eq_true.1 hf _ hx) (by simpa using List.all_eq_true.1 hp _ hx) hl h12 hP
  have HA := Lib.hid (all_b 40 #[.pointer (some ⟨Bw, 0, none⟩)] (enters_of Tryd.func40 (by kernel_rfl) rfl) (growsB · W) W.factors q hq a2 c2 _ rfl w hpr hC.W'.s2)
  have q2 := hC.w2
  clear hq hC hpr hf hp hP hl
  go_enter Tryd.func38, Tryd.ntmps38
  go_wp2_with (go_at_call 39; refine HA.out.mono ?_; rintro e w' ⟨rfl, hb'⟩)
  go_ret
  exact ⟨rfl, hb'⟩
end Go.Proofs.YtlcbgcieedbggaaDoor
