/- Texts of this claim, one behind the other: Wd, Wf. -/
import Derived.Test.YtlcbgcieedbggaaDoorMn5
import Derived.Test.YtlcbgcieedbggaaDoorMn6
import Derived.Test.YtlcbgcieedbggaaDoorMn3
set_option linter.unusedVariables false
set_option linter.unusedSimpArgs false
namespace Go.Proofs.YtlcbgcieedbggaaDoor
open Go Go.RowKit

/-- The three moduli, as the package's variable holds them. -/
structure Mods (m0 m1 m2 : Nat) (w : World) : Prop where
  b0 : 1 < m0 ∧ m0 < 4611686018427387904
  b1 : 1 < m1 ∧ m1 < 4611686018427387904
  b2 : 1 < m2 ∧ m2 < 4611686018427387904
  lt : 0 < w.heap.size
  c0 : w.cell? ⟨0, 0, none⟩ = some (.int .u64 m0)
  c1 : w.cell? ⟨0, 1, none⟩ = some (.int .u64 m1)
  c2 : w.cell? ⟨0, 2, none⟩ = some (.int .u64 m2)
theorem Mods.kept {m0 m1 m2 : Nat} {w w' : World} (h : Mods m0 m1 m2 w) (hk : Kept w w') : Mods m0 m1 m2 w' :=
  ⟨h.b0, h.b1, h.b2, Nat.lt_of_lt_of_le h.lt hk.size, (hk.cell (p := ⟨0, 0, none⟩) h.lt).trans h.c0, (hk.cell (p := ⟨0, 1, none⟩) h.lt).trans h.c1, (hk.cell (p := ⟨0, 2, none⟩) h.lt).trans h.c2⟩

def balB (m : Nat) (f s w n e : Frac) : Bool := decide (balSum f s w n e % (m : Int) = 0)
/-- one round: the sum of the four products modulo m -/
def sum4 (m : Nat) (r0 r1 r2 r3 : Int) : Int := (((r0 % m + r1) % m + r2) % m + r3) % m

/-- The five boxes of balanced. -/
def Boxes (B : Nat) (f s cw n e : Frac) (w : World) : Prop :=
  B + 5 ≤ w.heap.size ∧
  (w.cell? ⟨B, 0, none⟩ = some (.int .i64 f.num) ∧ w.cell? ⟨B, 1, none⟩ = some (.int .i64 f.den)) ∧
  (w.cell? ⟨B + 1, 0, none⟩ = some (.int .i64 s.num) ∧ w.cell? ⟨B + 1, 1, none⟩ = some (.int .i64 s.den)) ∧
  (w.cell? ⟨B + 1 + 1, 0, none⟩ = some (.int .i64 cw.num) ∧ w.cell? ⟨B + 1 + 1, 1, none⟩ = some (.int .i64 cw.den)) ∧
  (w.cell? ⟨B + 1 + 1 + 1, 0, none⟩ = some (.int .i64 n.num) ∧ w.cell? ⟨B + 1 + 1 + 1, 1, none⟩ = some (.int .i64 n.den)) ∧
  (w.cell? ⟨B + 1 + 1 + 1 + 1, 0, none⟩ = some (.int .i64 e.num) ∧ w.cell? ⟨B + 1 + 1 + 1 + 1, 1, none⟩ = some (.int .i64 e.den))
theorem Boxes.kept {B : Nat} {f s cw n e : Frac} {w w' : World} (h : Boxes B f s cw n e w) (hk : Kept w w') : Boxes B f s cw n e w' := by
  obtain ⟨h0, ⟨h1, h2⟩, ⟨h3, h4⟩, ⟨h5, h6⟩, ⟨h7, h8⟩, ⟨h9, h10⟩⟩ := h
  have hs := hk.size
  refine ⟨by omega, ⟨(hk.cell (p := ⟨B, 0, none⟩) ?_).trans h1, (hk.cell (p := ⟨B, 1, none⟩) ?_).trans h2⟩, ⟨(hk.cell (p := ⟨B + 1, 0, none⟩) ?_).trans h3, (hk.cell (p := ⟨B + 1, 1, none⟩) ?_).trans h4⟩, ⟨(hk.cell (p := ⟨B + 1 + 1, 0, none⟩) ?_).trans h5, (hk.cell (p := ⟨B + 1 + 1, 1, none⟩) ?_).trans h6⟩,
    ⟨(hk.cell (p := ⟨B + 1 + 1 + 1, 0, none⟩) ?_).trans h7, (hk.cell (p := ⟨B + 1 + 1 + 1, 1, none⟩) ?_).trans h8⟩, ⟨(hk.cell (p := ⟨B + 1 + 1 + 1 + 1, 0, none⟩) ?_).trans h9, (hk.cell (p := ⟨B + 1 + 1 + 1 + 1, 1, none⟩) ?_).trans h10⟩⟩ <;> (simp only []; omega)

/-- the four products, with their signs -/
def termsOf (f s w n e : Frac) : List Int := [1 * prodL [f.num, s.num, w.den, n.den, e.den], 1 * prodL [w.num, f.den, s.den, n.den, e.den], (-1) * prodL [n.num, f.den, s.den, w.den, e.den], (-1) * prodL [e.num, f.den, s.den, w.den, n.den]]
def sumTo (l : List Int) (k : Nat) : Int := (l.take k).foldl (· + ·) 0
theorem sumTo_next {l : List Int} {k : Nat} (h : k < l.length) : sumTo l (k + 1) = sumTo l k + l[k] := by
  rw [sumTo, List.take_succ_eq_append_getElem h, List.foldl_append]; rfl
theorem sumTo_four (f s w n e : Frac) : sumTo (termsOf f s w n e) 4 = balSum f s w n e := by
  simp [sumTo, termsOf, balSum]; omega
theorem balB_true {m : Nat} {f s w n e : Frac} : balB m f s w n e = true ↔ balSum f s w n e % (m : Int) = 0 := by simp [balB]
/-- one of three moduli tells -/
theorem bal_no {m m0 m1 m2 kk : Nat} {f s w n e : Frac} (hkk : kk < 3) (hm : m = if kk = 0 then m0 else if kk = 1 then m1 else m2) (h : ¬ balSum f s w n e % (m : Int) = 0) : (balB m0 f s w n e && balB m1 f s w n e && balB m2 f s w n e) = false := by
  match kk, hkk with
  | 0, _ => have : balB m0 f s w n e = false := by simp at hm; subst hm; simp [balB, h]
            simp [this]
  | 1, _ => have : balB m1 f s w n e = false := by simp at hm; subst hm; simp [balB, h]
            simp [this]
  | 2, _ => have : balB m2 f s w n e = false := by simp at hm; subst hm; simp [balB, h]
            simp [this]
theorem bal_next {m m0 m1 m2 kk : Nat} {f s w n e : Frac} (hkk : kk < 3) (hm : m = if kk = 0 then m0 else if kk = 1 then m1 else m2) (h : balSum f s w n e % (m : Int) = 0)
    (A : (1 ≤ kk → balB m0 f s w n e = true) ∧ (2 ≤ kk → balB m1 f s w n e = true) ∧ (3 ≤ kk → balB m2 f s w n e = true)) : (1 ≤ kk + 1 → balB m0 f s w n e = true) ∧ (2 ≤ kk + 1 → balB m1 f s w n e = true) ∧ (3 ≤ kk + 1 → balB m2 f s w n e = true) := by
  match kk, hkk with
  | 0, _ => simp at hm; subst hm; exact ⟨fun _ => balB_true.2 h, by omega, by omega⟩
  | 1, _ => simp at hm; subst hm; exact ⟨fun _ => A.1 (by omega), fun _ => balB_true.2 h, by omega⟩
  | 2, _ => simp at hm; subst hm; exact ⟨fun _ => A.1 (by omega), fun _ => A.2.1 (by omega), fun _ => balB_true.2 h⟩

/- BALV -/
def balV (m B : Nat) (f s cw n e : Frac) (k : Nat) (w' : World) (v : Value) : Prop :=
  match k with
  | 0 => v = .int .u64 m
  | 1 => v = .pointer (some ⟨B, 0, none⟩)
  | 2 => v = .int .i64 f.num
  | 3 => v = .pointer (some ⟨B + 1, 0, none⟩)
  | 4 => v = .int .i64 s.num
  | 5 => v = .pointer (some ⟨B + 1 + 1, 1, none⟩)
  | 6 => v = .int .i64 cw.den
  | 7 => v = .pointer (some ⟨B + 1 + 1 + 1, 1, none⟩)
  | 8 => v = .int .i64 n.den
  | 9 => v = .pointer (some ⟨B + 1 + 1 + 1 + 1, 1, none⟩)
  | 10 => v = .int .i64 e.den
  | 11 => ∃ b, v = .slice (some ⟨b, 0, none⟩) 5 5 ∧ SlA w' 1 encI (some ⟨b, 0, none⟩) [f.num, s.num, cw.den, n.den, e.den]
  | 12 => v = .int .u64 (1 * prodL [f.num, s.num, cw.den, n.den, e.den] % (m : Int))
  | 13 => v = .int .u64 m
  | 14 => v = .pointer (some ⟨B + 1 + 1, 0, none⟩)
  | 15 => v = .int .i64 cw.num
  | 16 => v = .pointer (some ⟨B, 1, none⟩)
  | 17 => v = .int .i64 f.den
  | 18 => v = .pointer (some ⟨B + 1, 1, none⟩)
  | 19 => v = .int .i64 s.den
  | 20 => v = .pointer (some ⟨B + 1 + 1 + 1, 1, none⟩)
  | 21 => v = .int .i64 n.den
  | 22 => v = .pointer (some ⟨B + 1 + 1 + 1 + 1, 1, none⟩)
  | 23 => v = .int .i64 e.den
  | 24 => ∃ b, v = .slice (some ⟨b, 0, none⟩) 5 5 ∧ SlA w' 1 encI (some ⟨b, 0, none⟩) [cw.num, f.den, s.den, n.den, e.den]
  | 25 => v = .int .u64 (1 * prodL [cw.num, f.den, s.den, n.den, e.den] % (m : Int))
  | 26 => v = .int .u64 m
  | 27 => v = .pointer (some ⟨B + 1 + 1 + 1, 0, none⟩)
  | 28 => v = .int .i64 n.num
  | 29 => v = .pointer (some ⟨B, 1, none⟩)
  | 30 => v = .int .i64 f.den
  | 31 => v = .pointer (some ⟨B + 1, 1, none⟩)
  | 32 => v = .int .i64 s.den
  | 33 => v = .pointer (some ⟨B + 1 + 1, 1, none⟩)
  | 34 => v = .int .i64 cw.den
  | 35 => v = .pointer (some ⟨B + 1 + 1 + 1 + 1, 1, none⟩)
  | 36 => v = .int .i64 e.den
  | 37 => ∃ b, v = .slice (some ⟨b, 0, none⟩) 5 5 ∧ SlA w' 1 encI (some ⟨b, 0, none⟩) [n.num, f.den, s.den, cw.den, e.den]
  | 38 => v = .int .u64 ((-1) * prodL [n.num, f.den, s.den, cw.den, e.den] % (m : Int))
  | 39 => v = .int .u64 m
  | 40 => v = .pointer (some ⟨B + 1 + 1 + 1 + 1, 0, none⟩)
  | 41 => v = .int .i64 e.num
  | 42 => v = .pointer (some ⟨B, 1, none⟩)
  | 43 => v = .int .i64 f.den
  | 44 => v = .pointer (some ⟨B + 1, 1, none⟩)
  | 45 => v = .int .i64 s.den
  | 46 => v = .pointer (some ⟨B + 1 + 1, 1, none⟩)
  | 47 => v = .int .i64 cw.den
  | 48 => v = .pointer (some ⟨B + 1 + 1 + 1, 1, none⟩)
  | 49 => v = .int .i64 n.den
  | 50 => ∃ b, v = .slice (some ⟨b, 0, none⟩) 5 5 ∧ SlA w' 1 encI (some ⟨b, 0, none⟩) [e.num, f.den, s.den, cw.den, n.den]
  | 51 => v = .int .u64 ((-1) * prodL [e.num, f.den, s.den, cw.den, n.den] % (m : Int))
  | 52 => ∃ b, v = .slice (some ⟨b, 0, none⟩) 4 4 ∧ b < w'.heap.size ∧ w'.cell? ⟨b, 0, none⟩ = some (.int .u64 (1 * prodL [f.num, s.num, cw.den, n.den, e.den] % (m : Int))) ∧ w'.cell? ⟨b, 1, none⟩ = some (.int .u64 (1 * prodL [cw.num, f.den, s.den, n.den, e.den] % (m : Int))) ∧ w'.cell? ⟨b, 2, none⟩ = some (.int .u64 ((-1) * prodL [n.num, f.den, s.den, cw.den, e.den] % (m : Int))) ∧ w'.cell? ⟨b, 3, none⟩ = some (.int .u64 ((-1) * prodL [e.num, f.den, s.den, cw.den, n.den] % (m : Int)))
  | 53 => v = .int .i64 4
  | 54 => v = .int .i64 0
  | _ => True

theorem balV_mono (m B : Nat) (f s cw n e : Frac) : ∀ j w w' v, balV m B f s cw n e j w v → Kept w w' → balV m B f s cw n e j w' v := by
  intro j w w' v h hk
  unfold balV at *
  split at h <;> first
    | exact h
    | (obtain ⟨b, h1, h2⟩ := h; exact ⟨b, h1, SlA.kept h2 hk⟩)
    | (obtain ⟨b, h1, h2, h3, h4, h5, h6⟩ := h; exact ⟨b, h1, Nat.lt_of_lt_of_le h2 hk.size, (hk.cell (p := ⟨b, 0, none⟩) h2).trans h3, (hk.cell (p := ⟨b, 1, none⟩) h2).trans h4, (hk.cell (p := ⟨b, 2, none⟩) h2).trans h5, (hk.cell (p := ⟨b, 3, none⟩) h2).trans h6⟩)

set_option maxHeartbeats 4000000 in
set_option maxRecDepth 100000 in
theorem balanced (m0 m1 m2 : Nat) (f s cw n e : Frac) (hf : fracOk f = true) (hs : fracOk s = true) (hwc : fracOk cw = true) (hn : fracOk n = true) (he : fracOk e = true) (w : World) (hM : Mods m0 m1 m2 w) :
    Calls Tryd.prog 33 #[.agg #[.int .i64 f.num, .int .i64 f.den], .agg #[.int .i64 s.num, .int .i64 s.den], .agg #[.int .i64 cw.num, .int .i64 cw.den], .agg #[.int .i64 n.num, .int .i64 n.den], .agg #[.int .i64 e.num, .int .i64 e.den]] w
      fun en w' => en = .returned (.bool (balB m0 f s cw n e && balB m1 f s cw n e && balB m2 f s cw n e)) ∧ Kept w w' := by
  obtain ⟨⟨a1, a2⟩, ⟨a3, a4⟩, ⟨a5, a6⟩, g1, g2, g3, g4⟩ := hM
  obtain ⟨f1, f2, f3, f4⟩ := frac_bounds hf
  obtain ⟨s1, s2, s3, s4⟩ := frac_bounds hs
  obtain ⟨c1, c2, c3, c4⟩ := frac_bounds hwc
  obtain ⟨n1, n2, n3, n4⟩ := frac_bounds hn
  obtain ⟨e1, e2, e3, e4⟩ := frac_bounds he
  go_enter Tryd.func33, Tryd.ntmps33
  go_wp2_with (fail)
  have HB : Boxes w.heap.size f s cw n e (((((w.alloc (.cells #[.int .i64 f.num, .int .i64 f.den] 79)).alloc (.cells #[.int .i64 s.num, .int .i64 s.den] 79)).alloc (.cells #[.int .i64 cw.num, .int .i64 cw.den] 79)).alloc (.cells #[.int .i64 n.num, .int .i64 n.den] 79)).alloc (.cells #[.int .i64 e.num, .int .i64 e.den] 79)) := by
    refine ⟨by simp, ⟨?_, ?_⟩, ⟨?_, ?_⟩, ⟨?_, ?_⟩, ⟨?_, ?_⟩, ⟨?_, ?_⟩⟩ <;> simp [go_sem]
  have HK : Kept w (((((w.alloc (.cells #[.int .i64 f.num, .int .i64 f.den] 79)).alloc (.cells #[.int .i64 s.num, .int .i64 s.den] 79)).alloc (.cells #[.int .i64 cw.num, .int .i64 cw.den] 79)).alloc (.cells #[.int .i64 n.num, .int .i64 n.den] 79)).alloc (.cells #[.int .i64 e.num, .int .i64 e.den] 79)) :=
    (((((Kept.refl w).alloc (Nat.le_refl _) _).alloc (by simp) _).alloc (by simp; omega) _).alloc (by simp; omega) _).alloc (by simp; omega) _
  generalize (((((w.alloc (.cells #[.int .i64 f.num, .int .i64 f.den] 79)).alloc (.cells #[.int .i64 s.num, .int .i64 s.den] 79)).alloc (.cells #[.int .i64 cw.num, .int .i64 cw.den] 79)).alloc (.cells #[.int .i64 n.num, .int .i64 n.den] 79)).alloc (.cells #[.int .i64 e.num, .int .i64 e.den] 79)) = w0 at HB HK ⊢
  go_loopg [12, 17] 3 (fun gg _ s17 wr => ∃ kk : Nat, kk ≤ 3 ∧ 3 - kk ≤ gg ∧ s17 = .int .i64 kk ∧ Aside (Kept w0 wr) ∧ Aside ((1 ≤ kk → balB m0 f s cw n e = true) ∧ (2 ≤ kk → balB m1 f s cw n e = true) ∧ (3 ≤ kk → balB m2 f s cw n e = true)))
  case atStart => exact ⟨0, by omega, by omega, rfl, Kept.refl w0, by omega, by omega, by omega⟩
  case round =>
    obtain ⟨kk, hkk, hg, rfl, BW, A⟩ := hrel
    by_cases hlt : kk < 3
    · obtain ⟨m, hm, hm1, hm2, hix⟩ : ∃ m : Nat, (m = if kk = 0 then m0 else if kk = 1 then m1 else m2) ∧ 1 < m ∧ m < 4611686018427387904 ∧ (∀ W, (Instr.index 120 (.agg #[.int .u64 m0, .int .u64 m1, .int .u64 m2]) (.int .i64 kk)).run Tryd.prog W = .ok (.int .u64 m) W) := by
        match kk, hlt with
        | 0, _ => exact ⟨m0, rfl, a1, a2, fun W => by kernel_rfl⟩
        | 1, _ => exact ⟨m1, rfl, a3, a4, fun W => by kernel_rfl⟩
        | 2, _ => exact ⟨m2, rfl, a5, a6, fun W => by kernel_rfl⟩
      have HBr := Lib.hid (HB.kept BW.out)
      have HM := Lib.hid hm
      clear hm
      go_upto_region 5 with (fail)
      generalize w.heap.size = B0 at *
      go_cut [72, 73, 74] (fun s72 s73 s74 wx => ∃ b, s72 = .slice (some ⟨b, 0, none⟩) 4 4 ∧ s73 = .int .i64 4 ∧ s74 = .int .i64 0 ∧ Aside (Kept wr wx) ∧ b < wx.heap.size ∧ wx.cell? ⟨b, 0, none⟩ = some (.int .u64 (1 * prodL [f.num, s.num, cw.den, n.den, e.den] % (m : Int))) ∧ wx.cell? ⟨b, 1, none⟩ = some (.int .u64 (1 * prodL [cw.num, f.den, s.den, n.den, e.den] % (m : Int))) ∧
        wx.cell? ⟨b, 2, none⟩ = some (.int .u64 ((-1) * prodL [n.num, f.den, s.den, cw.den, e.den] % (m : Int))) ∧ wx.cell? ⟨b, 3, none⟩ = some (.int .u64 ((-1) * prodL [e.num, f.den, s.den, cw.den, n.den] % (m : Int))))
      case first =>
        have hBw : ∀ w, Kept { wr with drawn := wr.drawn + 1 } w → Boxes B0 f s cw n e w := fun w h => HBr.out.kept (Kept.trans (show Kept wr { wr with drawn := wr.drawn + 1 } from ⟨rfl, rfl, rfl, Nat.le_refl _, fun _ _ => rfl⟩) h)
        refine wp_region_rel (by kernel_rfl) (balV m B0 f s cw n e) (balV_mono _ _ _ _ _ _ _) (by kernel_rfl) (by kernel_rfl) ?_ ?_
        · simp only [stepsOK, List.toList_toArray, Nat.reduceAdd]
          refine ⟨?_, ?_, ?_, ?_, ?_, ?_, ?_, ?_, ?_, ?_, ?_, ?_, ?_, ?_, ?_, ?_, ?_, ?_, ?_, ?_, ?_, ?_, ?_, ?_, ?_, ?_, ?_, ?_, ?_, ?_, ?_, ?_, ?_, ?_, ?_, ?_, ?_, ?_, ?_, ?_, ?_, ?_, ?_, ?_, ?_, ?_, ?_, ?_, ?_, ?_, ?_, ?_, ?_, ?_, ?_, trivial⟩
          · exact step_val rfl fun a w hk hdep hbase => ⟨a.eval (.tmp 12), rfl, hbase 12 (by kernel_rfl)⟩
          · exact step_val rfl fun a w hk hdep hbase => ⟨_, by have h : a.tmps.getD 5 undef = _ := hbase 5 (by kernel_rfl); simp at h; simp [execOp, Act.eval, h, go_sem], rfl⟩
          · exact step_val rfl fun a w hk hdep hbase => ⟨_, by have h : a.tmps.getD 21 undef = .pointer (some ⟨B0, 0, none⟩) := (depAt hdep 1 (by kernel_rfl) _ _ rfl rfl); have hc := (hBw w hk).2.1.1; simp at h; simp [execOp, Act.eval, h, go_sem, hc], rfl⟩
          · exact step_val rfl fun a w hk hdep hbase => ⟨_, by have h : a.tmps.getD 6 undef = _ := hbase 6 (by kernel_rfl); simp at h; simp [execOp, Act.eval, h, go_sem], rfl⟩
          · exact step_val rfl fun a w hk hdep hbase => ⟨_, by have h : a.tmps.getD 23 undef = .pointer (some ⟨B0 + 1, 0, none⟩) := (depAt hdep 3 (by kernel_rfl) _ _ rfl rfl); have hc := (hBw w hk).2.2.1.1; simp at h; simp [execOp, Act.eval, h, go_sem, hc], rfl⟩
          · exact step_val rfl fun a w hk hdep hbase => ⟨_, by have h : a.tmps.getD 7 undef = _ := hbase 7 (by kernel_rfl); simp at h; simp [execOp, Act.eval, h, go_sem], rfl⟩
          · exact step_val rfl fun a w hk hdep hbase => ⟨_, by have h : a.tmps.getD 25 undef = .pointer (some ⟨B0 + 1 + 1, 1, none⟩) := (depAt hdep 5 (by kernel_rfl) _ _ rfl rfl); have hc := (hBw w hk).2.2.2.1.2; simp at h; simp [execOp, Act.eval, h, go_sem, hc], rfl⟩
          · exact step_val rfl fun a w hk hdep hbase => ⟨_, by have h : a.tmps.getD 8 undef = _ := hbase 8 (by kernel_rfl); simp at h; simp [execOp, Act.eval, h, go_sem], rfl⟩
          · exact step_val rfl fun a w hk hdep hbase => ⟨_, by have h : a.tmps.getD 27 undef = .pointer (some ⟨B0 + 1 + 1 + 1, 1, none⟩) := (depAt hdep 7 (by kernel_rfl) _ _ rfl rfl); have hc := (hBw w hk).2.2.2.2.1.2; simp at h; simp [execOp, Act.eval, h, go_sem, hc], rfl⟩
          · exact step_val rfl fun a w hk hdep hbase => ⟨_, by have h : a.tmps.getD 9 undef = _ := hbase 9 (by kernel_rfl); simp at h; simp [execOp, Act.eval, h, go_sem], rfl⟩
          · exact step_val rfl fun a w hk hdep hbase => ⟨_, by have h : a.tmps.getD 29 undef = .pointer (some ⟨B0 + 1 + 1 + 1 + 1, 1, none⟩) := (depAt hdep 9 (by kernel_rfl) _ _ rfl rfl); have hc := (hBw w hk).2.2.2.2.2.2; simp at h; simp [execOp, Act.eval, h, go_sem, hc], rfl⟩
          · exact step_new rfl fun a w hk hdep hbase => by
              have h0 : a.tmps.getD 22 undef = .int .i64 f.num := (depAt hdep 2 (by kernel_rfl) _ _ rfl rfl); have h1 : a.tmps.getD 24 undef = .int .i64 s.num := (depAt hdep 4 (by kernel_rfl) _ _ rfl rfl); have h2 : a.tmps.getD 26 undef = .int .i64 cw.den := (depAt hdep 6 (by kernel_rfl) _ _ rfl rfl); have h3 : a.tmps.getD 28 undef = .int .i64 n.den := (depAt hdep 8 (by kernel_rfl) _ _ rfl rfl); have h4 : a.tmps.getD 30 undef = .int .i64 e.den := (depAt hdep 10 (by kernel_rfl) _ _ rfl rfl)
              simp at h0 h1 h2 h3 h4
              exact ⟨_, _, by simp [execOp, Act.eval, h0, h1, h2, h3, h4, go_sem]; first | exact ⟨rfl, rfl⟩ | rfl, (Kept.refl w).alloc (Nat.le_refl _) _, w.heap.size, rfl, SlA.five w _ _ _ _ _ _⟩
          · exact step_call rfl fun a w hk hdep hbase => by
              have h0 : a.tmps.getD 20 undef = .int .u64 m := (depAt hdep 0 (by kernel_rfl) _ _ rfl rfl)
              obtain ⟨b, h1, hsl⟩ : ∃ b, a.tmps.getD 31 undef = .slice (some ⟨b, 0, none⟩) 5 5 ∧ SlA w 1 encI (some ⟨b, 0, none⟩) [f.num, s.num, cw.den, n.den, e.den] := (depAt hdep 11 (by kernel_rfl) _ _ rfl rfl)
              simp at h0 h1
              refine ⟨_, _, w, by simp [execOp, Act.eval, h0, h1, go_sem]; first | exact ⟨rfl, rfl⟩ | rfl, Kept.refl w, (product5 m 1 f.num s.num cw.den n.den e.den hm1 hm2 (by omega) (by simp; omega) _ _ _ hsl).mono ?_⟩
              rintro en w' ⟨rfl, hk'⟩
              exact ⟨_, rfl, hk', rfl⟩
          · exact step_val rfl fun a w hk hdep hbase => ⟨a.eval (.tmp 12), rfl, hbase 12 (by kernel_rfl)⟩
          · exact step_val rfl fun a w hk hdep hbase => ⟨_, by have h : a.tmps.getD 7 undef = _ := hbase 7 (by kernel_rfl); simp at h; simp [execOp, Act.eval, h, go_sem], rfl⟩
          · exact step_val rfl fun a w hk hdep hbase => ⟨_, by have h : a.tmps.getD 34 undef = .pointer (some ⟨B0 + 1 + 1, 0, none⟩) := (depAt hdep 14 (by kernel_rfl) _ _ rfl rfl); have hc := (hBw w hk).2.2.2.1.1; simp at h; simp [execOp, Act.eval, h, go_sem, hc], rfl⟩
          · exact step_val rfl fun a w hk hdep hbase => ⟨_, by have h : a.tmps.getD 5 undef = _ := hbase 5 (by kernel_rfl); simp at h; simp [execOp, Act.eval, h, go_sem], rfl⟩
          · exact step_val rfl fun a w hk hdep hbase => ⟨_, by have h : a.tmps.getD 36 undef = .pointer (some ⟨B0, 1, none⟩) := (depAt hdep 16 (by kernel_rfl) _ _ rfl rfl); have hc := (hBw w hk).2.1.2; simp at h; simp [execOp, Act.eval, h, go_sem, hc], rfl⟩
          · exact step_val rfl fun a w hk hdep hbase => ⟨_, by have h : a.tmps.getD 6 undef = _ := hbase 6 (by kernel_rfl); simp at h; simp [execOp, Act.eval, h, go_sem], rfl⟩
          · exact step_val rfl fun a w hk hdep hbase => ⟨_, by have h : a.tmps.getD 38 undef = .pointer (some ⟨B0 + 1, 1, none⟩) := (depAt hdep 18 (by kernel_rfl) _ _ rfl rfl); have hc := (hBw w hk).2.2.1.2; simp at h; simp [execOp, Act.eval, h, go_sem, hc], rfl⟩
          · exact step_val rfl fun a w hk hdep hbase => ⟨_, by have h : a.tmps.getD 8 undef = _ := hbase 8 (by kernel_rfl); simp at h; simp [execOp, Act.eval, h, go_sem], rfl⟩
          · exact step_val rfl fun a w hk hdep hbase => ⟨_, by have h : a.tmps.getD 40 undef = .pointer (some ⟨B0 + 1 + 1 + 1, 1, none⟩) := (depAt hdep 20 (by kernel_rfl) _ _ rfl rfl); have hc := (hBw w hk).2.2.2.2.1.2; simp at h; simp [execOp, Act.eval, h, go_sem, hc], rfl⟩
          · exact step_val rfl fun a w hk hdep hbase => ⟨_, by have h : a.tmps.getD 9 undef = _ := hbase 9 (by kernel_rfl); simp at h; simp [execOp, Act.eval, h, go_sem], rfl⟩
          · exact step_val rfl fun a w hk hdep hbase => ⟨_, by have h : a.tmps.getD 42 undef = .pointer (some ⟨B0 + 1 + 1 + 1 + 1, 1, none⟩) := (depAt hdep 22 (by kernel_rfl) _ _ rfl rfl); have hc := (hBw w hk).2.2.2.2.2.2; simp at h; simp [execOp, Act.eval, h, go_sem, hc], rfl⟩
          · exact step_new rfl fun a w hk hdep hbase => by
              have h0 : a.tmps.getD 35 undef = .int .i64 cw.num := (depAt hdep 15 (by kernel_rfl) _ _ rfl rfl); have h1 : a.tmps.getD 37 undef = .int .i64 f.den := (depAt hdep 17 (by kernel_rfl) _ _ rfl rfl); have h2 : a.tmps.getD 39 undef = .int .i64 s.den := (depAt hdep 19 (by kernel_rfl) _ _ rfl rfl); have h3 : a.tmps.getD 41 undef = .int .i64 n.den := (depAt hdep 21 (by kernel_rfl) _ _ rfl rfl); have h4 : a.tmps.getD 43 undef = .int .i64 e.den := (depAt hdep 23 (by kernel_rfl) _ _ rfl rfl)
              simp at h0 h1 h2 h3 h4
              exact ⟨_, _, by simp [execOp, Act.eval, h0, h1, h2, h3, h4, go_sem]; first | exact ⟨rfl, rfl⟩ | rfl, (Kept.refl w).alloc (Nat.le_refl _) _, w.heap.size, rfl, SlA.five w _ _ _ _ _ _⟩
          · exact step_call rfl fun a w hk hdep hbase => by
              have h0 : a.tmps.getD 33 undef = .int .u64 m := (depAt hdep 13 (by kernel_rfl) _ _ rfl rfl)
              obtain ⟨b, h1, hsl⟩ : ∃ b, a.tmps.getD 44 undef = .slice (some ⟨b, 0, none⟩) 5 5 ∧ SlA w 1 encI (some ⟨b, 0, none⟩) [cw.num, f.den, s.den, n.den, e.den] := (depAt hdep 24 (by kernel_rfl) _ _ rfl rfl)
              simp at h0 h1
              refine ⟨_, _, w, by simp [execOp, Act.eval, h0, h1, go_sem]; first | exact ⟨rfl, rfl⟩ | rfl, Kept.refl w, (product5 m 1 cw.num f.den s.den n.den e.den hm1 hm2 (by omega) (by simp; omega) _ _ _ hsl).mono ?_⟩
              rintro en w' ⟨rfl, hk'⟩
              exact ⟨_, rfl, hk', rfl⟩
          · exact step_val rfl fun a w hk hdep hbase => ⟨a.eval (.tmp 12), rfl, hbase 12 (by kernel_rfl)⟩
          · exact step_val rfl fun a w hk hdep hbase => ⟨_, by have h : a.tmps.getD 8 undef = _ := hbase 8 (by kernel_rfl); simp at h; simp [execOp, Act.eval, h, go_sem], rfl⟩
          · exact step_val rfl fun a w hk hdep hbase => ⟨_, by have h : a.tmps.getD 47 undef = .pointer (some ⟨B0 + 1 + 1 + 1, 0, none⟩) := (depAt hdep 27 (by kernel_rfl) _ _ rfl rfl); have hc := (hBw w hk).2.2.2.2.1.1; simp at h; simp [execOp, Act.eval, h, go_sem, hc], rfl⟩
          · exact step_val rfl fun a w hk hdep hbase => ⟨_, by have h : a.tmps.getD 5 undef = _ := hbase 5 (by kernel_rfl); simp at h; simp [execOp, Act.eval, h, go_sem], rfl⟩
          · exact step_val rfl fun a w hk hdep hbase => ⟨_, by have h : a.tmps.getD 49 undef = .pointer (some ⟨B0, 1, none⟩) := (depAt hdep 29 (by kernel_rfl) _ _ rfl rfl); have hc := (hBw w hk).2.1.2; simp at h; simp [execOp, Act.eval, h, go_sem, hc], rfl⟩
          · exact step_val rfl fun a w hk hdep hbase => ⟨_, by have h : a.tmps.getD 6 undef = _ := hbase 6 (by kernel_rfl); simp at h; simp [execOp, Act.eval, h, go_sem], rfl⟩
          · exact step_val rfl fun a w hk hdep hbase => ⟨_, by have h : a.tmps.getD 51 undef = .pointer (some ⟨B0 + 1, 1, none⟩) := (depAt hdep 31 (by kernel_rfl) _ _ rfl rfl); have hc := (hBw w hk).2.2.1.2; simp at h; simp [execOp, Act.eval, h, go_sem, hc], rfl⟩
          · exact step_val rfl fun a w hk hdep hbase => ⟨_, by have h : a.tmps.getD 7 undef = _ := hbase 7 (by kernel_rfl); simp at h; simp [execOp, Act.eval, h, go_sem], rfl⟩
          · exact step_val rfl fun a w hk hdep hbase => ⟨_, by have h : a.tmps.getD 53 undef = .pointer (some ⟨B0 + 1 + 1, 1, none⟩) := (depAt hdep 33 (by kernel_rfl) _ _ rfl rfl); have hc := (hBw w hk).2.2.2.1.2; simp at h; simp [execOp, Act.eval, h, go_sem, hc], rfl⟩
          · exact step_val rfl fun a w hk hdep hbase => ⟨_, by have h : a.tmps.getD 9 undef = _ := hbase 9 (by kernel_rfl); simp at h; simp [execOp, Act.eval, h, go_sem], rfl⟩
          · exact step_val rfl fun a w hk hdep hbase => ⟨_, by have h : a.tmps.getD 55 undef = .pointer (some ⟨B0 + 1 + 1 + 1 + 1, 1, none⟩) := (depAt hdep 35 (by kernel_rfl) _ _ rfl rfl); have hc := (hBw w hk).2.2.2.2.2.2; simp at h; simp [execOp, Act.eval, h, go_sem, hc], rfl⟩
          · exact step_new rfl fun a w hk hdep hbase => by
              have h0 : a.tmps.getD 48 undef = .int .i64 n.num := (depAt hdep 28 (by kernel_rfl) _ _ rfl rfl); have h1 : a.tmps.getD 50 undef = .int .i64 f.den := (depAt hdep 30 (by kernel_rfl) _ _ rfl rfl); have h2 : a.tmps.getD 52 undef = .int .i64 s.den := (depAt hdep 32 (by kernel_rfl) _ _ rfl rfl); have h3 : a.tmps.getD 54 undef = .int .i64 cw.den := (depAt hdep 34 (by kernel_rfl) _ _ rfl rfl); have h4 : a.tmps.getD 56 undef = .int .i64 e.den := (depAt hdep 36 (by kernel_rfl) _ _ rfl rfl)
              simp at h0 h1 h2 h3 h4
              exact ⟨_, _, by simp [execOp, Act.eval, h0, h1, h2, h3, h4, go_sem]; first | exact ⟨rfl, rfl⟩ | rfl, (Kept.refl w).alloc (Nat.le_refl _) _, w.heap.size, rfl, SlA.five w _ _ _ _ _ _⟩
          · exact step_call rfl fun a w hk hdep hbase => by
              have h0 : a.tmps.getD 46 undef = .int .u64 m := (depAt hdep 26 (by kernel_rfl) _ _ rfl rfl)
              obtain ⟨b, h1, hsl⟩ : ∃ b, a.tmps.getD 57 undef = .slice (some ⟨b, 0, none⟩) 5 5 ∧ SlA w 1 encI (some ⟨b, 0, none⟩) [n.num, f.den, s.den, cw.den, e.den] := (depAt hdep 37 (by kernel_rfl) _ _ rfl rfl)
              simp at h0 h1
              refine ⟨_, _, w, by simp [execOp, Act.eval, h0, h1, go_sem]; first | exact ⟨rfl, rfl⟩ | rfl, Kept.refl w, (product5 m (-1) n.num f.den s.den cw.den e.den hm1 hm2 (by omega) (by simp; omega) _ _ _ hsl).mono ?_⟩
              rintro en w' ⟨rfl, hk'⟩
              exact ⟨_, rfl, hk', rfl⟩
          · exact step_val rfl fun a w hk hdep hbase => ⟨a.eval (.tmp 12), rfl, hbase 12 (by kernel_rfl)⟩
          · exact step_val rfl fun a w hk hdep hbase => ⟨_, by have h : a.tmps.getD 9 undef = _ := hbase 9 (by kernel_rfl); simp at h; simp [execOp, Act.eval, h, go_sem], rfl⟩
          · exact step_val rfl fun a w hk hdep hbase => ⟨_, by have h : a.tmps.getD 60 undef = .pointer (some ⟨B0 + 1 + 1 + 1 + 1, 0, none⟩) := (depAt hdep 40 (by kernel_rfl) _ _ rfl rfl); have hc := (hBw w hk).2.2.2.2.2.1; simp at h; simp [execOp, Act.eval, h, go_sem, hc], rfl⟩
          · exact step_val rfl fun a w hk hdep hbase => ⟨_, by have h : a.tmps.getD 5 undef = _ := hbase 5 (by kernel_rfl); simp at h; simp [execOp, Act.eval, h, go_sem], rfl⟩
          · exact step_val rfl fun a w hk hdep hbase => ⟨_, by have h : a.tmps.getD 62 undef = .pointer (some ⟨B0, 1, none⟩) := (depAt hdep 42 (by kernel_rfl) _ _ rfl rfl); have hc := (hBw w hk).2.1.2; simp at h; simp [execOp, Act.eval, h, go_sem, hc], rfl⟩
          · exact step_val rfl fun a w hk hdep hbase => ⟨_, by have h : a.tmps.getD 6 undef = _ := hbase 6 (by kernel_rfl); simp at h; simp [execOp, Act.eval, h, go_sem], rfl⟩
          · exact step_val rfl fun a w hk hdep hbase => ⟨_, by have h : a.tmps.getD 64 undef = .pointer (some ⟨B0 + 1, 1, none⟩) := (depAt hdep 44 (by kernel_rfl) _ _ rfl rfl); have hc := (hBw w hk).2.2.1.2; simp at h; simp [execOp, Act.eval, h, go_sem, hc], rfl⟩
          · exact step_val rfl fun a w hk hdep hbase => ⟨_, by have h : a.tmps.getD 7 undef = _ := hbase 7 (by kernel_rfl); simp at h; simp [execOp, Act.eval, h, go_sem], rfl⟩
          · exact step_val rfl fun a w hk hdep hbase => ⟨_, by have h : a.tmps.getD 66 undef = .pointer (some ⟨B0 + 1 + 1, 1, none⟩) := (depAt hdep 46 (by kernel_rfl) _ _ rfl rfl); have hc := (hBw w hk).2.2.2.1.2; simp at h; simp [execOp, Act.eval, h, go_sem, hc], rfl⟩
          · exact step_val rfl fun a w hk hdep hbase => ⟨_, by have h : a.tmps.getD 8 undef = _ := hbase 8 (by kernel_rfl); simp at h; simp [execOp, Act.eval, h, go_sem], rfl⟩
          · exact step_val rfl fun a w hk hdep hbase => ⟨_, by have h : a.tmps.getD 68 undef = .pointer (some ⟨B0 + 1 + 1 + 1, 1, none⟩) := (depAt hdep 48 (by kernel_rfl) _ _ rfl rfl); have hc := (hBw w hk).2.2.2.2.1.2; simp at h; simp [execOp, Act.eval, h, go_sem, hc], rfl⟩
          · exact step_new rfl fun a w hk hdep hbase => by
              have h0 : a.tmps.getD 61 undef = .int .i64 e.num := (depAt hdep 41 (by kernel_rfl) _ _ rfl rfl); have h1 : a.tmps.getD 63 undef = .int .i64 f.den := (depAt hdep 43 (by kernel_rfl) _ _ rfl rfl); have h2 : a.tmps.getD 65 undef = .int .i64 s.den := (depAt hdep 45 (by kernel_rfl) _ _ rfl rfl); have h3 : a.tmps.getD 67 undef = .int .i64 cw.den := (depAt hdep 47 (by kernel_rfl) _ _ rfl rfl); have h4 : a.tmps.getD 69 undef = .int .i64 n.den := (depAt hdep 49 (by kernel_rfl) _ _ rfl rfl)
              simp at h0 h1 h2 h3 h4
              exact ⟨_, _, by simp [execOp, Act.eval, h0, h1, h2, h3, h4, go_sem]; first | exact ⟨rfl, rfl⟩ | rfl, (Kept.refl w).alloc (Nat.le_refl _) _, w.heap.size, rfl, SlA.five w _ _ _ _ _ _⟩
          · exact step_call rfl fun a w hk hdep hbase => by
              have h0 : a.tmps.getD 59 undef = .int .u64 m := (depAt hdep 39 (by kernel_rfl) _ _ rfl rfl)
              obtain ⟨b, h1, hsl⟩ : ∃ b, a.tmps.getD 70 undef = .slice (some ⟨b, 0, none⟩) 5 5 ∧ SlA w 1 encI (some ⟨b, 0, none⟩) [e.num, f.den, s.den, cw.den, n.den] := (depAt hdep 50 (by kernel_rfl) _ _ rfl rfl)
              simp at h0 h1
              refine ⟨_, _, w, by simp [execOp, Act.eval, h0, h1, go_sem]; first | exact ⟨rfl, rfl⟩ | rfl, Kept.refl w, (product5 m (-1) e.num f.den s.den cw.den n.den hm1 hm2 (by omega) (by simp; omega) _ _ _ hsl).mono ?_⟩
              rintro en w' ⟨rfl, hk'⟩
              exact ⟨_, rfl, hk', rfl⟩
          · exact step_new rfl fun a w hk hdep hbase => by
              have h0 : a.tmps.getD 32 undef = .int .u64 (1 * prodL [f.num, s.num, cw.den, n.den, e.den] % (m : Int)) := (depAt hdep 12 (by kernel_rfl) _ _ rfl rfl); have h1 : a.tmps.getD 45 undef = .int .u64 (1 * prodL [cw.num, f.den, s.den, n.den, e.den] % (m : Int)) := (depAt hdep 25 (by kernel_rfl) _ _ rfl rfl); have h2 : a.tmps.getD 58 undef = .int .u64 ((-1) * prodL [n.num, f.den, s.den, cw.den, e.den] % (m : Int)) := (depAt hdep 38 (by kernel_rfl) _ _ rfl rfl); have h3 : a.tmps.getD 71 undef = .int .u64 ((-1) * prodL [e.num, f.den, s.den, cw.den, n.den] % (m : Int)) := (depAt hdep 51 (by kernel_rfl) _ _ rfl rfl)
              simp only [balV]
              generalize ((1 * prodL [f.num, s.num, cw.den, n.den, e.den] % (m : Int))) = r0 at h0 ⊢; generalize ((1 * prodL [cw.num, f.den, s.den, n.den, e.den] % (m : Int))) = r1 at h1 ⊢; generalize (((-1) * prodL [n.num, f.den, s.den, cw.den, e.den] % (m : Int))) = r2 at h2 ⊢; generalize (((-1) * prodL [e.num, f.den, s.den, cw.den, n.den] % (m : Int))) = r3 at h3 ⊢
              simp at h0 h1 h2 h3
              exact ⟨_, _, by simp [execOp, Act.eval, h0, h1, h2, h3, go_sem]; first | exact ⟨rfl, rfl⟩ | rfl, (Kept.refl w).alloc (Nat.le_refl _) _, w.heap.size, rfl, by simp, by simp, by simp, by simp, by simp⟩
          · exact step_val rfl fun a w hk hdep hbase => by
              obtain ⟨b, h1, _⟩ := (depAt hdep 52 (by kernel_rfl) _ _ rfl rfl)
              simp at h1
              exact ⟨_, by simp [execOp, Act.eval, h1, go_sem], rfl⟩
          · exact step_val rfl fun a w hk hdep hbase => ⟨_, rfl, rfl⟩
        · -- END
          intro tmps w' hk hsz hv hr
          have e : tmps = #[tmps[0]?.getD undef, tmps[1]?.getD undef, tmps[2]?.getD undef, tmps[3]?.getD undef, tmps[4]?.getD undef, tmps[5]?.getD undef, tmps[6]?.getD undef, tmps[7]?.getD undef, tmps[8]?.getD undef, tmps[9]?.getD undef, tmps[10]?.getD undef, tmps[11]?.getD undef, tmps[12]?.getD undef, tmps[13]?.getD undef, tmps[14]?.getD undef, tmps[15]?.getD undef, tmps[16]?.getD undef, tmps[17]?.getD undef, tmps[18]?.getD undef, tmps[19]?.getD undef, tmps[20]?.getD undef, tmps[21]?.getD undef, tmps[22]?.getD undef, tmps[23]?.getD undef, tmps[24]?.getD undef, tmps[25]?.getD undef, tmps[26]?.getD undef, tmps[27]?.getD undef, tmps[28]?.getD undef, tmps[29]?.getD undef, tmps[30]?.getD undef, tmps[31]?.getD undef, tmps[32]?.getD undef, tmps[33]?.getD undef, tmps[34]?.getD undef, tmps[35]?.getD undef, tmps[36]?.getD undef, tmps[37]?.getD undef, tmps[38]?.getD undef, tmps[39]?.getD undef, tmps[40]?.getD undef, tmps[41]?.getD undef, tmps[42]?.getD undef, tmps[43]?.getD undef, tmps[44]?.getD undef, tmps[45]?.getD undef, tmps[46]?.getD undef, tmps[47]?.getD undef, tmps[48]?.getD undef, tmps[49]?.getD undef, tmps[50]?.getD undef, tmps[51]?.getD undef, tmps[52]?.getD undef, tmps[53]?.getD undef, tmps[54]?.getD undef, tmps[55]?.getD undef, tmps[56]?.getD undef, tmps[57]?.getD undef, tmps[58]?.getD undef, tmps[59]?.getD undef, tmps[60]?.getD undef, tmps[61]?.getD undef, tmps[62]?.getD undef, tmps[63]?.getD undef, tmps[64]?.getD undef, tmps[65]?.getD undef, tmps[66]?.getD undef, tmps[67]?.getD undef, tmps[68]?.getD undef, tmps[69]?.getD undef, tmps[70]?.getD undef, tmps[71]?.getD undef, tmps[72]?.getD undef, tmps[73]?.getD undef, tmps[74]?.getD undef, tmps[75]?.getD undef, tmps[76]?.getD undef, tmps[77]?.getD undef, tmps[78]?.getD undef, tmps[79]?.getD undef, tmps[80]?.getD undef, tmps[81]?.getD undef, tmps[82]?.getD undef, tmps[83]?.getD undef, tmps[84]?.getD undef, tmps[85]?.getD undef, tmps[86]?.getD undef] := arr_range tmps 87 hsz
          have r0 := hr 0 (by kernel_rfl)
          have r1 := hr 1 (by kernel_rfl)
          have r2 := hr 2 (by kernel_rfl)
          have r3 := hr 3 (by kernel_rfl)
          have r4 := hr 4 (by kernel_rfl)
          have r5 := hr 5 (by kernel_rfl)
          have r6 := hr 6 (by kernel_rfl)
          have r7 := hr 7 (by kernel_rfl)
          have r8 := hr 8 (by kernel_rfl)
          have r9 := hr 9 (by kernel_rfl)
          have r10 := hr 10 (by kernel_rfl)
          have r11 := hr 11 (by kernel_rfl)
          have r12 := hr 12 (by kernel_rfl)
          have r13 := hr 13 (by kernel_rfl)
          have r14 := hr 14 (by kernel_rfl)
          have r15 := hr 15 (by kernel_rfl)
          have r16 := hr 16 (by kernel_rfl)
          have r17 := hr 17 (by kernel_rfl)
          have r18 := hr 18 (by kernel_rfl)
          have r19 := hr 19 (by kernel_rfl)
          have r75 := hr 75 (by kernel_rfl)
          have r76 := hr 76 (by kernel_rfl)
          have r77 := hr 77 (by kernel_rfl)
          have r78 := hr 78 (by kernel_rfl)
          have r79 := hr 79 (by kernel_rfl)
          have r80 := hr 80 (by kernel_rfl)
          have r81 := hr 81 (by kernel_rfl)
          have r82 := hr 82 (by kernel_rfl)
          have r83 := hr 83 (by kernel_rfl)
          have r84 := hr 84 (by kernel_rfl)
          have r85 := hr 85 (by kernel_rfl)
          have r86 := hr 86 (by kernel_rfl)
          simp at r0 r1 r2 r3 r4 r5 r6 r7 r8 r9 r10 r11 r12 r13 r14 r15 r16 r17 r18 r19 r75 r76 r77 r78 r79 r80 r81 r82 r83 r84 r85 r86
          have v72 := hv 52 _ _ rfl rfl
          have v73 := hv 53 _ _ rfl rfl
          have v74 := hv 54 _ _ rfl rfl
          obtain ⟨b, v72, q0, q1, q2, q3, q4⟩ := v72
          simp only [balV] at v73 v74
          rw [e]
          simp only [v72, v73, v74, r0, r1, r2, r3, r4, r5, r6, r7, r8, r9, r10, r11, r12, r13, r14, r15, r16, r17, r18, r19, r75, r76, r77, r78, r79, r80, r81, r82, r83, r84, r85, r86]
          clear hv hr e
          go_wp2_with (fail)
          go_meet
          exact ⟨b, rfl, rfl, rfl, hk, q0, q1, q2, q3, q4⟩
      case rest =>
        obtain ⟨b, rfl, rfl, rfl, hk, q0, q1, q2, q3, q4⟩ := hcut
        have hcells : Hid (∀ k (h : k < (termsOf f s cw n e).length), wc.cell? ⟨b, k, none⟩ = some (.int .u64 ((termsOf f s cw n e)[k] % (m : Int)))) := by
          intro k h
          match k, h with
          | 0, _ => exact q1
          | 1, _ => exact q2
          | 2, _ => exact q3
          | 3, _ => exact q4
        have hlen4 : (termsOf f s cw n e).length = 4 := rfl
        have hfour := Lib.hid (sumTo_four f s cw n e)
        clear q1 q2 q3 q4
        generalize termsOf f s cw n e = ts at hcells hlen4 hfour
        have hmz : ((m : Int) == 0) = false := by simp; omega
        have HL4 := Lib.hid hlen4
        clear hlen4
        go_wp2_with (fail)
        go_loopg [13, 74] 4 (fun gg s13 s74 wl => ∃ k : Nat, ∃ sm : Int, k ≤ 4 ∧ 4 - k ≤ gg ∧ s74 = .int .i64 k ∧ s13 = .int .u64 sm ∧ 0 ≤ sm ∧ sm < (m : Int) ∧ Aside (wc = wl) ∧ Aside (sm = sumTo ts k % (m : Int)))
        case atStart => exact ⟨0, 0, by omega, by omega, rfl, rfl, by omega, by omega, (rfl : wc = wc), (show (0 : Int) = _ by simp [sumTo])⟩
        case round =>
          obtain ⟨k, sm, hk4, hkg, rfl, rfl, hs0, hs1, rfl, hsm⟩ := hrel
          by_cases hk5 : k < 4
          · have hck := hcells.out k (by rw [HL4.out]; exact hk5)
            have HN := Lib.hid (sumTo_next (l := ts) (k := k) (by rw [HL4.out]; exact hk5))
            generalize ts[k]'(by rw [HL4.out]; exact hk5) = tk at hck HN
            have t0 := Int.emod_nonneg tk (show (m : Int) ≠ 0 by omega)
            have t1 := Int.emod_lt_of_pos tk (show 0 < (m : Int) by omega)
            have HT : Hid (tk % (m : Int) = tk % (m : Int)) := rfl
            generalize hz : tk % (m : Int) = z at hck t0 t1
            have HZ := Lib.hid hz
            clear hz
            have y0 := Int.emod_nonneg (sm + z) (show (m : Int) ≠ 0 by omega)
            have y1 := Int.emod_lt_of_pos (sm + z) (show 0 < (m : Int) by omega)
            generalize hy : (sm + z) % (m : Int) = y at y0 y1
            have HY := Lib.hid hy
            go_wp2_with (fail)
            go_roundg (4 - (k + 1))
            case measure => omega
            case rel =>
              refine ⟨k + 1, y, by omega, by omega, by go_num, by first | rfl | rw [HY.out], y0, y1, (rfl : wc = wc), ?_⟩
              show y = _
              rw [HN.out, ← HY.out, ← HZ.out, show sm = _ from hsm.out, ← Int.add_emod]
          · obtain rfl : k = 4 := by omega
            have HS := Lib.hid hsm.out
            rw [hfour.out] at HS
            by_cases hz : sm = 0
            · subst hz
              go_wp2_with (fail)
              go_roundg (3 - (kk + 1))
              case measure => omega
              case rel =>
                exact ⟨kk + 1, by omega, by omega, by go_num, BW.out.trans hk.out, bal_next hlt HM.out HS.out.symm A.out⟩
            · have hz1 : (sm != 0) = true := by simpa using hz
              have hz2 : (sm == 0) = false := by simpa using hz
              go_wp2_with (fail)
              go_ret
              refine ⟨?_, HK.trans (BW.out.trans hk.out)⟩
              rw [bal_no hlt HM.out (by rw [← HS.out]; exact hz)]
              rfl
    · obtain rfl : kk = 3 := by omega
      go_wp2_with (fail)
      go_ret
      refine ⟨?_, HK.trans BW.out⟩
      rw [A.out.1 (by omega), A.out.2.1 (by omega), A.out.2.2 (by omega)]
      rfl
end Go.Proofs.YtlcbgcieedbggaaDoor
namespace Go.Proofs.YtlcbgcieedbggaaDoor
open Go Go.RowKit

def fr (l : List Frac) (i : Nat) : Frac := l[i]?.getD default
theorem fr_eq {l : List Frac} {i : Nat} (h : i < l.length) : l[i] = fr l i := by simp [fr, h]
theorem fr_ok {l : List Frac} {i : Nat} (h : i < l.length) (hl : l.all fracOk = true) : fracOk (fr l i) = true := by
  rw [← fr_eq h]; exact List.all_eq_true.1 hl _ (List.getElem_mem h)
theorem SlA.fracAt {w : World} {a : Option Addr} {xs : List Frac} (h : SlA w 2 encF a xs) {j : Nat} (hj : j < xs.length) :
    ∃ b off, a = some ⟨b, off, none⟩ ∧ b < w.heap.size ∧ w.cell? ⟨b, off + j * 2, none⟩ = some (.int .i64 (fr xs j).num) ∧ w.cell? ⟨b, off + j * 2 + 1, none⟩ = some (.int .i64 (fr xs j).den) := by
  rw [← fr_eq hj]; exact h.frac hj

/-- Where the two captured variables lie: the set's slice in block Bs, the weights in block Bw. -/
structure Caps (w : World) (Bs Bw : Nat) (ts : List Tile) (W : Wt) (a : Option Addr) (cap : Nat) (a0 a1 a2 a3 a4 : Option Addr) (c0 c1 c2 c3 c4 : Nat) : Prop where
  ls : Bs < w.heap.size
  lw : Bw < w.heap.size
  s : w.cell? ⟨Bs, 0, none⟩ = some (.slice a ts.length cap)
  w0 : w.cell? ⟨Bw, 0, none⟩ = some (.slice a0 W.values.length c0)
  w1 : w.cell? ⟨Bw, 1, none⟩ = some (.slice a1 W.carries.length c1)
  w2 : w.cell? ⟨Bw, 2, none⟩ = some (.slice a2 W.factors.length c2)
  w3 : w.cell? ⟨Bw, 3, none⟩ = some (.slice a3 W.primes.length c3)
  w4 : w.cell? ⟨Bw, 4, none⟩ = some (.slice a4 W.logs.length c4)
  ts' : SlA w 4 encT a ts
  W' : WIs w a0 a1 a2 a3 a4 W
theorem Caps.kept {w w' : World} {Bs Bw : Nat} {ts : List Tile} {W : Wt} {a : Option Addr} {cap : Nat} {a0 a1 a2 a3 a4 : Option Addr} {c0 c1 c2 c3 c4 : Nat} (h : Caps w Bs Bw ts W a cap a0 a1 a2 a3 a4 c0 c1 c2 c3 c4) (hk : Kept w w') : Caps w' Bs Bw ts W a cap a0 a1 a2 a3 a4 c0 c1 c2 c3 c4 :=
  ⟨Nat.lt_of_lt_of_le h.ls hk.size, Nat.lt_of_lt_of_le h.lw hk.size, (hk.cell (p := ⟨Bs, 0, none⟩) h.ls).trans h.s, (hk.cell (p := ⟨Bw, 0, none⟩) h.lw).trans h.w0, (hk.cell (p := ⟨Bw, 1, none⟩) h.lw).trans h.w1, (hk.cell (p := ⟨Bw, 2, none⟩) h.lw).trans h.w2,
    (hk.cell (p := ⟨Bw, 3, none⟩) h.lw).trans h.w3, (hk.cell (p := ⟨Bw, 4, none⟩) h.lw).trans h.w4, h.ts'.kept hk, h.W'.kept hk⟩

/-- What validity gives of tile i: each index lies within its list. -/
structure TileIn (t : Tile) (W : Wt) : Prop where
  n0 : 0 ≤ t.N
  n1 : t.N.toNat < W.values.length
  e0 : 0 ≤ t.E
  e1 : t.E.toNat < W.carries.length
  s0 : 0 ≤ t.S
  s1 : t.S.toNat < W.values.length
  w0 : 0 ≤ t.W
  w1 : t.W.toNat < W.carries.length

def balTile (m0 m1 m2 : Nat) (W : Wt) (i : Nat) (t : Tile) : Bool :=
  balB m0 (fr W.factors i) (fr W.values t.S.toNat) (fr W.carries t.W.toNat) (fr W.values t.N.toNat) (fr W.carries t.E.toNat) &&
  balB m1 (fr W.factors i) (fr W.values t.S.toNat) (fr W.carries t.W.toNat) (fr W.values t.N.toNat) (fr W.carries t.E.toNat) &&
  balB m2 (fr W.factors i) (fr W.values t.S.toNat) (fr W.carries t.W.toNat) (fr W.values t.N.toNat) (fr W.carries t.E.toNat)
def cond1 (m0 m1 m2 : Nat) (ts : List Tile) (W : Wt) : Bool := (List.range ts.length).all fun i => match ts[i]? with | some t => balTile m0 m1 m2 W i t | none => true
theorem cond1_no {m0 m1 m2 : Nat} {ts : List Tile} {W : Wt} {k : Nat} (h : k < ts.length) (hb : balTile m0 m1 m2 W k ts[k] = false) : cond1 m0 m1 m2 ts W = false := by
  rw [cond1, List.all_eq_false]
  exact ⟨k, by simpa using h, by simp [h, hb]⟩
theorem cond1_yes {m0 m1 m2 : Nat} {ts : List Tile} {W : Wt} (hb : ∀ k (h : k < ts.length), balTile m0 m1 m2 W k ts[k] = true) : cond1 m0 m1 m2 ts W = true := by
  rw [cond1, List.all_eq_true]
  intro k hk
  have hk : k < ts.length := by simpa using hk
  simp [hk, hb k hk]

theorem balanced_b (m0 m1 m2 : Nat) (f s cw n e : Frac) (b : Bool) (hb : (balB m0 f s cw n e && balB m1 f s cw n e && balB m2 f s cw n e) = b) (hf : fracOk f = true) (hs : fracOk s = true) (hwc : fracOk cw = true) (hn : fracOk n = true) (he : fracOk e = true) (w : World) (hM : Mods m0 m1 m2 w) :
    Calls Tryd.prog 33 #[.agg #[.int .i64 f.num, .int .i64 f.den], .agg #[.int .i64 s.num, .int .i64 s.den], .agg #[.int .i64 cw.num, .int .i64 cw.den], .agg #[.int .i64 n.num, .int .i64 n.den], .agg #[.int .i64 e.num, .int .i64 e.den]] w
      fun en w' => en = .returned (.bool b) ∧ Kept w w' := by
  subst hb; exact balanced m0 m1 m2 f s cw n e hf hs hwc hn he w hM

set_option maxHeartbeats 4000000 in
set_option maxRecDepth 100000 in
theorem check1 (m0 m1 m2 : Nat) (ts : List Tile) (W : Wt) (Bs Bw : Nat) (a : Option Addr) (cap : Nat) (a0 a1 a2 a3 a4 : Option Addr) (c0 c1 c2 c3 c4 : Nat) (w : World) (hC : Caps w Bs Bw ts W a cap a0 a1 a2 a3 a4 c0 c1 c2 c3 c4) (hM : Mods m0 m1 m2 w)
    (hin : ∀ t ∈ ts, TileIn t W) (hfl : W.factors.length = ts.length) (hv : W.values.all fracOk = true) (hc : W.carries.all fracOk = true) (hf : W.factors.all fracOk = true) :
    Calls Tryd.prog 32 #[.pointer (some ⟨Bs, 0, none⟩), .pointer (some ⟨Bw, 0, none⟩)] w fun e w' => e = .returned (.bool (cond1 m0 m1 m2 ts W)) ∧ Kept w w' := by
  have lt := hC.ts'.len
  have cs := hC.s
  go_enter Tryd.func32, Tryd.ntmps32
  go_wp2_with (fail)
  go_loopg [3, 4, 7] ts.length (fun gg _ _ s7 wr => ∃ kk : Nat, kk ≤ ts.length ∧ ts.length - kk ≤ gg ∧ s7 = .int .i64 kk ∧ Aside (Kept w wr) ∧ Aside (∀ k (h : k < ts.length), k < kk → balTile m0 m1 m2 W k ts[k] = true))
  case atStart => exact ⟨0, Nat.zero_le _, by omega, rfl, Kept.refl w, fun k _ h => absurd h (Nat.not_lt_zero _)⟩
  case round =>
    obtain ⟨kk, hkk, hg, rfl, BW, A⟩ := hrel
    by_cases hlt : kk < ts.length
    · have hCr := hC.kept BW.out
      have hTI := hin _ (List.getElem_mem hlt)
      obtain ⟨b, off, rfl, hb, p0, p1, p2, p3⟩ := hCr.ts'.tile hlt
      obtain ⟨b2, o2, rfl, hb2, f0, f1⟩ := hCr.W'.s2.fracAt (j := kk) (by omega)
      obtain ⟨b0, o0, rfl, hb0, v0, v1⟩ := hCr.W'.s0.fracAt hTI.s1
      obtain ⟨_, _, e1, _, v2, v3⟩ := hCr.W'.s0.fracAt hTI.n1
      cases e1
      obtain ⟨b1, o1, rfl, hb1, d0, d1⟩ := hCr.W'.s1.fracAt hTI.w1
      obtain ⟨_, _, e1, _, d2, d3⟩ := hCr.W'.s1.fracAt hTI.e1
      cases e1
      have k0 := fr_ok hTI.s1 hv
      have k1 := fr_ok hTI.n1 hv
      have k2 := fr_ok hTI.w1 hc
      have k3 := fr_ok hTI.e1 hc
      have k4 := fr_ok (l := W.factors) (i := kk) (by omega) hf
      have HB : Hid (balTile m0 m1 m2 W kk ts[kk] = balTile m0 m1 m2 W kk ts[kk]) := rfl
      obtain ⟨bb, HBB⟩ : ∃ bb, Hid (balTile m0 m1 m2 W kk ts[kk] = bb) := ⟨balTile m0 m1 m2 W kk ts[kk], (rfl : balTile m0 m1 m2 W kk ts[kk] = _)⟩
      obtain ⟨t, ht⟩ : ∃ t, ts[kk] = t := ⟨_, rfl⟩
      rw [ht] at p0 p1 p2 p3 v0 v1 v2 v3 d0 d1 d2 d3 k0 k1 k2 k3 hTI
      have HT := Lib.hid ht
      clear ht HB
      have HBT : Hid ((balB m0 (fr W.factors kk) (fr W.values t.S.toNat) (fr W.carries t.W.toNat) (fr W.values t.N.toNat) (fr W.carries t.E.toNat) && balB m1 (fr W.factors kk) (fr W.values t.S.toNat) (fr W.carries t.W.toNat) (fr W.values t.N.toNat) (fr W.carries t.E.toNat) &&
        balB m2 (fr W.factors kk) (fr W.values t.S.toNat) (fr W.carries t.W.toNat) (fr W.values t.N.toNat) (fr W.carries t.E.toNat)) = bb) := by have := HBB.out; rw [HT.out] at this; exact this
      generalize fr W.factors kk = F at *
      generalize fr W.values t.S.toNat = S at *
      generalize fr W.values t.N.toNat = N at *
      generalize fr W.carries t.W.toNat = C at *
      generalize fr W.carries t.E.toNat = E at *
      have q0 := hCr.w0
      have q1 := hCr.w1
      have q2 := hCr.w2
      have z1 := hTI.s0
      have z2 : t.S < (W.values.length : Int) := by have := hTI.s1; omega
      have z3 := hTI.n0
      have z4 : t.N < (W.values.length : Int) := by have := hTI.n1; omega
      have z5 := hTI.w0
      have z6 : t.W < (W.carries.length : Int) := by have := hTI.w1; omega
      have z7 := hTI.e0
      have z8 : t.E < (W.carries.length : Int) := by have := hTI.e1; omega
      have z9 : (kk : Int) < (W.factors.length : Int) := by omega
      go_upto_region 4 with (fail)
      have y0 : Bw < wr.heap.size + 1 := by have := hCr.lw; omega
      have y1 : b0 < wr.heap.size + 1 := by omega
      have y2 : b1 < wr.heap.size + 1 := by omega
      have y3 : b2 < wr.heap.size + 1 := by omega
      have hMt : Mods m0 m1 m2 (wr.alloc (.cells #[.int .i64 t.N, .int .i64 t.E, .int .i64 t.S, .int .i64 t.W] 44)) := (hM.kept BW.out).kept ((Kept.refl wr).alloc (Nat.le_refl _) _)
      have HMT := Lib.hid hMt
      clear hMt
      go_region_held3 (fun w' => w'.cell? ⟨wr.heap.size, 0, none⟩ = some (.int .i64 t.N) ∧ w'.cell? ⟨wr.heap.size, 1, none⟩ = some (.int .i64 t.E) ∧ w'.cell? ⟨wr.heap.size, 2, none⟩ = some (.int .i64 t.S) ∧ w'.cell? ⟨wr.heap.size, 3, none⟩ = some (.int .i64 t.W) ∧
          w'.cell? ⟨Bw, 0, none⟩ = some (.slice (some ⟨b0, o0, none⟩) W.values.length c0) ∧ w'.cell? ⟨Bw, 1, none⟩ = some (.slice (some ⟨b1, o1, none⟩) W.carries.length c1) ∧ w'.cell? ⟨Bw, 2, none⟩ = some (.slice (some ⟨b2, o2, none⟩) W.factors.length c2) ∧
          w'.cell? ⟨b2, o2 + kk * 2, none⟩ = some (.int .i64 F.num) ∧ w'.cell? ⟨b2, o2 + kk * 2 + 1, none⟩ = some (.int .i64 F.den) ∧ w'.cell? ⟨b0, o0 + t.S.toNat * 2, none⟩ = some (.int .i64 S.num) ∧ w'.cell? ⟨b0, o0 + t.S.toNat * 2 + 1, none⟩ = some (.int .i64 S.den) ∧
          w'.cell? ⟨b0, o0 + t.N.toNat * 2, none⟩ = some (.int .i64 N.num) ∧ w'.cell? ⟨b0, o0 + t.N.toNat * 2 + 1, none⟩ = some (.int .i64 N.den) ∧ w'.cell? ⟨b1, o1 + t.W.toNat * 2, none⟩ = some (.int .i64 C.num) ∧ w'.cell? ⟨b1, o1 + t.W.toNat * 2 + 1, none⟩ = some (.int .i64 C.den) ∧
          w'.cell? ⟨b1, o1 + t.E.toNat * 2, none⟩ = some (.int .i64 E.num) ∧ w'.cell? ⟨b1, o1 + t.E.toNat * 2 + 1, none⟩ = some (.int .i64 E.den))
        (go_keep)
        ((go_at_call 33; refine (balanced_b m0 m1 m2 F S C N E bb HBT.out k4 k0 k2 k1 k3 _ (HMT.out.kept (Kept.drewN _ 1))).mono ?_; rintro e w' ⟨rfl, hb'⟩; obtain ⟨hcc, hff⟩ := hb'.cells))
      have hk' : Kept wr w' := Kept.trans (((Kept.refl wr).alloc (Nat.le_refl _) _).drew) hb'
      clear hcc hff
      cases bb with
      | false =>
        go_wp2_with (fail)
        go_ret
        refine ⟨?_, BW.out.trans hk'⟩
        rw [cond1_no hlt HBB.out]
        rfl
      | true =>
        go_wp2_with (fail)
        go_roundg (ts.length - (kk + 1))
        case measure => omega
        case rel =>
          refine ⟨kk + 1, by omega, by omega, by go_num, BW.out.trans hk', (show ∀ k (h : k < ts.length), k < kk + 1 → balTile m0 m1 m2 W k ts[k] = true from fun k h hk => ?_)⟩
          by_cases e : k = kk
          · subst e; exact HBB.out
          · exact A.out k h (by omega)
    · obtain rfl : kk = ts.length := by omega
      have HF := Lib.hid (cond1_yes (fun k h => A.out k h h))
      go_wp2_with (fail)
      go_ret
      refine ⟨?_, BW.out⟩
      rw [HF.out]
      rfl
end Go.Proofs.YtlcbgcieedbggaaDoor
