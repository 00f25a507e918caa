/- Texts of this claim, one behind the other: Ta, Tb, Tc, Td, Te, Tf, Tg. -/
import Derived.Test.YtlcbgcieedbggaaDoorMn2
import Derived.Test.YtlcbgcieedbggaaDoorProg
import Derived.Test.YtlcbgcieedbggaaDoorMn3
import Derived.Test.YtlcbgcieedbggaaDoorMn10
set_option linter.unusedVariables false
set_option linter.unusedSimpArgs false
namespace Go.Proofs.YtlcbgcieedbggaaDoor
open Go Go.RowKit

def tileAt (ts : List Tile) (cells : List Int) (i : Nat) : Tile := ts[(cells[i]?.getD 0).toNat]?.getD default
/-- The pattern is a torus of the tiles. -/
def Torus (ts : List Tile) (pw ph : Int) (cells : List Int) : Prop :=
  ∃ P H : Nat, pw = P ∧ ph = H ∧ 0 < P ∧ 0 < H ∧ cells.length = P * H ∧ (∀ i, i < cells.length → 0 ≤ cells[i]?.getD 0 ∧ cells[i]?.getD 0 < ts.length) ∧
    ∀ y x : Nat, y < H → x < P → (tileAt ts cells (y * P + x)).E = (tileAt ts cells (y * P + (x + 1) % P)).W ∧ (tileAt ts cells (y * P + x)).N = (tileAt ts cells ((y + 1) % H * P + x)).S

set_option maxHeartbeats 8000000 in
set_option maxRecDepth 100000 in
theorem ofForm_no (ts : List Tile) (pw ph : Int) (cells : List Int) (a ac : Option Addr) (cap cc : Nat) (w : World) (hx : SlA w 4 encT a ts) (hc : SlA w 1 encI ac cells) (hw0 : -9223372036854775808 ≤ pw ∧ pw ≤ 9223372036854775807) (hh0 : -9223372036854775808 ≤ ph ∧ ph ≤ 9223372036854775807)
    (hno : ¬ (ts.length ≤ 1000 ∧ 1 ≤ pw ∧ 1 ≤ ph ∧ pw ≤ 40000 ∧ ph ≤ 40000 ∧ pw * ph ≤ 40000 ∧ (cells.length : Int) = pw * ph)) :
    Calls Tryd.prog 13 #[.slice a ts.length cap, .agg #[.int .i64 pw, .int .i64 ph, .slice ac cells.length cc], .bool true] w fun e w' => e = .returned (.bool false) ∧ Kept w w' := by
  have lt := hx.len
  have lc := hc.len
  obtain ⟨hw1, hw2⟩ := hw0
  obtain ⟨hh1, hh2⟩ := hh0
  have hk : ∀ o, Kept w (w.alloc o) := fun o => (Kept.refl w).alloc (Nat.le_refl _) o
  go_enter Tryd.func13, Tryd.ntmps13
  by_cases b1 : 1000 < ts.length
  · go_wp2_with (fail)
    go_ret
    exact ⟨rfl, hk _⟩
  · by_cases b2 : pw < 1
    · go_wp2_with (fail)
      go_ret
      exact ⟨rfl, hk _⟩
    · by_cases b3 : ph < 1
      · go_wp2_with (fail)
        go_ret
        exact ⟨rfl, hk _⟩
      · by_cases b4 : 40000 < pw
        · go_wp2_with (fail)
          go_ret
          exact ⟨rfl, hk _⟩
        · by_cases b5 : 40000 < ph
          · go_wp2_with (fail)
            go_ret
            exact ⟨rfl, hk _⟩
          · have m1 := Int.mul_le_mul (show pw ≤ 40000 by omega) (show ph ≤ 40000 by omega) (by omega) (by omega)
            have m0 := Int.mul_nonneg (show 0 ≤ pw by omega) (show 0 ≤ ph by omega)
            obtain ⟨M, hM⟩ : ∃ M, pw * ph = M := ⟨_, rfl⟩
            have HM := Lib.hid hM
            rw [hM] at m1 m0
            have hwr : IntKind.i64.wrap (pw * ph) = M := by rw [hM]; exact IntWalk.i64_in _ (by omega)
            clear hM
            by_cases b6 : 40000 < M
            · go_wp2_with (fail)
              go_ret
              exact ⟨rfl, hk _⟩
            · have b7 : ((cells.length : Int) != M) = true := by
                rw [bne_iff_ne]; intro e
                exact hno ⟨by omega, by omega, by omega, by omega, by omega, by rw [HM.out]; omega, by rw [HM.out]; exact e⟩
              clear hno
              go_wp2_with (fail)
              go_ret
              exact ⟨rfl, hk _⟩
end Go.Proofs.YtlcbgcieedbggaaDoor
namespace Go.Proofs.YtlcbgcieedbggaaDoor
open Go Go.RowKit

/-- Neighbours fit at column x of row y. -/
def FitAt (ts : List Tile) (cells : List Int) (P H y x : Nat) : Prop := (tileAt ts cells (y * P + x)).E = (tileAt ts cells (y * P + (x + 1) % P)).W ∧ (tileAt ts cells (y * P + x)).N = (tileAt ts cells ((y + 1) % H * P + x)).S
theorem idx_lt {P H y x : Nat} (hy : y < H) (hx : x < P) : y * P + x < P * H := by
  have h1 : (y + 1) * P ≤ H * P := Nat.mul_le_mul_right _ hy
  rw [Nat.add_mul, Nat.one_mul] at h1
  rw [Nat.mul_comm P H]; omega
/-- The tile at a place, as it lies. -/
theorem tile_at {w : World} {ts : List Tile} {cells : List Int} {bt ot bc oc i : Nat} (hx : SlA w 4 encT (some ⟨bt, ot, none⟩) ts) (hc : SlA w 1 encI (some ⟨bc, oc, none⟩) cells) (hi : i < cells.length)
    (hr : 0 ≤ cells[i]?.getD 0 ∧ cells[i]?.getD 0 < ts.length) : ∃ c : Int, 0 ≤ c ∧ c < ts.length ∧ w.cell? ⟨bc, oc + i, none⟩ = some (.int .i64 c) ∧
      w.cell? ⟨bt, ot + c.toNat * 4, none⟩ = some (.int .i64 (tileAt ts cells i).N) ∧ w.cell? ⟨bt, ot + c.toNat * 4 + 1, none⟩ = some (.int .i64 (tileAt ts cells i).E) ∧
      w.cell? ⟨bt, ot + c.toNat * 4 + 2, none⟩ = some (.int .i64 (tileAt ts cells i).S) ∧ w.cell? ⟨bt, ot + c.toNat * 4 + 3, none⟩ = some (.int .i64 (tileAt ts cells i).W) := by
  obtain ⟨_, _, e1, _, h1⟩ := hc.int hi
  cases e1
  have he : cells[i]?.getD 0 = cells[i] := by simp [hi]
  rw [he] at hr
  have hl : (cells[i]).toNat < ts.length := by omega
  obtain ⟨_, _, e2, _, t0, t1, t2, t3⟩ := hx.tile hl
  cases e2
  have ht : tileAt ts cells i = ts[(cells[i]).toNat] := by simp [tileAt, he, hl]
  rw [ht]
  exact ⟨_, hr.1, hr.2, h1, t0, t1, t2, t3⟩

/-- What of answers: where it is yes, the pattern is a torus. -/
def OfPost (ts : List Tile) (pw ph : Int) (cells : List Int) (w : World) (e : Ending) (w' : World) : Prop := ∃ b, e = .returned (.bool b) ∧ Kept w w' ∧ (b = true → Torus ts pw ph cells)
theorem OfPost.no {ts : List Tile} {pw ph : Int} {cells : List Int} {w : World} {e : Ending} {w' : World} (he : e = .returned (.bool false)) (hk : Kept w w') : OfPost ts pw ph cells w e w' := ⟨false, he, hk, fun h => by cases h⟩
theorem OfPost.yes {ts : List Tile} {pw ph : Int} {cells : List Int} {w : World} {e : Ending} {w' : World} (he : e = .returned (.bool true)) (hk : Kept w w') (ht : Torus ts pw ph cells) : OfPost ts pw ph cells w e w' := ⟨true, he, hk, fun _ => ht⟩

set_option maxHeartbeats 8000000 in
set_option maxRecDepth 100000 in
theorem ofForm_yes (ts : List Tile) (P H : Nat) (cells : List Int) (a ac : Option Addr) (cap cc : Nat) (w : World) (hx : SlA w 4 encT a ts) (hc : SlA w 1 encI ac cells) (hts : ts.length ≤ 1000) (hP : 0 < P) (hH : 0 < H) (hPl : P ≤ 40000) (hHl : H ≤ 40000) (hPH : P * H ≤ 40000) (hcl : cells.length = P * H) :
    Calls Tryd.prog 13 #[.slice a ts.length cap, .agg #[.int .i64 P, .int .i64 H, .slice ac cells.length cc], .bool true] w fun e w' => OfPost ts P H cells w e w' := by
  have hk : Hid (∀ o, Kept w (w.alloc o)) := fun o => (Kept.refl w).alloc (Nat.le_refl _) o
  have HCL := Lib.hid hcl
  have HPH := Lib.hid hPH
  have hwr : IntKind.i64.wrap ((P : Int) * (H : Int)) = (cells.length : Int) := by
    have : (P : Int) * (H : Int) = ((P * H : Nat) : Int) := by simp
    rw [this, ← hcl]; exact IntWalk.i64_in _ (by omega)
  have hm1 : ((P : Int) * (H : Int)) = (cells.length : Int) := by rw [hcl]; simp
  have hl4 : cells.length ≤ 40000 := by omega
  have HM1 := Lib.hid hm1
  clear hcl hPH hm1
  have g1 : ¬ 40000 < (cells.length : Int) := by omega
  have g2 : ((cells.length : Int) != (cells.length : Int)) = false := by simp
  go_enter Tryd.func13, Tryd.ntmps13
  go_upto_region 3 with (fail)
  have b0 : (w.alloc (.cells #[.int .i64 P, .int .i64 H, .slice ac cells.length cc] 31)).cell? ⟨w.heap.size, 0, none⟩ = some (.int .i64 P) := by simp
  have b1 : (w.alloc (.cells #[.int .i64 P, .int .i64 H, .slice ac cells.length cc] 31)).cell? ⟨w.heap.size, 1, none⟩ = some (.int .i64 H) := by simp
  have b2 : (w.alloc (.cells #[.int .i64 P, .int .i64 H, .slice ac cells.length cc] 31)).cell? ⟨w.heap.size, 2, none⟩ = some (.slice ac cells.length cc) := by simp
  have bl : w.heap.size < (w.alloc (.cells #[.int .i64 P, .int .i64 H, .slice ac cells.length cc] 31)).heap.size := by simp
  have HXx := Lib.hid (hx.kept (hk.out (.cells #[.int .i64 P, .int .i64 H, .slice ac cells.length cc] 31)))
  have HCx := Lib.hid (hc.kept (hk.out (.cells #[.int .i64 P, .int .i64 H, .slice ac cells.length cc] 31)))
  have HKx := Lib.hid (hk.out (.cells #[.int .i64 P, .int .i64 H, .slice ac cells.length cc] 31))
  clear hx hc hk hwr g1 g2
  generalize w.alloc (.cells #[.int .i64 P, .int .i64 H, .slice ac cells.length cc] 31) = w1 at b0 b1 b2 bl HXx HCx HKx ⊢
  generalize w.heap.size = B at b0 b1 b2 bl ⊢
  have HB := Lib.hid (And.intro b0 (And.intro b1 b2))
  clear b0 b1 b2
  go_wp2_with (fail)
  go_loopg [7, 8, 9] ts.length (fun gg s7 _ _ wr => ∃ k : Nat, k ≤ ts.length ∧ ts.length - k ≤ gg ∧ s7 = .int .i64 k ∧ Aside (Kept w1 wr))
  case atStart => exact ⟨0, Nat.zero_le _, by omega, rfl, Kept.refl w1⟩
  case round =>
    obtain ⟨k, hk, hg, rfl, HK⟩ := hrel
    by_cases hlt : k < ts.length
    · obtain ⟨b, off, rfl, hb, p0, p1, p2, p3⟩ := (HXx.out.kept HK.out).tile hlt
      obtain ⟨t, ht⟩ : ∃ t, ts[k] = t := ⟨_, rfl⟩
      rw [ht] at p0 p1 p2 p3
      clear ht
      have HK1 := Lib.hid ((Kept.refl wr).alloc (Nat.le_refl _) (.cells #[.int .i64 t.N, .int .i64 t.E, .int .i64 t.S, .int .i64 t.W] 44))
      go_upto_region 7 with (fail)
      have x0 : (wr.alloc (.cells #[.int .i64 t.N, .int .i64 t.E, .int .i64 t.S, .int .i64 t.W] 44)).cell? ⟨wr.heap.size, 0, none⟩ = some (.int .i64 t.N) := by simp
      have x1 : (wr.alloc (.cells #[.int .i64 t.N, .int .i64 t.E, .int .i64 t.S, .int .i64 t.W] 44)).cell? ⟨wr.heap.size, 1, none⟩ = some (.int .i64 t.E) := by simp
      have x2 : (wr.alloc (.cells #[.int .i64 t.N, .int .i64 t.E, .int .i64 t.S, .int .i64 t.W] 44)).cell? ⟨wr.heap.size, 2, none⟩ = some (.int .i64 t.S) := by simp
      have x3 : (wr.alloc (.cells #[.int .i64 t.N, .int .i64 t.E, .int .i64 t.S, .int .i64 t.W] 44)).cell? ⟨wr.heap.size, 3, none⟩ = some (.int .i64 t.W) := by simp
      have lT : wr.heap.size < (wr.alloc (.cells #[.int .i64 t.N, .int .i64 t.E, .int .i64 t.S, .int .i64 t.W] 44)).heap.size := by simp
      have HK2 := Lib.hid (HK.out.trans HK1.out)
      clear HK1 HK hb p0 p1 p2 p3
      generalize wr.alloc (.cells #[.int .i64 t.N, .int .i64 t.E, .int .i64 t.S, .int .i64 t.W] 44) = wx at x0 x1 x2 x3 lT HK2 ⊢
      generalize wr.heap.size = T at x0 x1 x2 x3 lT ⊢
      go_cut [103] (fun s103 wq => ∃ b, s103 = .bool b ∧ wx = wq)
      case first =>
        go_wp2_with (fail)
        all_goals
          go_meet
          exact ⟨_, rfl, rfl⟩
      case rest =>
        obtain ⟨bad, rfl, rfl⟩ := hcut
        cases bad with
        | true =>
          go_wp2_with (fail)
          go_ret
          exact OfPost.no rfl (HKx.out.trans HK2.out)
        | false =>
          go_wp2_with (fail)
          go_loopg [9] k (fun gg s9 wr => ∃ j : Nat, j ≤ k ∧ k - j ≤ gg ∧ s9 = .int .i64 j ∧ Aside (Kept wx wr))
          case atStart => exact ⟨0, by omega, by omega, rfl, Kept.refl wx⟩
          case round =>
            obtain ⟨j, hj, hg2, rfl, HKj⟩ := hrel
            by_cases hjk : j < k
            · obtain ⟨_, _, eb, hb', e0, e1, e2, e3⟩ := (HXx.out.kept (HK2.out.trans HKj.out)).tile (show j < ts.length by omega)
              cases eb
              generalize ts[j] = u at e0 e1 e2 e3
              have x0 := (HKj.out.cell (p := ⟨T, 0, none⟩) lT).trans x0
              have x1 := (HKj.out.cell (p := ⟨T, 1, none⟩) lT).trans x1
              have x2 := (HKj.out.cell (p := ⟨T, 2, none⟩) lT).trans x2
              have x3 := (HKj.out.cell (p := ⟨T, 3, none⟩) lT).trans x3
              have hEq : ∀ w, (binOp .eql 44 (.agg #[.int .i64 u.N, .int .i64 u.E, .int .i64 u.S, .int .i64 u.W]) (.agg #[.int .i64 t.N, .int .i64 t.E, .int .i64 t.S, .int .i64 t.W])).run Tryd.prog w = .ok (.bool (decide (u = t))) w := by
                intro w
                have := equalTile u t w
                simp only [binOp, Sem.run_bind]
                simp only [valT] at this
                rw [this]
                rfl
              have hjl : (j : Int) < (ts.length : Int) := by omega
              generalize decide (u = t) = same at hEq
              go_upto_region 12 with (fail)
              go_quiet (fail)
              cases same with
              | true =>
                go_wp2_with (fail)
                go_ret
                exact OfPost.no rfl (HKx.out.trans (HK2.out.trans (HKj.out.trans (Kept.drewN _ _))))
              | false =>
                go_wp2_with (fail)
                go_roundg (k - (j + 1))
                case measure => omega
                case rel => exact ⟨j + 1, by omega, by omega, by go_num, HKj.out.trans (Kept.drewN _ _)⟩
            · obtain rfl : j = k := by omega
              go_wp2_with (fail)
              go_roundg (ts.length - (j + 1))
              case measure => omega
              case rel => exact ⟨j + 1, by omega, by omega, by go_num, HK2.out.trans HKj.out⟩
    · obtain rfl : k = ts.length := by omega
      have HX2 := Lib.hid (HXx.out.kept HK.out)
      have HC2 := Lib.hid (HCx.out.kept HK.out)
      have HB2 := Lib.hid (And.intro ((HK.out.cell (p := ⟨B, 0, none⟩) bl).trans HB.out.1) (And.intro ((HK.out.cell (p := ⟨B, 1, none⟩) bl).trans HB.out.2.1) ((HK.out.cell (p := ⟨B, 2, none⟩) bl).trans HB.out.2.2)))
      have HK2 := Lib.hid (HKx.out.trans HK.out)
      have HK1s := Lib.hid HK.out.size
      clear HXx HCx HB HKx HK
      have b2 := HB2.out.2.2
      go_wp2_with (fail)
      go_loopg [10] cells.length (fun gg s10 wr2 => ∃ j : Nat, j ≤ cells.length ∧ cells.length - j ≤ gg ∧ s10 = .int .i64 j ∧ Aside (wr = wr2) ∧ Aside (∀ i, i < j → 0 ≤ cells[i]?.getD 0 ∧ cells[i]?.getD 0 < ts.length))
      case atStart => exact ⟨0, by omega, by omega, rfl, (rfl : wr = wr), fun i h => absurd h (Nat.not_lt_zero _)⟩
      case round =>
        obtain ⟨j, hj, hg2, rfl, rfl, HA⟩ := hrel
        by_cases hlt : j < cells.length
        · obtain ⟨b, off, rfl, hb, p0⟩ := HC2.out.int hlt
          have HE := Lib.hid (show cells[j]?.getD 0 = cells[j] by simp [hlt])
          generalize cells[j] = c at p0 HE
          by_cases t1 : c < 0
          · go_wp2_with (fail)
            go_ret
            exact OfPost.no rfl (HK2.out)
          · by_cases t2 : (ts.length : Int) ≤ c
            · go_wp2_with (fail)
              go_ret
              exact OfPost.no rfl (HK2.out)
            · go_wp2_with (fail)
              go_roundg (cells.length - (j + 1))
              case measure => omega
              case rel =>
                refine ⟨j + 1, by omega, by omega, by go_num, rfl, (show Aside _ from fun i hi => ?_)⟩
                by_cases e : i = j
                · subst e; rw [HE.out]; omega
                · exact HA.out i (by omega)
        · obtain rfl : j = cells.length := by omega
          have HA2 := Lib.hid HA.out
          clear HA
          go_wp2_with (fail)
          clear b2
          go_loopg [11, 12, 13] H (fun gg s11 _ _ wr2 => ∃ y : Nat, y ≤ H ∧ H - y ≤ gg ∧ s11 = .int .i64 y ∧ Aside (Kept wr wr2) ∧ Aside (∀ y' x, y' < y → x < P → FitAt ts cells P H y' x))
          case atStart => exact ⟨0, by omega, by omega, rfl, Kept.refl wr, fun _ _ h => absurd h (Nat.not_lt_zero _)⟩
          case round =>
            obtain ⟨y, hy, hgy, rfl, HKy, HF⟩ := hrel
            have b1 := (HKy.out.cell (p := ⟨B, 1, none⟩) (show B < _ from Nat.lt_of_lt_of_le bl (HK1s.out))).trans HB2.out.2.1
            by_cases hyl : y < H
            · go_wp2_with (fail)
              clear b1
              have HKwr := Lib.hid HKy.out
              have HBl : Hid (B < wr.heap.size) := Nat.lt_of_lt_of_le (Nat.lt_of_lt_of_le bl HK1s.out) HKy.out.size
              have HB3 := Lib.hid (And.intro ((HKy.out.cell (p := ⟨B, 0, none⟩) (Nat.lt_of_lt_of_le bl HK1s.out)).trans HB2.out.1) (And.intro ((HKy.out.cell (p := ⟨B, 1, none⟩) (Nat.lt_of_lt_of_le bl HK1s.out)).trans HB2.out.2.1) ((HKy.out.cell (p := ⟨B, 2, none⟩) (Nat.lt_of_lt_of_le bl HK1s.out)).trans HB2.out.2.2)))
              have HX3 := Lib.hid (HX2.out.kept HKy.out)
              have HC3 := Lib.hid (HC2.out.kept HKy.out)
              go_loopg [12, 13] P (fun gg s12 _ wr3 => ∃ x : Nat, x ≤ P ∧ P - x ≤ gg ∧ s12 = .int .i64 x ∧ Aside (Kept wr wr3) ∧ Aside (∀ x', x' < x → FitAt ts cells P H y x'))
              case atStart => exact ⟨0, by omega, by omega, rfl, Kept.refl wr, fun _ h => absurd h (Nat.not_lt_zero _)⟩
              case round =>
                obtain ⟨x, hx, hgx, rfl, HKz, HG⟩ := hrel
                have b0 := (HKz.out.cell (p := ⟨B, 0, none⟩) HBl.out).trans HB3.out.1
                by_cases hxl : x < P
                · have b1 := (HKz.out.cell (p := ⟨B, 1, none⟩) HBl.out).trans HB3.out.2.1
                  have b2 := (HKz.out.cell (p := ⟨B, 2, none⟩) HBl.out).trans HB3.out.2.2
                  have bl3 := Nat.lt_of_lt_of_le HBl.out HKz.out.size
                  have i0 : y * P + x < cells.length := by rw [HCL.out]; exact idx_lt hyl hxl
                  have i1 : y * P + (x + 1) % P < cells.length := by rw [HCL.out]; exact idx_lt hyl (Nat.mod_lt _ hP)
                  have i2 : (y + 1) % H * P + x < cells.length := by rw [HCL.out]; exact idx_lt (Nat.mod_lt _ hH) hxl
                  have hn : 0 < ts.length := by have := HA2.out _ i0; omega
                  have HX4 := HX3.out.kept HKz.out
                  have HC4 := HC3.out.kept HKz.out
                  obtain ⟨bt, ot, rfl, hbt, hdrop⟩ := HX4.get hn
                  clear hdrop
                  obtain ⟨bc, oc, rfl, hbc, hdrop⟩ := HC4.int i0
                  clear hdrop
                  obtain ⟨d0, d00, d01, u0, t00, t01, t02, t03⟩ := tile_at HX4 HC4 i0 (HA2.out _ i0)
                  obtain ⟨d1, d10, d11, u1, t10, t11, t12, t13⟩ := tile_at HX4 HC4 i1 (HA2.out _ i1)
                  obtain ⟨d2, d20, d21, u2', t20, t21, t22, t23⟩ := tile_at HX4 HC4 i2 (HA2.out _ i2)
                  have hfit : FitAt ts cells P H y x = ((tileAt ts cells (y * P + x)).E = (tileAt ts cells (y * P + (x + 1) % P)).W ∧ (tileAt ts cells (y * P + x)).N = (tileAt ts cells ((y + 1) % H * P + x)).S) := rfl
                  have HFIT := Lib.hid hfit
                  clear hfit HX4 HC4 t10 t11 t12 t20 t21 t23
                  generalize tileAt ts cells (y * P + x) = A0 at *
                  generalize tileAt ts cells (y * P + (x + 1) % P) = A1 at *
                  generalize tileAt ts cells ((y + 1) % H * P + x) = A2 at *
                  have e1 : IntKind.i64.wrap ((y : Int) * (P : Int)) = ((y * P : Nat) : Int) := by
                    rw [Int.natCast_mul]; exact IntWalk.i64_in _ (by rw [← Int.natCast_mul]; omega)
                  have e2 : ((x : Int) + 1) % (P : Int) = (((x + 1) % P : Nat) : Int) := by simp
                  have e3 : ((y : Int) + 1) % (H : Int) = (((y + 1) % H : Nat) : Int) := by simp
                  have e4 : IntKind.i64.wrap ((((y + 1) % H : Nat) : Int) * (P : Int)) = (((y + 1) % H * P : Nat) : Int) := by
                    rw [Int.natCast_mul]; exact IntWalk.i64_in _ (by rw [← Int.natCast_mul]; omega)
                  generalize y * P = n0 at *
                  generalize (x + 1) % P = q1 at *
                  generalize (y + 1) % H = q2 at *
                  generalize q2 * P = n2 at *
                  have nb : B ≠ wr.heap.size := by omega
                  have nt : bt < wr.heap.size := hbt
                  have nc : bc < wr.heap.size := hbc
                  have HKA := Lib.hid (HKz.out.alloc HKz.out.size (.cells #[.int .i64 A0.N, .int .i64 A0.E, .int .i64 A0.S, .int .i64 A0.W] 44))
                  go_upto_region 26 with (fail)
                  have x0 : (wr.alloc (.cells #[.int .i64 A0.N, .int .i64 A0.E, .int .i64 A0.S, .int .i64 A0.W] 44)).cell? ⟨wr.heap.size, 0, none⟩ = some (.int .i64 A0.N) := by simp
                  have x1 : (wr.alloc (.cells #[.int .i64 A0.N, .int .i64 A0.E, .int .i64 A0.S, .int .i64 A0.W] 44)).cell? ⟨wr.heap.size, 1, none⟩ = some (.int .i64 A0.E) := by simp
                  have HKO := Lib.hid ((Kept.refl wr).alloc (Nat.le_refl _) (.cells #[.int .i64 A0.N, .int .i64 A0.E, .int .i64 A0.S, .int .i64 A0.W] 44))
                  have b0 := (HKO.out.cell (p := ⟨B, 0, none⟩) bl3).trans b0
                  have b1 := (HKO.out.cell (p := ⟨B, 1, none⟩) bl3).trans b1
                  have b2 := (HKO.out.cell (p := ⟨B, 2, none⟩) bl3).trans b2
                  have u1 := (HKO.out.cell (p := ⟨bc, oc + (n0 + q1), none⟩) hbc).trans u1
                  have u2' := (HKO.out.cell (p := ⟨bc, oc + (n2 + x), none⟩) hbc).trans u2'
                  have t13 := (HKO.out.cell (p := ⟨bt, ot + d1.toNat * 4 + 3, none⟩) hbt).trans t13
                  have t22 := (HKO.out.cell (p := ⟨bt, ot + d2.toNat * 4 + 2, none⟩) hbt).trans t22
                  clear HKO u0 t00 t01 t02 t03 nb nt nc hbt hbc bl3
                  generalize wr.alloc (.cells #[.int .i64 A0.N, .int .i64 A0.E, .int .i64 A0.S, .int .i64 A0.W] 44) = wx at x0 x1 b0 b1 b2 u1 u2' t13 t22 HKA ⊢
                  generalize wr.heap.size = T at x0 x1 ⊢
                  by_cases f1 : A0.E = A1.W
                  · have q1f : (A0.E != A1.W) = false := by simpa using f1
                    have HF1 := Lib.hid f1
                    clear f1
                    go_quiet (fail)
                    go_upto_region 28 with (fail)
                    by_cases f2 : A0.N = A2.S
                    · have q2f : (A0.N != A2.S) = false := by simpa using f2
                      have HF2 := Lib.hid f2
                      clear f2
                      go_quiet (fail)
                      go_wp2_with (fail)
                      go_roundg (P - (x + 1))
                      case measure => omega
                      case rel =>
                        refine ⟨x + 1, by omega, by omega, by go_num, Kept.trans HKA.out (by first | exact Kept.drewN _ _ | exact Kept.trans (Kept.drewN _ _) (Kept.drewN _ _)), (show Aside _ from fun x' hx' => ?_)⟩
                        by_cases e : x' = x
                        · subst e; rw [HFIT.out]; exact ⟨HF1.out, HF2.out⟩
                        · exact HG.out x' (by omega)
                    · have q2f : (A0.N != A2.S) = true := by simpa using f2
                      clear f2
                      go_quiet (fail)
                      go_wp2_with (fail)
                      go_ret
                      exact OfPost.no rfl (HK2.out.trans (HKwr.out.trans (Kept.trans HKA.out (by first | exact Kept.drewN _ _ | exact Kept.trans (Kept.drewN _ _) (Kept.drewN _ _)))))
                  · have q1f : (A0.E != A1.W) = true := by simpa using f1
                    clear f1
                    go_quiet (fail)
                    go_wp2_with (fail)
                    go_ret
                    exact OfPost.no rfl (HK2.out.trans (HKwr.out.trans (Kept.trans HKA.out (by first | exact Kept.drewN _ _ | exact Kept.trans (Kept.drewN _ _) (Kept.drewN _ _)))))
                · obtain rfl : x = P := by omega
                  go_wp2_with (fail)
                  go_roundg (H - (y + 1))
                  case measure => omega
                  case rel =>
                    refine ⟨y + 1, by omega, by omega, by go_num, HKwr.out.trans HKz.out, (show Aside _ from fun y' x' hy' hx' => ?_)⟩
                    by_cases e : y' = y
                    · subst e; exact HG.out x' hx'
                    · exact HF.out y' x' (by omega) hx'
            · obtain rfl : y = H := by omega
              have HT := Lib.hid (show Torus ts P y cells from ⟨P, y, rfl, rfl, hP, hH, HCL.out, HA2.out, fun y' x h1 h2 => HF.out y' x h1 h2⟩)
              go_wp2_with (fail)
              go_ret
              exact OfPost.yes rfl (HK2.out.trans HKy.out) HT.out
end Go.Proofs.YtlcbgcieedbggaaDoor
namespace Go.Proofs.YtlcbgcieedbggaaDoor
open Go Go.RowKit

theorem ofCalls (ts : List Tile) (pw ph : Int) (cells : List Int) (a ac : Option Addr) (cap cc : Nat) (w : World) (hx : SlA w 4 encT a ts) (hc : SlA w 1 encI ac cells) (hw0 : -9223372036854775808 ≤ pw ∧ pw ≤ 9223372036854775807) (hh0 : -9223372036854775808 ≤ ph ∧ ph ≤ 9223372036854775807) :
    Calls Tryd.prog 13 #[.slice a ts.length cap, .agg #[.int .i64 pw, .int .i64 ph, .slice ac cells.length cc], .bool true] w fun e w' => OfPost ts pw ph cells w e w' := by
  by_cases h : ts.length ≤ 1000 ∧ 1 ≤ pw ∧ 1 ≤ ph ∧ pw ≤ 40000 ∧ ph ≤ 40000 ∧ pw * ph ≤ 40000 ∧ (cells.length : Int) = pw * ph
  · obtain ⟨h1, h2, h3, h4, h5, h6, h7⟩ := h
    obtain ⟨P, rfl⟩ := Int.eq_ofNat_of_zero_le (show 0 ≤ pw by omega)
    obtain ⟨H, rfl⟩ := Int.eq_ofNat_of_zero_le (show 0 ≤ ph by omega)
    rw [← Int.natCast_mul] at h6 h7
    exact ofForm_yes ts P H cells a ac cap cc w hx hc h1 (by omega) (by omega) (by omega) (by omega) (by omega) (by omega)
  · refine (ofForm_no ts pw ph cells a ac cap cc w hx hc hw0 hh0 h).mono ?_
    rintro e w' ⟨he, hk⟩
    exact OfPost.no he hk

set_option maxHeartbeats 1000000 in
theorem sameInts (xs ys : List Int) (a b : Option Addr) (ca cb : Nat) (w : World) (hx : SlA w 1 encI a xs) (hy : SlA w 1 encI b ys) :
    Calls Tryd.prog 54 #[.slice a xs.length ca, .slice b ys.length cb] w fun e w' => e = .returned (.bool (decide (xs = ys))) ∧ Kept w w' := by
  have lx := hx.len
  have ly := hy.len
  by_cases hl : xs.length = ys.length
  · go_enter Tryd.func54, Tryd.ntmps54
    have HL := Lib.hid hl
    have t0 : ((xs.length : Int) != (ys.length : Int)) = false := by rw [bne_eq_false_iff_eq]; omega
    clear hl
    go_wp2_with (fail)
    clear t0
    go_loopg [5] xs.length (fun gg s5 wr => ∃ j : Nat, j ≤ xs.length ∧ xs.length - j ≤ gg ∧ s5 = .int .i64 j ∧ Aside (Kept w wr) ∧ Aside (∀ i, i < j → xs[i]? = ys[i]?))
    case atStart => exact ⟨0, by omega, by omega, rfl, Kept.refl w, fun i h => absurd h (Nat.not_lt_zero _)⟩
    case round =>
      obtain ⟨j, hj, hg, rfl, HK, HA⟩ := hrel
      by_cases hlt : j < xs.length
      · have hlt2 : j < ys.length := by rw [← HL.out]; exact hlt
        obtain ⟨b1, o1, rfl, hb1, p1⟩ := (hx.kept HK.out).int hlt
        obtain ⟨b2, o2, rfl, hb2, p2⟩ := (hy.kept HK.out).int hlt2
        have HE := Lib.hid (show xs[j]? = some xs[j] ∧ ys[j]? = some ys[j] by simp [hlt, hlt2])
        generalize xs[j] = x at p1 HE
        generalize ys[j] = y at p2 HE
        by_cases he : x = y
        · have t : (x != y) = false := by simpa using he
          have HQ := Lib.hid he
          clear he
          go_upto_region 6 with (fail)
          go_quiet (fail)
          go_wp2_with (fail)
          go_roundg (xs.length - (j + 1))
          case measure => omega
          case rel =>
            refine ⟨j + 1, by omega, by omega, by go_num, Kept.trans HK.out (Kept.drewN _ _), (show Aside _ from fun i hi => ?_)⟩
            by_cases e : i = j
            · subst e; rw [HE.out.1, HE.out.2, HQ.out]
            · exact HA.out i (by omega)
        · have t : (x != y) = true := by simpa using he
          have HQ := Lib.hid (show decide (xs = ys) = false by
            rw [decide_eq_false_iff_not]; intro e
            have := HE.out.1.symm.trans ((congrArg (fun l => l[j]?) e).trans HE.out.2)
            exact he (Option.some.inj this))
          clear he
          go_upto_region 6 with (fail)
          go_quiet (fail)
          go_wp2_with (fail)
          go_ret
          refine ⟨?_, Kept.trans HK.out (Kept.drewN _ _)⟩
          rw [HQ.out]
          rfl
      · obtain rfl : j = xs.length := by omega
        have HQ := Lib.hid (show decide (xs = ys) = true by
          rw [decide_eq_true_eq]
          refine List.ext_getElem? fun i => ?_
          by_cases hi : i < xs.length
          · exact HA.out i hi
          · rw [List.getElem?_eq_none (by omega), List.getElem?_eq_none (by have := HL.out; omega)])
        go_wp2_with (fail)
        go_ret
        refine ⟨?_, HK.out⟩
        rw [HQ.out]
        rfl
  · have HQ := Lib.hid (show decide (xs = ys) = false by rw [decide_eq_false_iff_not]; intro e; exact hl (by rw [e]))
    have t0 : ((xs.length : Int) != (ys.length : Int)) = true := by rw [bne_iff_ne]; omega
    clear hl
    go_enter Tryd.func54, Tryd.ntmps54
    go_wp2_with (fail)
    go_ret
    refine ⟨?_, Kept.refl w⟩
    rw [HQ.out]
    rfl
end Go.Proofs.YtlcbgcieedbggaaDoor
namespace Go.Proofs.YtlcbgcieedbggaaDoor
open Go Go.RowKit

/-- A pattern has the form of one. -/
def formB (pw ph : Int) (cells : List Int) : Bool := decide (1 ≤ pw ∧ 1 ≤ ph ∧ pw ≤ 40000 ∧ ph ≤ 40000 ∧ pw * ph ≤ 40000 ∧ (cells.length : Int) = pw * ph)
theorem formB_no {pw ph : Int} {cells : List Int} (h : ¬ (1 ≤ pw ∧ 1 ≤ ph ∧ pw ≤ 40000 ∧ ph ≤ 40000 ∧ pw * ph ≤ 40000 ∧ (cells.length : Int) = pw * ph)) : formB pw ph cells = false := decide_eq_false h

set_option maxHeartbeats 4000000 in
theorem form (pw ph : Int) (cells : List Int) (ac : Option Addr) (cc : Nat) (w : World) (_lc : cells.length ≤ 17592186044416) (hw0 : -9223372036854775808 ≤ pw ∧ pw ≤ 9223372036854775807) (hh0 : -9223372036854775808 ≤ ph ∧ ph ≤ 9223372036854775807) :
    Calls Tryd.prog 85 #[.agg #[.int .i64 pw, .int .i64 ph, .slice ac cells.length cc]] w fun e w' => e = .returned (.bool (formB pw ph cells)) ∧ Kept w w' := by
  obtain ⟨hw1, hw2⟩ := hw0
  obtain ⟨hh1, hh2⟩ := hh0
  have hk : ∀ o, Kept w (w.alloc o) := fun o => (Kept.refl w).alloc (Nat.le_refl _) o
  by_cases b2 : 1 ≤ pw
  · by_cases b3 : 1 ≤ ph
    · by_cases b4 : pw ≤ 40000
      · by_cases b5 : ph ≤ 40000
        · have m1 := Int.mul_le_mul (show pw ≤ 40000 by omega) (show ph ≤ 40000 by omega) (by omega) (by omega)
          have m0 := Int.mul_nonneg (show 0 ≤ pw by omega) (show 0 ≤ ph by omega)
          obtain ⟨M, hM⟩ : ∃ M, pw * ph = M := ⟨_, rfl⟩
          have HM := Lib.hid hM
          rw [hM] at m1 m0
          have hwr : IntKind.i64.wrap (pw * ph) = M := by rw [hM]; exact IntWalk.i64_in _ (by omega)
          clear hM
          by_cases b6 : M ≤ 40000
          · by_cases b7 : (cells.length : Int) = M
            · have HF := Lib.hid (show formB pw ph cells = true from decide_eq_true ⟨b2, b3, b4, b5, by rw [HM.out]; exact b6, by rw [HM.out]; exact b7⟩)
              have t : ((cells.length : Int) == M) = true := by simpa using b7
              clear b7
              go_enter Tryd.func85, Tryd.ntmps85
              go_wp2_with (fail)
              go_ret
              refine ⟨?_, hk _⟩
              rw [HF.out]
              first | rfl | simp [b2, b3, b4, b5, b6, t]
            · have HF := Lib.hid (formB_no (pw := pw) (ph := ph) (cells := cells) fun h => b7 (by rw [← HM.out]; exact h.2.2.2.2.2))
              have t : ((cells.length : Int) == M) = false := by simpa using b7
              clear b7
              go_enter Tryd.func85, Tryd.ntmps85
              go_wp2_with (fail)
              go_ret
              refine ⟨?_, hk _⟩
              rw [HF.out]
              first | rfl | simp [b2, b3, b4, b5, b6, t]
          · have HF := Lib.hid (formB_no (pw := pw) (ph := ph) (cells := cells) fun h => b6 (by rw [← HM.out]; exact h.2.2.2.2.1))
            go_enter Tryd.func85, Tryd.ntmps85
            go_wp2_with (fail)
            go_ret
            refine ⟨?_, hk _⟩
            rw [HF.out]
            first | rfl | simp [b2, b3, b4, b5, b6]
        · have HF := Lib.hid (formB_no (pw := pw) (ph := ph) (cells := cells) fun h => b5 h.2.2.2.1)
          go_enter Tryd.func85, Tryd.ntmps85
          go_wp2_with (fail)
          go_ret
          refine ⟨?_, hk _⟩
          rw [HF.out]
          first | rfl | simp [b2, b3, b4, b5]
      · have HF := Lib.hid (formB_no (pw := pw) (ph := ph) (cells := cells) fun h => b4 h.2.2.1)
        go_enter Tryd.func85, Tryd.ntmps85
        go_wp2_with (fail)
        go_ret
        refine ⟨?_, hk _⟩
        rw [HF.out]
        first | rfl | simp [b2, b3, b4]
    · have HF := Lib.hid (formB_no (pw := pw) (ph := ph) (cells := cells) fun h => b3 h.2.1)
      go_enter Tryd.func85, Tryd.ntmps85
      go_wp2_with (fail)
      go_ret
      refine ⟨?_, hk _⟩
      rw [HF.out]
      first | rfl | simp [b2, b3]
  · have HF := Lib.hid (formB_no (pw := pw) (ph := ph) (cells := cells) fun h => b2 h.1)
    go_enter Tryd.func85, Tryd.ntmps85
    go_wp2_with (fail)
    go_ret
    refine ⟨?_, hk _⟩
    rw [HF.out]
    first | rfl | simp [b2]
def badCell (n : Nat) (c : Int) : Bool := decide (c < 0) || decide ((n : Int) ≤ c)
theorem ofLit (n : Nat) (_hn : n ≤ 17592186044416) (c : Int) (Bs : Nat) (a : Option Addr) (cap : Nat) (w : World) (_hB : Bs < w.heap.size) (hs : w.cell? ⟨Bs, 0, none⟩ = some (.slice a n cap)) :
    Calls Tryd.prog 107 #[.int .i64 c, .pointer (some ⟨Bs, 0, none⟩)] w fun e w' => e = .returned (.bool (badCell n c)) ∧ Kept w w' := by
  by_cases h1 : c < 0
  · go_enter Tryd.func107, Tryd.ntmps107
    go_wp2_with (fail)
    go_ret
    exact ⟨by simp [badCell, h1], Kept.refl w⟩
  · by_cases h2 : (n : Int) ≤ c
    · go_enter Tryd.func107, Tryd.ntmps107
      go_wp2_with (fail)
      go_ret
      exact ⟨by simp [badCell, h2], Kept.refl w⟩
    · go_enter Tryd.func107, Tryd.ntmps107
      go_wp2_with (fail)
      go_ret
      exact ⟨by simp [badCell, h2]; omega, Kept.refl w⟩

def ofB (ts : List Tile) (pw ph : Int) (cells : List Int) : Bool := tilesValid ts && formB pw ph cells && !cells.any (badCell ts.length)
theorem form_b (pw ph : Int) (cells : List Int) (q : Bool) (hq : formB pw ph cells = q) (ac : Option Addr) (cc : Nat) (w : World) (lc : cells.length ≤ 17592186044416) (hw0 : -9223372036854775808 ≤ pw ∧ pw ≤ 9223372036854775807) (hh0 : -9223372036854775808 ≤ ph ∧ ph ≤ 9223372036854775807) :
    Calls Tryd.prog 85 #[.agg #[.int .i64 pw, .int .i64 ph, .slice ac cells.length cc]] w fun e w' => e = .returned (.bool q) ∧ Kept w w' := by
  subst hq; exact form pw ph cells ac cc w lc hw0 hh0
theorem valid_b' (ts : List Tile) (b : Bool) (hb : tilesValid ts = b) (a : Option Addr) (cap : Nat) (w : World) (hx : SlA w 4 encT a ts) :
    Calls Tryd.prog 22 #[.slice a ts.length cap] w fun e w' => e = .returned (.bool b) ∧ Kept w w' := by
  subst hb; exact valid ts a cap w hx
theorem anyBad (ts : List Tile) (cells : List Int) (q : Bool) (hq : cells.any (badCell ts.length) = q) (Bs : Nat) (a ac : Option Addr) (cap cc : Nat) (w : World) (hB : Bs < w.heap.size) (hs : w.cell? ⟨Bs, 0, none⟩ = some (.slice a ts.length cap)) (hl : ts.length ≤ 17592186044416) (hc : SlA w 1 encI ac cells) :
    Calls Tryd.prog 81 #[.slice ac cells.length cc, .func (.func 107) #[] #[.pointer (some ⟨Bs, 0, none⟩)]] w fun e w' => e = .returned (.bool q) ∧ Kept w w' := by
  subst hq
  exact containsFuncInt 107 #[.pointer (some ⟨Bs, 0, none⟩)] (enters_of Tryd.func107 (by kernel_rfl) rfl) (badCell ts.length) cells ac cc w
    (fun W x _ hk => ofLit ts.length hl x Bs a cap W (Nat.lt_of_lt_of_le hB hk.size) ((hk.cell (p := ⟨Bs, 0, none⟩) hB).trans hs)) hc

set_option maxHeartbeats 4000000 in
theorem tileOf (ts : List Tile) (pw ph : Int) (cells : List Int) (a ac : Option Addr) (cap cc : Nat) (w : World) (hx : SlA w 4 encT a ts) (hc : SlA w 1 encI ac cells) (hw0 : -9223372036854775808 ≤ pw ∧ pw ≤ 9223372036854775807) (hh0 : -9223372036854775808 ≤ ph ∧ ph ≤ 9223372036854775807) :
    Calls Tryd.prog 86 #[.slice a ts.length cap, .agg #[.int .i64 pw, .int .i64 ph, .slice ac cells.length cc]] w fun e w' => e = .returned (.bool (ofB ts pw ph cells)) ∧ Kept w w' := by
  have lt := hx.len
  have lc := hc.len
  have HOB : ofB ts pw ph cells = (tilesValid ts && formB pw ph cells && !cells.any (badCell ts.length)) := rfl
  obtain ⟨q1, h1⟩ : ∃ q, tilesValid ts = q := ⟨_, rfl⟩
  obtain ⟨q2, h2⟩ : ∃ q, formB pw ph cells = q := ⟨_, rfl⟩
  obtain ⟨q3, h3⟩ : ∃ q, cells.any (badCell ts.length) = q := ⟨_, rfl⟩
  rw [h1, h2, h3] at HOB
  have H1 := Lib.hid h1
  have H2 := Lib.hid h2
  have H3 := Lib.hid h3
  have HO := Lib.hid HOB
  have HW := Lib.hid (And.intro hw0 hh0)
  clear h1 h2 h3 HOB hw0 hh0
  have hk : Kept w ((w.alloc (.cells #[.slice a ts.length cap] 22)).alloc (.cells #[.int .i64 pw, .int .i64 ph, .slice ac cells.length cc] 31)) := ((Kept.refl w).alloc (Nat.le_refl _) _).alloc (by simp) _
  have s0 : ((w.alloc (.cells #[.slice a ts.length cap] 22)).alloc (.cells #[.int .i64 pw, .int .i64 ph, .slice ac cells.length cc] 31)).cell? ⟨w.heap.size, 0, none⟩ = some (.slice a ts.length cap) := by simp
  have p0 : ((w.alloc (.cells #[.slice a ts.length cap] 22)).alloc (.cells #[.int .i64 pw, .int .i64 ph, .slice ac cells.length cc] 31)).cell? ⟨w.heap.size + 1, 0, none⟩ = some (.int .i64 pw) := by simp
  have p1 : ((w.alloc (.cells #[.slice a ts.length cap] 22)).alloc (.cells #[.int .i64 pw, .int .i64 ph, .slice ac cells.length cc] 31)).cell? ⟨w.heap.size + 1, 1, none⟩ = some (.int .i64 ph) := by simp
  have p2 : ((w.alloc (.cells #[.slice a ts.length cap] 22)).alloc (.cells #[.int .i64 pw, .int .i64 ph, .slice ac cells.length cc] 31)).cell? ⟨w.heap.size + 1, 2, none⟩ = some (.slice ac cells.length cc) := by simp
  have ll : w.heap.size + 1 < ((w.alloc (.cells #[.slice a ts.length cap] 22)).alloc (.cells #[.int .i64 pw, .int .i64 ph, .slice ac cells.length cc] 31)).heap.size := by simp
  have HI := Lib.hid (And.intro hk (And.intro s0 (And.intro p0 (And.intro p1 (And.intro p2 ll)))))
  have HX := Lib.hid (hx.kept hk)
  have HC := Lib.hid (hc.kept hk)
  clear hk s0 p0 p1 p2 ll hx hc
  go_enter Tryd.func86, Tryd.ntmps86
  go_upto_region 1 with (fail)
  generalize (w.alloc (.cells #[.slice a ts.length cap] 22)).alloc (.cells #[.int .i64 pw, .int .i64 ph, .slice ac cells.length cc] 31) = wx at HI HX HC ⊢
  obtain ⟨Bs, hBs⟩ : ∃ Bs, w.heap.size = Bs := ⟨_, rfl⟩
  obtain ⟨Bp, hBp⟩ : ∃ Bp, Bs + 1 = Bp := ⟨_, rfl⟩
  have HLS : Hid (Bs < wx.heap.size) := by have := HI.out.2.2.2.2.2; unfold Hid; omega
  rw [hBs] at HI ⊢
  rw [hBp] at HI ⊢
  clear hBs hBp
  obtain ⟨hk, s0, p0, p1, p2, ll⟩ := HI.out
  cases q1 with
  | false =>
    go_wp2_with (go_at_call 22; refine (valid_b' ts false H1.out a cap _ HX.out).mono ?_; rintro e w1 ⟨rfl, k1⟩)
    go_ret
    refine ⟨?_, hk.trans k1⟩
    rw [HO.out]
    rfl
  | true =>
    cases q2 with
    | false =>
      go_wp2_with (first
        | (go_at_call 22; refine (valid_b' ts true H1.out a cap _ HX.out).mono ?_; rintro e w1 ⟨rfl, k1⟩; have p0 := (k1.cell (p := ⟨Bp, 0, none⟩) ll).trans p0; have p1 := (k1.cell (p := ⟨Bp, 1, none⟩) ll).trans p1; have p2 := (k1.cell (p := ⟨Bp, 2, none⟩) ll).trans p2)
        | (go_at_call 85; go_must (refine (form_b pw ph cells false H2.out ac cc _ lc HW.out.1 HW.out.2).mono ?_); rintro e w2 ⟨rfl, k2⟩))
      go_ret
      refine ⟨?_, hk.trans (k1.trans k2)⟩
      rw [HO.out]
      rfl
    | true =>
      go_wp2_with (first
        | (go_at_call 22; refine (valid_b' ts true H1.out a cap _ HX.out).mono ?_; rintro e w1 ⟨rfl, k1⟩; have p0 := (k1.cell (p := ⟨Bp, 0, none⟩) ll).trans p0; have p1 := (k1.cell (p := ⟨Bp, 1, none⟩) ll).trans p1; have p2 := (k1.cell (p := ⟨Bp, 2, none⟩) ll).trans p2)
        | (go_at_call 85; go_must (refine (form_b pw ph cells true H2.out ac cc _ lc HW.out.1 HW.out.2).mono ?_); rintro e w2 ⟨rfl, k2⟩; have p2 := (k2.cell (p := ⟨Bp, 2, none⟩) (Nat.lt_of_lt_of_le ll k1.size)).trans p2)
        | (go_at_call 81; go_must (refine (anyBad ts cells q3 H3.out Bs a ac cap cc _ (Nat.lt_of_lt_of_le HLS.out (k1.trans k2).size) (((k1.trans k2).cell (p := ⟨Bs, 0, none⟩) HLS.out).trans s0) lt (HC.out.kept (k1.trans k2))).mono ?_); rintro e w3 ⟨rfl, k3⟩))
      go_ret
      refine ⟨?_, hk.trans ((k1.trans k2).trans k3)⟩
      rw [HO.out]
      first | rfl | (cases q3 <;> rfl)
end Go.Proofs.YtlcbgcieedbggaaDoor
namespace Go.Proofs.YtlcbgcieedbggaaDoor
open Go Go.RowKit

/-- The neighbours of cell i fit. -/
def joinAt (ts : List Tile) (cells : List Int) (P H : Nat) (r : Bool) (i : Nat) : Bool :=
  (!(decide (i % P + 1 < P) || r) || decide ((tileAt ts cells i).E = (tileAt ts cells (i / P * P + (i % P + 1) % P)).W)) &&
  (!(decide (i / P + 1 < H) || r) || decide ((tileAt ts cells i).N = (tileAt ts cells ((i / P + 1) % H * P + i % P)).S))
def joinsB (ts : List Tile) (cells : List Int) (P H : Nat) (r : Bool) : Bool := (List.range cells.length).all (joinAt ts cells P H r)
theorem joinsB_no {ts : List Tile} {cells : List Int} {P H : Nat} {r : Bool} {i : Nat} (hi : i < cells.length) (h : joinAt ts cells P H r i = false) : joinsB ts cells P H r = false := by
  rw [joinsB, List.all_eq_false]; exact ⟨i, by simpa using hi, by simp [h]⟩
theorem joinsB_yes {ts : List Tile} {cells : List Int} {P H : Nat} {r : Bool} (h : ∀ i, i < cells.length → joinAt ts cells P H r i = true) : joinsB ts cells P H r = true := by
  rw [joinsB, List.all_eq_true]; exact fun i hi => h i (by simpa using hi)

set_option maxHeartbeats 8000000 in
set_option maxRecDepth 100000 in
theorem joins (ts : List Tile) (P H : Nat) (cells : List Int) (r : Bool) (a ac : Option Addr) (cap cc : Nat) (w : World) (hx : SlA w 4 encT a ts) (hc : SlA w 1 encI ac cells) (hP : 0 < P) (hH : 0 < H) (hPl : P ≤ 40000) (hHl : H ≤ 40000) (hPH : P * H ≤ 40000) (hcl : cells.length = P * H)
    (hin : ∀ i, i < cells.length → 0 ≤ cells[i]?.getD 0 ∧ cells[i]?.getD 0 < ts.length) :
    Calls Tryd.prog 87 #[.slice a ts.length cap, .agg #[.int .i64 P, .int .i64 H, .slice ac cells.length cc], .bool r] w fun e w' => e = .returned (.bool (joinsB ts cells P H r)) ∧ Kept w w' := by
  have hk : Hid (∀ o, Kept w (w.alloc o)) := fun o => (Kept.refl w).alloc (Nat.le_refl _) o
  have lt := hx.len
  have HCL := Lib.hid hcl
  have hl4 : cells.length ≤ 40000 := by omega
  have HIN := Lib.hid hin
  clear hcl hPH hin
  go_enter Tryd.func87, Tryd.ntmps87
  go_upto_region 1 with (fail)
  have b0 : (w.alloc (.cells #[.int .i64 P, .int .i64 H, .slice ac cells.length cc] 31)).cell? ⟨w.heap.size, 0, none⟩ = some (.int .i64 P) := by simp
  have b1 : (w.alloc (.cells #[.int .i64 P, .int .i64 H, .slice ac cells.length cc] 31)).cell? ⟨w.heap.size, 1, none⟩ = some (.int .i64 H) := by simp
  have b2 : (w.alloc (.cells #[.int .i64 P, .int .i64 H, .slice ac cells.length cc] 31)).cell? ⟨w.heap.size, 2, none⟩ = some (.slice ac cells.length cc) := by simp
  have HX := Lib.hid (hx.kept (hk.out (.cells #[.int .i64 P, .int .i64 H, .slice ac cells.length cc] 31)))
  have HC := Lib.hid (hc.kept (hk.out (.cells #[.int .i64 P, .int .i64 H, .slice ac cells.length cc] 31)))
  have HKx := Lib.hid (hk.out (.cells #[.int .i64 P, .int .i64 H, .slice ac cells.length cc] 31))
  have bl : w.heap.size < (w.alloc (.cells #[.int .i64 P, .int .i64 H, .slice ac cells.length cc] 31)).heap.size := by simp
  clear hx hc hk
  generalize w.alloc (.cells #[.int .i64 P, .int .i64 H, .slice ac cells.length cc] 31) = w1 at b0 b1 b2 bl HX HC HKx ⊢
  generalize w.heap.size = B at b0 b1 b2 bl ⊢
  have HB := Lib.hid (And.intro b0 (And.intro b1 b2))
  go_wp2_with (fail)
  clear b0 b1 b2
  go_loopg [7, 8, 9, 10, 14] cells.length (fun gg _ _ _ _ s14 wr => ∃ i : Nat, i ≤ cells.length ∧ cells.length - i ≤ gg ∧ s14 = .int .i64 i ∧ Aside (Kept w1 wr) ∧ Aside (∀ j, j < i → joinAt ts cells P H r j = true))
  case atStart => exact ⟨0, by omega, by omega, rfl, Kept.refl w1, fun _ h => absurd h (Nat.not_lt_zero _)⟩
  case round =>
    obtain ⟨i, hi, hg, rfl, HK, HA⟩ := hrel
    by_cases hil : i < cells.length
    · have b0 := (HK.out.cell (p := ⟨B, 0, none⟩) bl).trans HB.out.1
      have b1 := (HK.out.cell (p := ⟨B, 1, none⟩) bl).trans HB.out.2.1
      have b2 := (HK.out.cell (p := ⟨B, 2, none⟩) bl).trans HB.out.2.2
      have hyl : i / P < H := by rw [Nat.div_lt_iff_lt_mul hP, Nat.mul_comm, ← HCL.out]; exact hil
      have hxl : i % P < P := Nat.mod_lt _ hP
      have i1 : i / P * P + (i % P + 1) % P < cells.length := by rw [HCL.out]; exact idx_lt hyl (Nat.mod_lt _ hP)
      have i2 : (i / P + 1) % H * P + i % P < cells.length := by rw [HCL.out]; exact idx_lt (Nat.mod_lt _ hH) hxl
      have hn : 0 < ts.length := by have := HIN.out _ hil; omega
      have HX4 := HX.out.kept HK.out
      have HC4 := HC.out.kept HK.out
      obtain ⟨bt, ot, rfl, hbt, hdrop⟩ := HX4.get hn
      clear hdrop
      obtain ⟨bc, oc, rfl, hbc, hdrop⟩ := HC4.int hil
      clear hdrop
      obtain ⟨d0, d00, d01, u0, t00, t01, t02, t03⟩ := tile_at HX4 HC4 hil (HIN.out _ hil)
      obtain ⟨d1, d10, d11, u1, t10, t11, t12, t13⟩ := tile_at HX4 HC4 i1 (HIN.out _ i1)
      obtain ⟨d2, d20, d21, u2', t20, t21, t22, t23⟩ := tile_at HX4 HC4 i2 (HIN.out _ i2)
      have HJ := Lib.hid (show joinAt ts cells P H r i = ((!(decide (i % P + 1 < P) || r) || decide ((tileAt ts cells i).E = (tileAt ts cells (i / P * P + (i % P + 1) % P)).W)) && (!(decide (i / P + 1 < H) || r) || decide ((tileAt ts cells i).N = (tileAt ts cells ((i / P + 1) % H * P + i % P)).S))) from rfl)
      clear HX4 HC4 t10 t11 t12 t20 t21 t23 t02 t03
      generalize tileAt ts cells (i / P * P + (i % P + 1) % P) = A1 at *
      generalize tileAt ts cells ((i / P + 1) % H * P + i % P) = A2 at *
      generalize tileAt ts cells i = A0 at *
      have r1 : (i : Int) % (P : Int) = ((i % P : Nat) : Int) := by simp
      have r2 : (i : Int) / (P : Int) = ((i / P : Nat) : Int) := by simp
      have e1 : IntKind.i64.wrap (((i / P : Nat) : Int) * (P : Int)) = ((i / P * P : Nat) : Int) := by
        rw [Int.natCast_mul]; exact IntWalk.i64_in _ (by rw [← Int.natCast_mul]; omega)
      have e2 : (((i % P : Nat) : Int) + 1) % (P : Int) = (((i % P + 1) % P : Nat) : Int) := by simp
      have e3 : (((i / P : Nat) : Int) + 1) % (H : Int) = (((i / P + 1) % H : Nat) : Int) := by simp
      have e4 : IntKind.i64.wrap ((((i / P + 1) % H : Nat) : Int) * (P : Int)) = (((i / P + 1) % H * P : Nat) : Int) := by
        rw [Int.natCast_mul]; exact IntWalk.i64_in _ (by rw [← Int.natCast_mul]; omega)
      generalize i / P * P = n0 at *
      generalize (i % P + 1) % P = q1 at *
      generalize (i / P + 1) % H * P = n2 at *
      generalize (i / P + 1) % H = q2 at *
      generalize i % P = x at *
      generalize i / P = y at *
      have lB : B < wr.heap.size := Nat.lt_of_lt_of_le bl HK.out.size
      have HF : Hid (∀ w', Kept wr w' → w'.cell? ⟨B, 0, none⟩ = some (.int .i64 P) ∧ w'.cell? ⟨B, 1, none⟩ = some (.int .i64 H) ∧ w'.cell? ⟨B, 2, none⟩ = some (.slice (some ⟨bc, oc, none⟩) cells.length cc) ∧
          w'.cell? ⟨bt, ot + d0.toNat * 4 + 1, none⟩ = some (.int .i64 A0.E) ∧ w'.cell? ⟨bt, ot + d0.toNat * 4, none⟩ = some (.int .i64 A0.N) ∧ w'.cell? ⟨bc, oc + (n0 + q1), none⟩ = some (.int .i64 d1) ∧ w'.cell? ⟨bc, oc + (n2 + x), none⟩ = some (.int .i64 d2) ∧
          w'.cell? ⟨bt, ot + d1.toNat * 4 + 3, none⟩ = some (.int .i64 A1.W) ∧ w'.cell? ⟨bt, ot + d2.toNat * 4 + 2, none⟩ = some (.int .i64 A2.S)) := fun w' hk =>
        ⟨(hk.cell (p := ⟨B, 0, none⟩) lB).trans b0, (hk.cell (p := ⟨B, 1, none⟩) lB).trans b1, (hk.cell (p := ⟨B, 2, none⟩) lB).trans b2, (hk.cell (p := ⟨bt, ot + d0.toNat * 4 + 1, none⟩) hbt).trans t01, (hk.cell (p := ⟨bt, ot + d0.toNat * 4, none⟩) hbt).trans t00,
          (hk.cell (p := ⟨bc, oc + (n0 + q1), none⟩) hbc).trans u1, (hk.cell (p := ⟨bc, oc + (n2 + x), none⟩) hbc).trans u2', (hk.cell (p := ⟨bt, ot + d1.toNat * 4 + 3, none⟩) hbt).trans t13, (hk.cell (p := ⟨bt, ot + d2.toNat * 4 + 2, none⟩) hbt).trans t22⟩
      go_upto_region 4 with (fail)
      go_cut [9, 10] (fun s9 s10 wq => s9 = .int .i64 x ∧ s10 = .int .i64 y ∧ Aside (Kept wr wq))
      case first =>
        go_quiet (fail)
        go_wp2_with (fail)
        go_meet
        exact ⟨by rw [r1], by first | rfl | rw [r2], Kept.drewN _ _⟩
      case rest =>
      obtain ⟨rfl, rfl, HK4⟩ := hcut
      obtain ⟨k1, hk1⟩ : ∃ k, (decide (x + 1 < P) || r) = k := ⟨_, rfl⟩
      obtain ⟨k2, hk2⟩ : ∃ k, (decide (y + 1 < H) || r) = k := ⟨_, rfl⟩
      rw [hk1, hk2] at HJ
      have K1 := Lib.hid hk1
      have K2 := Lib.hid hk2
      clear hk1 hk2 r1 r2
      obtain ⟨b0, b1, b2, v1, v0, w1', w2', z1, z2⟩ := HF.out wc HK4.out
      go_upto_region 5 with (fail)
      go_cut [34] (fun s wq => s = .bool k1 ∧ wc = wq)
      case first =>
        by_cases hx1 : x + 1 < P
        · go_wp2_with (fail)
          go_meet
          exact ⟨by rw [← K1.out]; first | (simp [hx1]; done) | (simp [hx1]; omega), rfl⟩
        · cases r with
          | true =>
            go_wp2_with (fail)
            go_meet
            exact ⟨by rw [← K1.out]; first | (simp [hx1]; done) | (simp [hx1]; omega), rfl⟩
          | false =>
            go_wp2_with (fail)
            go_meet
            exact ⟨by rw [← K1.out]; first | (simp [hx1]; done) | (simp [hx1]; omega), rfl⟩
      case rest =>
      obtain ⟨rfl, rfl⟩ := hcut
      go_upto_if 34 with (fail)
      go_cut [35] (fun _ wq => Aside (Kept wr wq) ∧ (!k1 || decide (A0.E = A1.W)) = true)
      case first =>
        cases k1 with
        | false =>
          go_wp2_with (fail)
          go_meet
          exact ⟨HK4.out, rfl⟩
        | true =>
          by_cases he : A0.E = A1.W
          · have t : (A0.E != A1.W) = false := by simpa using he
            have HE := Lib.hid he
            clear he
            go_upto_region 6 with (fail)
            go_quiet (fail)
            go_wp2_with (fail)
            go_meet
            exact ⟨Kept.trans HK4.out (Kept.drewN _ _), by simpa using HE.out⟩
          · have t : (A0.E != A1.W) = true := by simpa using he
            have HJN := Lib.hid (joinsB_no hil (show joinAt ts cells P H r i = false by rw [HJ.out]; simp [he]))
            clear he
            go_upto_region 6 with (fail)
            go_quiet (fail)
            go_wp2_with (fail)
            go_ret
            refine ⟨?_, HKx.out.trans (HK.out.trans (Kept.trans HK4.out (Kept.drewN _ _)))⟩
            rw [HJN.out]
            rfl
      case rest =>
      obtain ⟨HK8, hyk1⟩ := hcut
      have HYk1 := Lib.hid hyk1
      clear hyk1 b0 b1 b2 v1 v0 w1' w2' z1 z2
      obtain ⟨b0, b1, b2, v1, v0, w1', w2', z1, z2⟩ := HF.out wc HK8.out
      go_upto_region 8 with (fail)
      go_cut [66] (fun s wq => s = .bool k2 ∧ wc = wq)
      case first =>
        by_cases hx1 : y + 1 < H
        · go_wp2_with (fail)
          go_meet
          exact ⟨by rw [← K2.out]; first | (simp [hx1]; done) | (simp [hx1]; omega), rfl⟩
        · cases r with
          | true =>
            go_wp2_with (fail)
            go_meet
            exact ⟨by rw [← K2.out]; first | (simp [hx1]; done) | (simp [hx1]; omega), rfl⟩
          | false =>
            go_wp2_with (fail)
            go_meet
            exact ⟨by rw [← K2.out]; first | (simp [hx1]; done) | (simp [hx1]; omega), rfl⟩
      case rest =>
      obtain ⟨rfl, rfl⟩ := hcut
      go_upto_if 66 with (fail)
      cases k2 with
      | false =>
        go_wp2_with (fail)
        go_roundg (cells.length - (i + 1))
        case measure => omega
        case rel =>
          refine ⟨i + 1, by omega, by omega, by go_num, HK.out.trans HK8.out, (show Aside _ from fun j hj => ?_)⟩
          by_cases e : j = i
          · subst e; rw [HJ.out, HYk1.out]; rfl
          · exact HA.out j (by omega)
      | true =>
        by_cases he : A0.N = A2.S
        · have t : (A0.N != A2.S) = false := by simpa using he
          have HE := Lib.hid he
          clear he
          go_upto_region 9 with (fail)
          go_quiet (fail)
          go_wp2_with (fail)
          go_roundg (cells.length - (i + 1))
          case measure => omega
          case rel =>
            refine ⟨i + 1, by omega, by omega, by go_num, HK.out.trans (Kept.trans HK8.out (Kept.drewN _ _)), (show Aside _ from fun j hj => ?_)⟩
            by_cases e : j = i
            · subst e; rw [HJ.out, HYk1.out]; simpa using HE.out
            · exact HA.out j (by omega)
        · have t : (A0.N != A2.S) = true := by simpa using he
          have HJN := Lib.hid (joinsB_no hil (show joinAt ts cells P H r i = false by rw [HJ.out]; simp [he]))
          clear he
          go_upto_region 9 with (fail)
          go_quiet (fail)
          go_wp2_with (fail)
          go_ret
          refine ⟨?_, HKx.out.trans (HK.out.trans (Kept.trans HK8.out (Kept.drewN _ _)))⟩
          rw [HJN.out]
          rfl
    · obtain rfl : i = cells.length := by omega
      have HY := Lib.hid (joinsB_yes HA.out)
      go_wp2_with (fail)
      go_ret
      refine ⟨?_, HKx.out.trans HK.out⟩
      rw [HY.out]
      rfl
end Go.Proofs.YtlcbgcieedbggaaDoor
namespace Go.Proofs.YtlcbgcieedbggaaDoor
open Go Go.RowKit

theorem tileOf_b (ts : List Tile) (pw ph : Int) (cells : List Int) (q : Bool) (hq : ofB ts pw ph cells = q) (a ac : Option Addr) (cap cc : Nat) (w : World) (hx : SlA w 4 encT a ts) (hc : SlA w 1 encI ac cells) (hw0 : -9223372036854775808 ≤ pw ∧ pw ≤ 9223372036854775807) (hh0 : -9223372036854775808 ≤ ph ∧ ph ≤ 9223372036854775807) :
    Calls Tryd.prog 86 #[.slice a ts.length cap, .agg #[.int .i64 pw, .int .i64 ph, .slice ac cells.length cc]] w fun e w' => e = .returned (.bool q) ∧ Kept w w' := by
  subst hq; exact tileOf ts pw ph cells a ac cap cc w hx hc hw0 hh0
/-- A pattern fits, or goes round. -/
def fitsB (ts : List Tile) (pw ph : Int) (cells : List Int) (r : Bool) : Bool := ofB ts pw ph cells && joinsB ts cells pw.toNat ph.toNat r
theorem joins_b (ts : List Tile) (pw ph : Int) (cells : List Int) (r : Bool) (hof : ofB ts pw ph cells = true) (q : Bool) (hq : joinsB ts cells pw.toNat ph.toNat r = q) (a ac : Option Addr) (cap cc : Nat) (w : World) (hx : SlA w 4 encT a ts) (hc : SlA w 1 encI ac cells) :
    Calls Tryd.prog 87 #[.slice a ts.length cap, .agg #[.int .i64 pw, .int .i64 ph, .slice ac cells.length cc], .bool r] w fun e w' => e = .returned (.bool q) ∧ Kept w w' := by
  subst hq
  simp only [ofB, Bool.and_eq_true, formB, decide_eq_true_eq] at hof
  obtain ⟨⟨_, h1, h2, h3, h4, h5, h6⟩, h7⟩ := hof
  obtain ⟨P, rfl⟩ := Int.eq_ofNat_of_zero_le (show 0 ≤ pw by omega)
  obtain ⟨H, rfl⟩ := Int.eq_ofNat_of_zero_le (show 0 ≤ ph by omega)
  rw [← Int.natCast_mul] at h5 h6
  have h7' : cells.any (badCell ts.length) = false := by simpa using h7
  rw [List.any_eq_false] at h7'
  have hin : ∀ i, i < cells.length → 0 ≤ cells[i]?.getD 0 ∧ cells[i]?.getD 0 < ts.length := by
    intro i hi
    have h8 := h7' _ (List.getElem_mem hi)
    have h9 : cells[i]?.getD 0 = cells[i] := by simp [hi]
    rw [h9]
    simp [badCell] at h8
    omega
  have hj := joins ts P H cells r a ac cap cc w hx hc (by omega) (by omega) (by omega) (by omega) (by omega) (by omega) hin
  simpa using hj

set_option maxHeartbeats 4000000 in
theorem repeats (ts : List Tile) (pw ph : Int) (cells : List Int) (a ac : Option Addr) (cap cc : Nat) (w : World) (hx : SlA w 4 encT a ts) (hc : SlA w 1 encI ac cells) (hw0 : -9223372036854775808 ≤ pw ∧ pw ≤ 9223372036854775807) (hh0 : -9223372036854775808 ≤ ph ∧ ph ≤ 9223372036854775807) :
    Calls Tryd.prog 52 #[.slice a ts.length cap, .agg #[.int .i64 pw, .int .i64 ph, .slice ac cells.length cc]] w fun e w' => e = .returned (.bool (fitsB ts pw ph cells true)) ∧ Kept w w' := by
  have HOB : fitsB ts pw ph cells true = (ofB ts pw ph cells && joinsB ts cells pw.toNat ph.toNat true) := rfl
  have hk : Kept w (w.alloc (.cells #[.int .i64 pw, .int .i64 ph, .slice ac cells.length cc] 31)) := (Kept.refl w).alloc (Nat.le_refl _) _
  have p0 : (w.alloc (.cells #[.int .i64 pw, .int .i64 ph, .slice ac cells.length cc] 31)).cell? ⟨w.heap.size, 0, none⟩ = some (.int .i64 pw) := by simp
  have p1 : (w.alloc (.cells #[.int .i64 pw, .int .i64 ph, .slice ac cells.length cc] 31)).cell? ⟨w.heap.size, 1, none⟩ = some (.int .i64 ph) := by simp
  have p2 : (w.alloc (.cells #[.int .i64 pw, .int .i64 ph, .slice ac cells.length cc] 31)).cell? ⟨w.heap.size, 2, none⟩ = some (.slice ac cells.length cc) := by simp
  have ll : w.heap.size < (w.alloc (.cells #[.int .i64 pw, .int .i64 ph, .slice ac cells.length cc] 31)).heap.size := by simp
  have HI := Lib.hid (And.intro hk (And.intro p0 (And.intro p1 (And.intro p2 ll))))
  have HX := Lib.hid (hx.kept hk)
  have HC := Lib.hid (hc.kept hk)
  have HW := Lib.hid (And.intro hw0 hh0)
  obtain ⟨q1, h1⟩ : ∃ q, ofB ts pw ph cells = q := ⟨_, rfl⟩
  obtain ⟨q2, h2⟩ : ∃ q, joinsB ts cells pw.toNat ph.toNat true = q := ⟨_, rfl⟩
  rw [h1, h2] at HOB
  have HO := Lib.hid HOB
  have H1 := Lib.hid h1
  have H2 := Lib.hid h2
  clear HOB h1 h2 hk p0 p1 p2 ll hx hc hw0 hh0
  go_enter Tryd.func52, Tryd.ntmps52
  go_upto_region 1 with (fail)
  generalize w.alloc (.cells #[.int .i64 pw, .int .i64 ph, .slice ac cells.length cc] 31) = wx at HI HX HC ⊢
  obtain ⟨Bp, hBp⟩ : ∃ Bp, w.heap.size = Bp := ⟨_, rfl⟩
  rw [hBp] at HI ⊢
  clear hBp
  obtain ⟨hk, p0, p1, p2, ll⟩ := HI.out
  cases q1 with
  | false =>
    go_wp2_with (go_at_call 86; go_must (refine (tileOf_b ts pw ph cells false H1.out a ac cap cc _ HX.out HC.out HW.out.1 HW.out.2).mono ?_); rintro e w1 ⟨rfl, k1⟩)
    go_ret
    refine ⟨?_, hk.trans k1⟩
    rw [HO.out]
    rfl
  | true =>
    go_wp2_with (first
      | (go_at_call 86; go_must (refine (tileOf_b ts pw ph cells true H1.out a ac cap cc _ HX.out HC.out HW.out.1 HW.out.2).mono ?_); rintro e w1 ⟨rfl, k1⟩; have p0 := (k1.cell (p := ⟨Bp, 0, none⟩) ll).trans p0; have p1 := (k1.cell (p := ⟨Bp, 1, none⟩) ll).trans p1; have p2 := (k1.cell (p := ⟨Bp, 2, none⟩) ll).trans p2)
      | (go_at_call 87; go_must (refine (joins_b ts pw ph cells true H1.out q2 H2.out a ac cap cc _ (HX.out.kept k1) (HC.out.kept k1)).mono ?_); rintro e w2 ⟨rfl, k2⟩))
    go_ret
    refine ⟨?_, hk.trans (k1.trans k2)⟩
    rw [HO.out]
    first | rfl | (cases q2 <;> rfl)

set_option maxHeartbeats 4000000 in
theorem fits (ts : List Tile) (pw ph : Int) (cells : List Int) (a ac : Option Addr) (cap cc : Nat) (w : World) (hx : SlA w 4 encT a ts) (hc : SlA w 1 encI ac cells) (hw0 : -9223372036854775808 ≤ pw ∧ pw ≤ 9223372036854775807) (hh0 : -9223372036854775808 ≤ ph ∧ ph ≤ 9223372036854775807) :
    Calls Tryd.prog 55 #[.slice a ts.length cap, .agg #[.int .i64 pw, .int .i64 ph, .slice ac cells.length cc]] w fun e w' => e = .returned (.bool (fitsB ts pw ph cells false)) ∧ Kept w w' := by
  have HOB : fitsB ts pw ph cells false = (ofB ts pw ph cells && joinsB ts cells pw.toNat ph.toNat false) := rfl
  have hk : Kept w (w.alloc (.cells #[.int .i64 pw, .int .i64 ph, .slice ac cells.length cc] 31)) := (Kept.refl w).alloc (Nat.le_refl _) _
  have p0 : (w.alloc (.cells #[.int .i64 pw, .int .i64 ph, .slice ac cells.length cc] 31)).cell? ⟨w.heap.size, 0, none⟩ = some (.int .i64 pw) := by simp
  have p1 : (w.alloc (.cells #[.int .i64 pw, .int .i64 ph, .slice ac cells.length cc] 31)).cell? ⟨w.heap.size, 1, none⟩ = some (.int .i64 ph) := by simp
  have p2 : (w.alloc (.cells #[.int .i64 pw, .int .i64 ph, .slice ac cells.length cc] 31)).cell? ⟨w.heap.size, 2, none⟩ = some (.slice ac cells.length cc) := by simp
  have ll : w.heap.size < (w.alloc (.cells #[.int .i64 pw, .int .i64 ph, .slice ac cells.length cc] 31)).heap.size := by simp
  have HI := Lib.hid (And.intro hk (And.intro p0 (And.intro p1 (And.intro p2 ll))))
  have HX := Lib.hid (hx.kept hk)
  have HC := Lib.hid (hc.kept hk)
  have HW := Lib.hid (And.intro hw0 hh0)
  obtain ⟨q1, h1⟩ : ∃ q, ofB ts pw ph cells = q := ⟨_, rfl⟩
  obtain ⟨q2, h2⟩ : ∃ q, joinsB ts cells pw.toNat ph.toNat false = q := ⟨_, rfl⟩
  rw [h1, h2] at HOB
  have HO := Lib.hid HOB
  have H1 := Lib.hid h1
  have H2 := Lib.hid h2
  clear HOB h1 h2 hk p0 p1 p2 ll hx hc hw0 hh0
  go_enter Tryd.func55, Tryd.ntmps55
  go_upto_region 1 with (fail)
  generalize w.alloc (.cells #[.int .i64 pw, .int .i64 ph, .slice ac cells.length cc] 31) = wx at HI HX HC ⊢
  obtain ⟨Bp, hBp⟩ : ∃ Bp, w.heap.size = Bp := ⟨_, rfl⟩
  rw [hBp] at HI ⊢
  clear hBp
  obtain ⟨hk, p0, p1, p2, ll⟩ := HI.out
  cases q1 with
  | false =>
    go_wp2_with (go_at_call 86; go_must (refine (tileOf_b ts pw ph cells false H1.out a ac cap cc _ HX.out HC.out HW.out.1 HW.out.2).mono ?_); rintro e w1 ⟨rfl, k1⟩)
    go_ret
    refine ⟨?_, hk.trans k1⟩
    rw [HO.out]
    rfl
  | true =>
    go_wp2_with (first
      | (go_at_call 86; go_must (refine (tileOf_b ts pw ph cells true H1.out a ac cap cc _ HX.out HC.out HW.out.1 HW.out.2).mono ?_); rintro e w1 ⟨rfl, k1⟩; have p0 := (k1.cell (p := ⟨Bp, 0, none⟩) ll).trans p0; have p1 := (k1.cell (p := ⟨Bp, 1, none⟩) ll).trans p1; have p2 := (k1.cell (p := ⟨Bp, 2, none⟩) ll).trans p2)
      | (go_at_call 87; go_must (refine (joins_b ts pw ph cells false H1.out q2 H2.out a ac cap cc _ (HX.out.kept k1) (HC.out.kept k1)).mono ?_); rintro e w2 ⟨rfl, k2⟩))
    go_ret
    refine ⟨?_, hk.trans (k1.trans k2)⟩
    rw [HO.out]
    first | rfl | (cases q2 <;> rfl)
end Go.Proofs.YtlcbgcieedbggaaDoor
namespace Go.Proofs.YtlcbgcieedbggaaDoor
open Go Go.RowKit

def chessTs : List Tile := [⟨0, 1, 1, 0⟩, ⟨1, 0, 0, 1⟩]
theorem chess (w : World) : Calls Tryd.prog 53 #[] w fun e w' => e = .returned (.slice (some ⟨w.heap.size, 0, none⟩) 2 2) ∧ SlA w' 4 encT (some ⟨w.heap.size, 0, none⟩) chessTs ∧ Kept w w' := by
  go_enter Tryd.func53, Tryd.ntmps53
  go_wp2_with (fail)
  go_ret
  refine ⟨rfl, ⟨by simp [chessTs], .inr ⟨w.heap.size, 0, rfl, by simp, ?_⟩⟩, (Kept.refl w).alloc (Nat.le_refl _) _⟩
  intro j hj i v hv
  have hi : i < 4 := by
    refine Nat.not_le.1 fun h => ?_
    rw [List.getElem?_eq_none (by rw [encT_length]; exact h)] at hv
    cases hv
  rcases (show j = 0 ∨ j = 1 by simp [chessTs] at hj; omega) with rfl | rfl
  · rcases (show i = 0 ∨ i = 1 ∨ i = 2 ∨ i = 3 by omega) with rfl | rfl | rfl | rfl <;> (simp [chessTs, encT] at hv; subst hv; simp)
  · rcases (show i = 0 ∨ i = 1 ∨ i = 2 ∨ i = 3 by omega) with rfl | rfl | rfl | rfl <;> (simp [chessTs, encT] at hv; subst hv; simp)

theorem one (n : Int) (w : World) : Calls Tryd.prog 29 #[.int .i64 n] w fun e w' => e = .returned (.agg #[.int .i64 n, .int .i64 1]) ∧ Kept w w' := by
  go_enter Tryd.func29, Tryd.ntmps29
  go_wp2_with (fail)
  refine bodyPost_ret (v := .agg #[.int .i64 n, .int .i64 1]) (by simp [results, Tryd.results29, go_sem]) rfl ⟨rfl, ?_⟩
  first
    | exact (Kept.refl w).alloc (Nat.le_refl _) _
    | exact (((Kept.refl w).alloc (Nat.le_refl _) _).setCell (by simp) _).setCell (by simp) _
end Go.Proofs.YtlcbgcieedbggaaDoor
