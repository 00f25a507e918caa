/- Texts of this claim, one behind the other: Lva, Lives. -/
import Derived.Test.YtlcbgcieedbggaaDoorMn12
import Derived.Test.YtlcbgcieedbggaaDoorMn13
import Derived.Test.YtlcbgcieedbggaaDoorMn14
import Derived.Test.YtlcbgcieedbggaaDoorMn15
set_option linter.unusedVariables false
set_option linter.unusedSimpArgs false
namespace Go.Proofs.YtlcbgcieedbggaaDoor
open Go Go.RowKit Go.Proofs.YtlcbgcieedbggaaDoorW.PrintWords Go.Proofs.YtlcbgcieedbggaaDoorW.PrintLast Go.Proofs.YtlcbgcieedbggaaDoorW.PrintMore

theorem ints_back {w : World} {A : Option Addr} {xs : List Int} (h : SlA w 1 encI A xs) : (Kd.int .i64).C w A xs.length xs := by
  refine ⟨rfl, by have := h.len; omega, fun hn => ?_⟩
  obtain ⟨b, off, rfl, hb, hc⟩ := h.get hn
  refine ⟨_, rfl, fun j p hj => ⟨[.int .i64 p], rfl, rfl, fun i u hu => ?_⟩⟩
  have hjl : j < xs.length := (List.getElem?_eq_some_iff.1 hj).1
  have hp : xs[j] = p := (List.getElem?_eq_some_iff.1 hj).2
  cases i with
  | zero =>
    have h1 := hc j hjl 0 (.int .i64 p) (by rw [hp]; rfl)
    have ha : (⟨b, off, none⟩ : Addr).add (j * (Kd.int .i64).sz + 0) = ⟨b, off + j * 1 + 0, none⟩ := by unfold Addr.add; split <;> simp [Kd.int, Kd.scalar] at * <;> omega
    simp at hu
    subst hu
    rw [ha]
    exact h1
  | succ i => simp at hu

/-- What Repeat of the chessboard's pattern to 3 and 1 gives. -/
def RepPost (w : World) (e : Ending) (w' : World) : Prop := ∃ (a : Option Addr) (c : Nat), e = .returned (.tuple #[.agg #[.int .i64 3, .int .i64 1, .slice a 3 c], .int .i64 0]) ∧ SlA w' 1 encI a [0, 1, 0] ∧ Kept w w'
theorem rep_pure : Pr.tile_Repeat.f 20 2 2 [0, 1, 1, 0] 3 1 = some (3, 1, [0, 1, 0], 0) := by kernel_rfl
theorem rep3 (a : Option Addr) (c : Nat) (hc : 4 ≤ c) (w : World) (h : SlA w 1 encI a [0, 1, 1, 0]) : Calls Tryd.prog 51 #[.agg #[.int .i64 2, .int .i64 2, .slice a 4 c], .int .i64 3, .int .i64 1] w (RepPost w) := by
  refine (Pr.tile_Repeat.calls 20 2 2 a c [0, 1, 1, 0] 3 1 3 1 [0, 1, 0] 0 w (ints_back h) hc rep_pure).mono ?_
  rintro e w' ⟨v, rfl, hR, hb⟩
  obtain ⟨A, c', rfl, _, hC⟩ := Kd.R_reads hR
  exact ⟨A, c', rfl, Pr.ints_of hC (by simp), hb⟩

end Go.Proofs.YtlcbgcieedbggaaDoor
namespace Go.Proofs.YtlcbgcieedbggaaDoor
open Go Go.RowKit

theorem repeats_b (ts : List Tile) (pw ph : Int) (cells : List Int) (q : Bool) (hq : fitsB ts pw ph cells true = q) (a ac : Option Addr) (cap cc : Nat) (w : World) (hx : SlA w 4 encT a ts) (hc : SlA w 1 encI ac cells) (hw0 : -9223372036854775808 ≤ pw ∧ pw ≤ 9223372036854775807) (hh0 : -9223372036854775808 ≤ ph ∧ ph ≤ 9223372036854775807) :
    Calls Tryd.prog 52 #[.slice a ts.length cap, .agg #[.int .i64 pw, .int .i64 ph, .slice ac cells.length cc]] w fun e w' => e = .returned (.bool q) ∧ Kept w w' := by
  subst hq; exact repeats ts pw ph cells a ac cap cc w hx hc hw0 hh0
theorem fits_b (ts : List Tile) (pw ph : Int) (cells : List Int) (q : Bool) (hq : fitsB ts pw ph cells false = q) (a ac : Option Addr) (cap cc : Nat) (w : World) (hx : SlA w 4 encT a ts) (hc : SlA w 1 encI ac cells) (hw0 : -9223372036854775808 ≤ pw ∧ pw ≤ 9223372036854775807) (hh0 : -9223372036854775808 ≤ ph ∧ ph ≤ 9223372036854775807) :
    Calls Tryd.prog 55 #[.slice a ts.length cap, .agg #[.int .i64 pw, .int .i64 ph, .slice ac cells.length cc]] w fun e w' => e = .returned (.bool q) ∧ Kept w w' := by
  subst hq; exact fits ts pw ph cells a ac cap cc w hx hc hw0 hh0
theorem sameInts_b (xs ys : List Int) (q : Bool) (hq : decide (xs = ys) = q) (a b : Option Addr) (ca cb : Nat) (w : World) (hx : SlA w 1 encI a xs) (hy : SlA w 1 encI b ys) :
    Calls Tryd.prog 54 #[.slice a xs.length ca, .slice b ys.length cb] w fun e w' => e = .returned (.bool q) ∧ Kept w w' := by
  subst hq; exact sameInts xs ys a b ca cb w hx hy

def livesV (a1 a2 : Option Addr) (c1 c2 b2 : Nat) (k : Nat) (w' : World) (v : Value) : Prop :=
  match k with
  | 0 => ∃ b, v = .slice (some ⟨b, 0, none⟩) 2 2 ∧ SlA w' 4 encT (some ⟨b, 0, none⟩) chessTs
  | 1 => v = .agg #[.int .i64 2, .int .i64 2, .slice a1 4 c1]
  | 2 => v = .bool true
  | 3 => v = .bool true
  | 4 => ∃ b, v = .slice (some ⟨b, 0, none⟩) 2 2 ∧ SlA w' 4 encT (some ⟨b, 0, none⟩) chessTs
  | 5 => ∃ b, v = .slice (some ⟨b, 0, none⟩) 1 1 ∧ SlA w' 1 encI (some ⟨b, 0, none⟩) [0]
  | 6 => ∃ b, v = .agg #[.int .i64 1, .int .i64 1, .slice (some ⟨b, 0, none⟩) 1 1] ∧ SlA w' 1 encI (some ⟨b, 0, none⟩) [0]
  | 7 => v = .bool false
  | 8 => v = .bool true
  | 9 => v = .bool true
  | 10 => v = .bool true
  | 11 => v = .int .i64 0
  | 12 => v = .bool true
  | 13 => v = .bool true
  | 14 => v = .bool true
  | 15 => v = .pointer (some ⟨b2, 2, none⟩)
  | 16 => v = .slice a2 3 c2
  | 17 => ∃ b, v = .slice (some ⟨b, 0, none⟩) 3 3 ∧ SlA w' 1 encI (some ⟨b, 0, none⟩) [0, 1, 0]
  | 18 => v = .bool true
  | 19 => v = .bool true
  | 20 => v = .bool true
  | 21 => ∃ b, v = .slice (some ⟨b, 0, none⟩) 2 2 ∧ SlA w' 4 encT (some ⟨b, 0, none⟩) chessTs
  | 22 => v = .agg #[.int .i64 3, .int .i64 1, .slice a2 3 c2]
  | 23 => v = .bool true
  | 24 => v = .bool true
  | 25 => v = .bool true
  | _ => True

theorem livesV_mono (a1 a2 : Option Addr) (c1 c2 b2 : Nat) : ∀ j w w' v, livesV a1 a2 c1 c2 b2 j w v → Kept w w' → livesV a1 a2 c1 c2 b2 j w' v := by
  intro j w w' v h hk
  unfold livesV at *
  split at h <;> first
    | exact h
    | (obtain ⟨b, h1, h2⟩ := h; exact ⟨b, h1, SlA.kept h2 hk⟩)

/-- Both patterns, in their boxes. -/
def LBox (a1 a2 : Option Addr) (c1 c2 b1 b2 : Nat) (w : World) : Prop :=
  SlA w 1 encI a1 [0, 1, 1, 0] ∧ SlA w 1 encI a2 [0, 1, 0] ∧ (w.cell? ⟨b1, 0, none⟩ = some (.int .i64 2) ∧ w.cell? ⟨b1, 1, none⟩ = some (.int .i64 2) ∧ w.cell? ⟨b1, 2, none⟩ = some (.slice a1 4 c1)) ∧
    (w.cell? ⟨b2, 0, none⟩ = some (.int .i64 3) ∧ w.cell? ⟨b2, 1, none⟩ = some (.int .i64 1) ∧ w.cell? ⟨b2, 2, none⟩ = some (.slice a2 3 c2))
theorem LBox.kept {a1 a2 : Option Addr} {c1 c2 b1 b2 : Nat} {w w' : World} (h : LBox a1 a2 c1 c2 b1 b2 w) (hk : Kept w w') : LBox a1 a2 c1 c2 b1 b2 w' := by
  obtain ⟨h1, h2, ⟨p0, p1, p2⟩, q0, q1, q2⟩ := h
  have k : ∀ (b o : Nat) (v : Value), w.cell? ⟨b, o, none⟩ = some v → w'.cell? ⟨b, o, none⟩ = some v := fun b o v hc => (hk.cell (World.block_lt_of_cell? w _ hc)).trans hc
  exact ⟨h1.kept hk, h2.kept hk, ⟨k _ _ _ p0, k _ _ _ p1, k _ _ _ p2⟩, k _ _ _ q0, k _ _ _ q1, k _ _ _ q2⟩

set_option maxHeartbeats 4000000 in
set_option maxRecDepth 100000 in
theorem lives (w : World) : Calls Tryd.prog 30 #[] w fun e w' => e = .returned (.bool true) ∧ Kept w w' := by
  have hk1 : Kept w ((w.alloc (.cells #[.int .i64 0, .int .i64 1, .int .i64 1, .int .i64 0] 3)).alloc (.cells #[.int .i64 2, .int .i64 2, .slice (some ⟨w.heap.size, 0, none⟩) 4 4] 31)) := ((Kept.refl w).alloc (Nat.le_refl _) _).alloc (by simp) _
  have hp : SlA ((w.alloc (.cells #[.int .i64 0, .int .i64 1, .int .i64 1, .int .i64 0] 3)).alloc (.cells #[.int .i64 2, .int .i64 2, .slice (some ⟨w.heap.size, 0, none⟩) 4 4] 31)) 1 encI (some ⟨w.heap.size, 0, none⟩) [0, 1, 1, 0] :=
    (SlA.intsNew w _ [0, 1, 1, 0] (by simp)).kept ((Kept.refl _).alloc (Nat.le_refl _) _)
  have p0 : ((w.alloc (.cells #[.int .i64 0, .int .i64 1, .int .i64 1, .int .i64 0] 3)).alloc (.cells #[.int .i64 2, .int .i64 2, .slice (some ⟨w.heap.size, 0, none⟩) 4 4] 31)).cell? ⟨w.heap.size + 1, 0, none⟩ = some (.int .i64 2) := by simp
  have p1 : ((w.alloc (.cells #[.int .i64 0, .int .i64 1, .int .i64 1, .int .i64 0] 3)).alloc (.cells #[.int .i64 2, .int .i64 2, .slice (some ⟨w.heap.size, 0, none⟩) 4 4] 31)).cell? ⟨w.heap.size + 1, 1, none⟩ = some (.int .i64 2) := by simp
  have p2 : ((w.alloc (.cells #[.int .i64 0, .int .i64 1, .int .i64 1, .int .i64 0] 3)).alloc (.cells #[.int .i64 2, .int .i64 2, .slice (some ⟨w.heap.size, 0, none⟩) 4 4] 31)).cell? ⟨w.heap.size + 1, 2, none⟩ = some (.slice (some ⟨w.heap.size, 0, none⟩) 4 4) := by simp
  have H := Lib.hid (And.intro hk1 (And.intro hp (And.intro p0 (And.intro p1 p2))))
  clear hk1 hp p0 p1 p2
  go_enter Tryd.func30, Tryd.ntmps30
  go_upto_region 2 with (fail)
  generalize ((w.alloc (.cells #[.int .i64 0, .int .i64 1, .int .i64 1, .int .i64 0] 3)).alloc (.cells #[.int .i64 2, .int .i64 2, .slice (some ⟨w.heap.size, 0, none⟩) 4 4] 31)) = w1 at H ⊢
  obtain ⟨a1, ha1⟩ : ∃ a1 : Option Addr, a1 = some ⟨w.heap.size, 0, none⟩ := ⟨_, rfl⟩
  rw [← ha1] at H ⊢
  clear ha1
  obtain ⟨b1, hb1⟩ : ∃ b1 : Nat, b1 = w.heap.size + 1 := ⟨_, rfl⟩
  rw [← hb1] at H ⊢
  clear hb1
  obtain ⟨hk1, hp, p0, p1, p2⟩ := H.out
  go_upto_region 3 with (go_at_call 51; refine (rep3 _ _ (by omega) _ hp).mono ?_; rintro e w2 ⟨a2, c2, rfl, hq, hk2⟩)
  have HB0 : LBox a1 a2 4 c2 b1 w2.heap.size (w2.alloc (.cells #[.int .i64 3, .int .i64 1, .slice a2 3 c2] 31)) := by
    have hk3 : Kept w2 (w2.alloc (.cells #[.int .i64 3, .int .i64 1, .slice a2 3 c2] 31)) := (Kept.refl w2).alloc (Nat.le_refl _) _
    have k : ∀ (b o : Nat) (v : Value), w1.cell? ⟨b, o, none⟩ = some v → (w2.alloc (.cells #[.int .i64 3, .int .i64 1, .slice a2 3 c2] 31)).cell? ⟨b, o, none⟩ = some v := fun b o v hc => ((hk2.trans hk3).cell (World.block_lt_of_cell? w1 _ hc)).trans hc
    exact ⟨hp.kept (hk2.trans hk3), hq.kept hk3, ⟨k _ _ _ p0, k _ _ _ p1, k _ _ _ p2⟩, by simp, by simp, by simp⟩
  have HK0 : Kept w (w2.alloc (.cells #[.int .i64 3, .int .i64 1, .slice a2 3 c2] 31)) := hk1.trans (hk2.trans ((Kept.refl w2).alloc (Nat.le_refl _) _))
  have HBH := Lib.hid HB0
  have HKH := Lib.hid HK0
  clear HB0 HK0 H hk1 hp p0 p1 p2 hq hk2
  generalize (w2.alloc (.cells #[.int .i64 3, .int .i64 1, .slice a2 3 c2] 31)) = w3 at HBH HKH ⊢
  obtain ⟨b2, hb2⟩ : ∃ b2 : Nat, b2 = w2.heap.size := ⟨_, rfl⟩
  rw [← hb2] at HBH ⊢
  clear hb2
  go_cut [0] (fun s0 wx => s0 = .bool true ∧ Aside (Kept w3 wx))
  case first =>
    have HB : ∀ w, Kept { w3 with drawn := w3.drawn + 1 } w → LBox a1 a2 4 c2 b1 b2 w := fun w h => HBH.out.kept (Kept.trans (show Kept w3 { w3 with drawn := w3.drawn + 1 } from ⟨rfl, rfl, rfl, Nat.le_refl _, fun _ _ => rfl⟩) h)
    refine wp_region_rel (by kernel_rfl) (livesV a1 a2 4 c2 b2) (livesV_mono _ _ _ _ _) (by kernel_rfl) (by kernel_rfl) ?_ ?_
    · simp only [stepsOK, List.toList_toArray, Nat.reduceAdd]
      refine ⟨?_, ?_, ?_, ?_, ?_, ?_, ?_, ?_, ?_, ?_, ?_, ?_, ?_, ?_, ?_, ?_, ?_, ?_, ?_, ?_, ?_, ?_, ?_, ?_, ?_, ?_, trivial⟩
      · refine step_callW (wants_none rfl) fun a w hk hdep hbase => ?_
        refine ⟨_, _, w, by simp [execOp, Act.eval, go_sem] <;> first | exact ⟨rfl, rfl⟩ | rfl, Kept.refl w, (chess w).mono ?_⟩
        rintro en w' ⟨rfl, hs, hk'⟩
        exact ⟨_, rfl, hk', w.heap.size, rfl, hs⟩
      · refine step_valW (wants_none rfl) fun a w hk hdep hbase => ?_
        have h1 : a.tmps.getD 1 undef = _ := hbase 1 (by kernel_rfl)
        simp at h1
        have hc := (HB w hk).2.2.1
        exact ⟨_, by simp [execOp, Act.eval, h1, hc.1, hc.2.1, hc.2.2, go_sem], rfl⟩
      · refine step_callW (wants_none rfl) fun a w hk hdep hbase => ?_
        obtain ⟨b11_, h11, hs11⟩ : ∃ b, a.tmps.getD 11 undef = .slice (some ⟨b, 0, none⟩) 2 2 ∧ SlA w 4 encT (some ⟨b, 0, none⟩) chessTs := depAt hdep 0 (by kernel_rfl) _ _ rfl rfl
        have h12 : a.tmps.getD 12 undef = .agg #[.int .i64 2, .int .i64 2, .slice a1 4 4] := depAt hdep 1 (by kernel_rfl) _ _ rfl rfl
        simp at h11 h12
        refine ⟨_, _, w, by simp [execOp, Act.eval, h11, h12, go_sem] <;> first | exact ⟨rfl, rfl⟩ | rfl, Kept.refl w, (repeats_b chessTs 2 2 [0, 1, 1, 0] true rfl _ _ 2 4 w hs11 (HB w hk).1 (by omega) (by omega)).mono ?_⟩
        rintro en w' ⟨rfl, hk'⟩
        exact ⟨_, rfl, hk', rfl⟩
      · refine step_valW (wants_none rfl) fun a w hk hdep hbase => ?_
        have h13 : a.tmps.getD 13 undef = .bool true := depAt hdep 2 (by kernel_rfl) _ _ rfl rfl
        simp at h13
        exact ⟨_, by simp [execOp, Act.eval, h13, go_sem], rfl⟩
      · refine step_callW (wants_dep 3 14 true rfl (by kernel_rfl) rfl rfl (by kernel_rfl) (fun _ _ h => h)) fun a w hk hdep hbase => ?_
        refine ⟨_, _, w, by simp [execOp, Act.eval, go_sem] <;> first | exact ⟨rfl, rfl⟩ | rfl, Kept.refl w, (chess w).mono ?_⟩
        rintro en w' ⟨rfl, hs, hk'⟩
        exact ⟨_, rfl, hk', w.heap.size, rfl, hs⟩
      · refine step_newW (wants_dep 3 14 true rfl (by kernel_rfl) rfl rfl (by kernel_rfl) (fun _ _ h => h)) fun a w hk hdep hbase => ?_
        exact ⟨_, _, by simp [execOp, Act.eval, go_sem] <;> first | exact ⟨rfl, rfl⟩ | rfl, (Kept.refl w).alloc (Nat.le_refl _) _, w.heap.size, rfl, SlA.intsNew w _ [0] (by simp)⟩
      · refine step_valW (wants_dep 3 14 true rfl (by kernel_rfl) rfl rfl (by kernel_rfl) (fun _ _ h => h)) fun a w hk hdep hbase => ?_
        obtain ⟨b16_, h16, hs16⟩ : ∃ b, a.tmps.getD 16 undef = .slice (some ⟨b, 0, none⟩) 1 1 ∧ SlA w 1 encI (some ⟨b, 0, none⟩) [0] := depAt hdep 5 (by kernel_rfl) _ _ rfl rfl
        simp at h16
        exact ⟨_, by simp [execOp, Act.eval, h16, go_sem], _, rfl, hs16⟩
      · refine step_callW (wants_dep 3 14 true rfl (by kernel_rfl) rfl rfl (by kernel_rfl) (fun _ _ h => h)) fun a w hk hdep hbase => ?_
        obtain ⟨b15_, h15, hs15⟩ : ∃ b, a.tmps.getD 15 undef = .slice (some ⟨b, 0, none⟩) 2 2 ∧ SlA w 4 encT (some ⟨b, 0, none⟩) chessTs := depAt hdep 4 (by kernel_rfl) _ _ rfl rfl
        obtain ⟨b17_, h17, hs17⟩ : ∃ b, a.tmps.getD 17 undef = .agg #[.int .i64 1, .int .i64 1, .slice (some ⟨b, 0, none⟩) 1 1] ∧ SlA w 1 encI (some ⟨b, 0, none⟩) [0] := depAt hdep 6 (by kernel_rfl) _ _ rfl rfl
        simp at h15 h17
        refine ⟨_, _, w, by simp [execOp, Act.eval, h15, h17, go_sem] <;> first | exact ⟨rfl, rfl⟩ | rfl, Kept.refl w, (repeats_b chessTs 1 1 [0] false rfl _ _ 2 1 w hs15 hs17 (by omega) (by omega)).mono ?_⟩
        rintro en w' ⟨rfl, hk'⟩
        exact ⟨_, rfl, hk', rfl⟩
      · refine step_valW (wants_dep 3 14 true rfl (by kernel_rfl) rfl rfl (by kernel_rfl) (fun _ _ h => h)) fun a w hk hdep hbase => ?_
        have h18 : a.tmps.getD 18 undef = .bool false := depAt hdep 7 (by kernel_rfl) _ _ rfl rfl
        simp at h18
        exact ⟨_, by simp [execOp, Act.eval, h18, go_sem], rfl⟩
      · refine step_valW (wants_none rfl) fun a w hk hdep hbase => ?_
        have h14 : a.tmps.getD 14 undef = .bool true := depAt hdep 3 (by kernel_rfl) _ _ rfl rfl
        have h19 : a.tmps.getD 19 undef = .bool true := depAt hdep 8 (by kernel_rfl) _ _ rfl rfl
        simp at h14 h19
        exact ⟨_, by simp [execOp, Act.eval, h14, h19, go_sem], rfl⟩
      · refine step_valW (wants_none rfl) fun a w hk hdep hbase => ?_
        have h20 : a.tmps.getD 20 undef = .bool true := depAt hdep 9 (by kernel_rfl) _ _ rfl rfl
        simp at h20
        exact ⟨_, by simp [execOp, Act.eval, h20, go_sem], rfl⟩
      · refine step_valW (wants_dep 10 21 true rfl (by kernel_rfl) rfl rfl (by kernel_rfl) (fun _ _ h => h)) fun a w hk hdep hbase => ?_
        have h3 : a.tmps.getD 3 undef = _ := hbase 3 (by kernel_rfl)
        simp at h3
        exact ⟨_, by simp [execOp, Act.eval, h3, go_sem], rfl⟩
      · refine step_valW (wants_dep 10 21 true rfl (by kernel_rfl) rfl rfl (by kernel_rfl) (fun _ _ h => h)) fun a w hk hdep hbase => ?_
        have h22 : a.tmps.getD 22 undef = .int .i64 0 := depAt hdep 11 (by kernel_rfl) _ _ rfl rfl
        simp at h22
        exact ⟨_, by simp [execOp, Act.eval, h22, go_sem], rfl⟩
      · refine step_valW (wants_none rfl) fun a w hk hdep hbase => ?_
        have h21 : a.tmps.getD 21 undef = .bool true := depAt hdep 10 (by kernel_rfl) _ _ rfl rfl
        have h23 : a.tmps.getD 23 undef = .bool true := depAt hdep 12 (by kernel_rfl) _ _ rfl rfl
        simp at h21 h23
        exact ⟨_, by simp [execOp, Act.eval, h21, h23, go_sem], rfl⟩
      · refine step_valW (wants_none rfl) fun a w hk hdep hbase => ?_
        have h24 : a.tmps.getD 24 undef = .bool true := depAt hdep 13 (by kernel_rfl) _ _ rfl rfl
        simp at h24
        exact ⟨_, by simp [execOp, Act.eval, h24, go_sem], rfl⟩
      · refine step_valW (wants_dep 14 25 true rfl (by kernel_rfl) rfl rfl (by kernel_rfl) (fun _ _ h => h)) fun a w hk hdep hbase => ?_
        have h2 : a.tmps.getD 2 undef = _ := hbase 2 (by kernel_rfl)
        simp at h2
        exact ⟨_, by simp [execOp, Act.eval, h2, go_sem], rfl⟩
      · refine step_valW (wants_dep 14 25 true rfl (by kernel_rfl) rfl rfl (by kernel_rfl) (fun _ _ h => h)) fun a w hk hdep hbase => ?_
        have h26 : a.tmps.getD 26 undef = .pointer (some ⟨b2, 2, none⟩) := depAt hdep 15 (by kernel_rfl) _ _ rfl rfl
        simp at h26
        have hc := (HB w hk).2.2.2
        exact ⟨_, by simp [execOp, Act.eval, h26, hc.1, hc.2.1, hc.2.2, go_sem], rfl⟩
      · refine step_newW (wants_dep 14 25 true rfl (by kernel_rfl) rfl rfl (by kernel_rfl) (fun _ _ h => h)) fun a w hk hdep hbase => ?_
        exact ⟨_, _, by simp [execOp, Act.eval, go_sem] <;> first | exact ⟨rfl, rfl⟩ | rfl, (Kept.refl w).alloc (Nat.le_refl _) _, w.heap.size, rfl, SlA.intsNew w _ [0, 1, 0] (by simp)⟩
      · refine step_callW (wants_dep 14 25 true rfl (by kernel_rfl) rfl rfl (by kernel_rfl) (fun _ _ h => h)) fun a w hk hdep hbase => ?_
        have h27 : a.tmps.getD 27 undef = .slice a2 3 c2 := depAt hdep 16 (by kernel_rfl) _ _ rfl rfl
        obtain ⟨b28_, h28, hs28⟩ : ∃ b, a.tmps.getD 28 undef = .slice (some ⟨b, 0, none⟩) 3 3 ∧ SlA w 1 encI (some ⟨b, 0, none⟩) [0, 1, 0] := depAt hdep 17 (by kernel_rfl) _ _ rfl rfl
        simp at h27 h28
        refine ⟨_, _, w, by simp [execOp, Act.eval, h27, h28, go_sem] <;> first | exact ⟨rfl, rfl⟩ | rfl, Kept.refl w, (sameInts_b [0, 1, 0] [0, 1, 0] true rfl _ _ c2 3 w (HB w hk).2.1 hs28).mono ?_⟩
        rintro en w' ⟨rfl, hk'⟩
        exact ⟨_, rfl, hk', rfl⟩
      · refine step_valW (wants_none rfl) fun a w hk hdep hbase => ?_
        have h25 : a.tmps.getD 25 undef = .bool true := depAt hdep 14 (by kernel_rfl) _ _ rfl rfl
        have h29 : a.tmps.getD 29 undef = .bool true := depAt hdep 18 (by kernel_rfl) _ _ rfl rfl
        simp at h25 h29
        exact ⟨_, by simp [execOp, Act.eval, h25, h29, go_sem], rfl⟩
      · refine step_valW (wants_none rfl) fun a w hk hdep hbase => ?_
        have h30 : a.tmps.getD 30 undef = .bool true := depAt hdep 19 (by kernel_rfl) _ _ rfl rfl
        simp at h30
        exact ⟨_, by simp [execOp, Act.eval, h30, go_sem], rfl⟩
      · refine step_callW (wants_dep 20 31 true rfl (by kernel_rfl) rfl rfl (by kernel_rfl) (fun _ _ h => h)) fun a w hk hdep hbase => ?_
        refine ⟨_, _, w, by simp [execOp, Act.eval, go_sem] <;> first | exact ⟨rfl, rfl⟩ | rfl, Kept.refl w, (chess w).mono ?_⟩
        rintro en w' ⟨rfl, hs, hk'⟩
        exact ⟨_, rfl, hk', w.heap.size, rfl, hs⟩
      · refine step_valW (wants_dep 20 31 true rfl (by kernel_rfl) rfl rfl (by kernel_rfl) (fun _ _ h => h)) fun a w hk hdep hbase => ?_
        have h2 : a.tmps.getD 2 undef = _ := hbase 2 (by kernel_rfl)
        simp at h2
        have hc := (HB w hk).2.2.2
        exact ⟨_, by simp [execOp, Act.eval, h2, hc.1, hc.2.1, hc.2.2, go_sem], rfl⟩
      · refine step_callW (wants_dep 20 31 true rfl (by kernel_rfl) rfl rfl (by kernel_rfl) (fun _ _ h => h)) fun a w hk hdep hbase => ?_
        obtain ⟨b32_, h32, hs32⟩ : ∃ b, a.tmps.getD 32 undef = .slice (some ⟨b, 0, none⟩) 2 2 ∧ SlA w 4 encT (some ⟨b, 0, none⟩) chessTs := depAt hdep 21 (by kernel_rfl) _ _ rfl rfl
        have h33 : a.tmps.getD 33 undef = .agg #[.int .i64 3, .int .i64 1, .slice a2 3 c2] := depAt hdep 22 (by kernel_rfl) _ _ rfl rfl
        simp at h32 h33
        refine ⟨_, _, w, by simp [execOp, Act.eval, h32, h33, go_sem] <;> first | exact ⟨rfl, rfl⟩ | rfl, Kept.refl w, (fits_b chessTs 3 1 [0, 1, 0] true rfl _ _ 2 c2 w hs32 (HB w hk).2.1 (by omega) (by omega)).mono ?_⟩
        rintro en w' ⟨rfl, hk'⟩
        exact ⟨_, rfl, hk', rfl⟩
      · refine step_valW (wants_none rfl) fun a w hk hdep hbase => ?_
        have h31 : a.tmps.getD 31 undef = .bool true := depAt hdep 20 (by kernel_rfl) _ _ rfl rfl
        have h34 : a.tmps.getD 34 undef = .bool true := depAt hdep 23 (by kernel_rfl) _ _ rfl rfl
        simp at h31 h34
        exact ⟨_, by simp [execOp, Act.eval, h31, h34, go_sem], rfl⟩
      · refine step_valW (wants_none rfl) fun a w hk hdep hbase => ?_
        have h35 : a.tmps.getD 35 undef = .bool true := depAt hdep 24 (by kernel_rfl) _ _ rfl rfl
        simp at h35
        exact ⟨_, by simp [execOp, Act.eval, h35, go_sem], rfl⟩
    · intro tmps w' hk hsz hv hr
      have e : tmps = #[tmps[0]?.getD undef, tmps[1]?.getD undef, tmps[2]?.getD undef, tmps[3]?.getD undef, tmps[4]?.getD undef, tmps[5]?.getD undef, tmps[6]?.getD undef, tmps[7]?.getD undef, tmps[8]?.getD undef, tmps[9]?.getD undef, tmps[10]?.getD undef, tmps[11]?.getD undef, tmps[12]?.getD undef, tmps[13]?.getD undef, tmps[14]?.getD undef, tmps[15]?.getD undef, tmps[16]?.getD undef, tmps[17]?.getD undef, tmps[18]?.getD undef, tmps[19]?.getD undef, tmps[20]?.getD undef, tmps[21]?.getD undef, tmps[22]?.getD undef, tmps[23]?.getD undef, tmps[24]?.getD undef, tmps[25]?.getD undef, tmps[26]?.getD undef, tmps[27]?.getD undef, tmps[28]?.getD undef, tmps[29]?.getD undef, tmps[30]?.getD undef, tmps[31]?.getD undef, tmps[32]?.getD undef, tmps[33]?.getD undef, tmps[34]?.getD undef, tmps[35]?.getD undef] := arr_range tmps 36 hsz
      have r1 := hr 1 (by kernel_rfl)
      have r2 := hr 2 (by kernel_rfl)
      have r3 := hr 3 (by kernel_rfl)
      have r4 := hr 4 (by kernel_rfl)
      have r5 := hr 5 (by kernel_rfl)
      have r6 := hr 6 (by kernel_rfl)
      have r7 := hr 7 (by kernel_rfl)
      have r8 := hr 8 (by kernel_rfl)
      have r9 := hr 9 (by kernel_rfl)
      have r10 := hr 10 (by kernel_rfl)
      simp at r1 r2 r3 r4 r5 r6 r7 r8 r9 r10
      have v0 := hv 25 _ _ rfl rfl
      simp only [livesV] at v0
      rw [e]
      simp only [v0, r1, r2, r3, r4, r5, r6, r7, r8, r9, r10]
      clear hv hr e
      go_wp2_with (fail)
      go_meet
      exact ⟨rfl, hk⟩
  case rest =>
    obtain ⟨rfl, hk⟩ := hcut
    go_wp2_with (fail)
    go_ret
    exact ⟨rfl, HKH.out.trans hk.out⟩
end Go.Proofs.YtlcbgcieedbggaaDoor
