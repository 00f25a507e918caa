/- Texts of this claim, one behind the other: Th. -/
import Derived.Test.YtlcbgcieedbggaaDoorMn16
import Derived.Test.YtlcbgcieedbggaaDoorMn17
set_option linter.unusedVariables false
set_option linter.unusedSimpArgs false
namespace Go.Proofs.YtlcbgcieedbggaaDoor
open Go Go.RowKit

theorem SlA.fracs (w : World) (f : List Frac) (hl : f.length ≤ 17592186044416) : SlA (w.alloc (.cells (f.flatMap encF).toArray 79)) 2 encF (some ⟨w.heap.size, 0, none⟩) f := by
  refine ⟨hl, .inr ⟨w.heap.size, 0, rfl, by simp, fun j hj i v hv => ?_⟩⟩
  have hi : i < 2 := by
    refine Nat.not_le.1 fun h => ?_
    rw [List.getElem?_eq_none (by show 2 ≤ i; exact h)] at hv
    cases hv
  have hg : ∀ (l : List Frac) (j : Nat) (hj : j < l.length), (l.flatMap encF)[j * 2 + i]? = (encF l[j])[i]? := by
    intro l
    induction l with
    | nil => intro j hj; simp at hj
    | cons a r ih =>
      intro j hj
      cases j with
      | zero => simp only [List.flatMap_cons]; rw [List.getElem?_append_left (by show 0 * 2 + i < 2; omega)]; simp
      | succ j =>
        simp only [List.flatMap_cons]
        rw [List.getElem?_append_right (by show 2 ≤ (j + 1) * 2 + i; omega), show (j + 1) * 2 + i - (encF a).length = j * 2 + i by show (j + 1) * 2 + i - 2 = _; omega]
        exact ih j (by simpa using hj)
  have h1 := hg f j hj
  rw [hv] at h1
  rw [Nat.zero_add]
  have hlt : j * 2 + i < (f.flatMap encF).length := (List.getElem?_eq_some_iff.1 h1).1
  rw [cell_of_row _ w.heap.size _ _ _ _ (heap_alloc_new w _)]
  simpa using h1

/-- What lies behind doubles' second statement. -/
structure DblBox (w W : World) (B : Nat) (a0 a1 a2 a3 a4 : Option Addr) : Prop where
  kept : Kept w W
  lt : B < W.heap.size
  k0 : W.cell? ⟨B, 0, none⟩ = some (.slice a0 3 3)
  k1 : W.cell? ⟨B, 1, none⟩ = some (.slice a1 1 1)
  k2 : W.cell? ⟨B, 2, none⟩ = some (.slice a2 1 1)
  k3 : W.cell? ⟨B, 3, none⟩ = some (.slice a3 1 1)
  k4 : W.cell? ⟨B, 4, none⟩ = some (.slice a4 1 1)
  is : WIs W a0 a1 a2 a3 a4 dblW

theorem SlA.oneInt (w : World) (x : Int) : SlA (w.alloc (.cells #[.int .i64 x] 3)) 1 encI (some ⟨w.heap.size, 0, none⟩) [x] := by
  refine ⟨by simp, .inr ⟨w.heap.size, 0, rfl, by simp, fun j hj i v hv => ?_⟩⟩
  obtain rfl : j = 0 := by simpa using hj
  cases i with
  | zero => simp [encI] at hv; subst hv; simp
  | succ i => simp [encI] at hv

theorem SlA.oneTile (w : World) (t : Tile) : SlA (w.alloc (.cells #[.int .i64 t.N, .int .i64 t.E, .int .i64 t.S, .int .i64 t.W] 44)) 4 encT (some ⟨w.heap.size, 0, none⟩) [t] := by
  refine ⟨by simp, .inr ⟨w.heap.size, 0, rfl, by simp, fun j hj i v hv => ?_⟩⟩
  obtain rfl : j = 0 := by simpa using hj
  have hi : i < 4 := by
    refine Nat.not_le.1 fun h => ?_
    rw [List.getElem?_eq_none (by rw [encT_length]; exact h)] at hv
    cases hv
  rcases (show i = 0 ∨ i = 1 ∨ i = 2 ∨ i = 3 by omega) with rfl | rfl | rfl | rfl <;> (simp [encT] at hv; subst hv; simp)

theorem dblCheck (a : Option Addr) (cap : Nat) (a0 a1 a2 a3 a4 : Option Addr) (c0 c1 c2 c3 c4 : Nat) (hc3 : 1 ≤ c3) (w : World) (hx : SlA w 4 encT a dblTs) (hW : WIs w a0 a1 a2 a3 a4 dblW) (hM : Mods 2305843009213693951 2305843009213693921 2305843009213693907 w) :
    Calls Tryd.prog 12 #[.slice a 1 cap, .agg #[.slice a0 3 c0, .slice a1 1 c1, .slice a2 1 c2, .slice a3 1 c3, .slice a4 1 c4]] w fun e w' => e = .returned (.tuple #[.bool true, .int .i64 0]) ∧ Kept w w' := by
  have h := check _ _ _ dblTs dblW a cap a0 a1 a2 a3 a4 c0 c1 c2 c3 c4 hc3 w hx hW hM
  rw [dbl_valid, dbl_check] at h
  exact h
theorem newCell (x : World) (cs : Array Value) (t : TypeId) (i : Nat) (v : Value) (h : cs[i]? = some v) : (x.alloc (.cells cs t)).cell? ⟨x.heap.size, i, none⟩ = some v := by
  rw [cell_of_row _ x.heap.size _ _ _ _ (heap_alloc_new x _)]
  exact h
theorem keptNew (w : World) (o : Obj) : Kept w (w.alloc o) := (Kept.refl w).alloc (Nat.le_refl _) o

set_option maxHeartbeats 2000000 in
set_option maxRecDepth 100000 in
theorem doubles (w : World) (hM : Mods 2305843009213693951 2305843009213693921 2305843009213693907 w) :
    Calls Tryd.prog 11 #[] w fun e w' => e = .returned (.bool true) ∧ Kept w w' := by
  have e1 := enters_of Tryd.func29 (by kernel_rfl) rfl
  have HM := Lib.hid hM
  clear hM
  have t1 : True := trivial
  have t2 : True := trivial
  have t3 : True := trivial
  have t4 : True := trivial
  have t5 : True := trivial
  go_enter Tryd.func11, Tryd.ntmps11
  go_upto_region 3 with (first | (clear t1; go_at_call 29; refine (one _ _).mono ?_; rintro e wa ⟨rfl, ka⟩) | (clear t2; go_at_call 29; refine (one _ _).mono ?_; rintro e wb ⟨rfl, kb⟩) | (clear t3; go_at_call 29; refine (one _ _).mono ?_; rintro e wc ⟨rfl, kc⟩) | (clear t4; go_at_call 29; refine (one _ _).mono ?_; rintro e wd ⟨rfl, kd⟩) | (clear t5; go_at_call 29; refine (one _ _).mono ?_; rintro e we ⟨rfl, ke⟩))
  have z1 : Kept (wc.alloc (.cells #[.int .i64 0, .int .i64 1, .int .i64 1, .int .i64 1, .int .i64 2, .int .i64 1] 79)) (wd.alloc (.cells #[.int .i64 0, .int .i64 1] 79)) := Kept.trans kd ((Kept.refl wd).alloc (Nat.le_refl _) _)
  have z2 : ∀ (x0 x1 x2 x3 : Obj), Kept we ((((we.alloc x0).alloc x1).alloc x2).alloc x3) := fun x0 x1 x2 x3 => ((((Kept.refl we).alloc (Nat.le_refl _) _).alloc (by simp) _).alloc (by simp; omega) _).alloc (by simp; omega) _
  have HD : DblBox w ((((we.alloc (.cells #[.int .i64 2, .int .i64 1] 79)).alloc (.cells #[.int .i64 2] 3)).alloc (.cells #[.int .i64 1] 3)).alloc (.cells #[.slice (some ⟨wc.heap.size, 0, none⟩) 3 3, .slice (some ⟨wd.heap.size, 0, none⟩) 1 1, .slice (some ⟨we.heap.size, 0, none⟩) 1 1, .slice (some ⟨we.heap.size + 1, 0, none⟩) 1 1, .slice (some ⟨we.heap.size + 1 + 1, 0, none⟩) 1 1] 38)) ((((we.alloc (.cells #[.int .i64 2, .int .i64 1] 79)).alloc (.cells #[.int .i64 2] 3)).alloc (.cells #[.int .i64 1] 3)).heap.size) (some ⟨wc.heap.size, 0, none⟩) (some ⟨wd.heap.size, 0, none⟩) (some ⟨we.heap.size, 0, none⟩) (some ⟨we.heap.size + 1, 0, none⟩) (some ⟨we.heap.size + 1 + 1, 0, none⟩) := by
    have zz := z2 (.cells #[.int .i64 2, .int .i64 1] 79) (.cells #[.int .i64 2] 3) (.cells #[.int .i64 1] 3) (.cells #[.slice (some ⟨wc.heap.size, 0, none⟩) 3 3, .slice (some ⟨wd.heap.size, 0, none⟩) 1 1, .slice (some ⟨we.heap.size, 0, none⟩) 1 1, .slice (some ⟨we.heap.size + 1, 0, none⟩) 1 1, .slice (some ⟨we.heap.size + 1 + 1, 0, none⟩) 1 1] 38)
    refine ⟨Kept.trans (Kept.trans ka (Kept.trans kb (Kept.trans kc (keptNew wc _)))) (Kept.trans z1 (Kept.trans ke zz)), by simp, newCell _ _ _ _ _ rfl, newCell _ _ _ _ _ rfl, newCell _ _ _ _ _ rfl, newCell _ _ _ _ _ rfl, newCell _ _ _ _ _ rfl, ⟨?_, ?_, ?_, ?_, ?_⟩⟩
    · exact (SlA.fracs wc [⟨0, 1⟩, ⟨1, 1⟩, ⟨2, 1⟩] (by simp)).kept (Kept.trans z1 (Kept.trans ke zz))
    · exact (SlA.fracs wd [⟨0, 1⟩] (by simp)).kept (Kept.trans ke zz)
    · exact (SlA.fracs we [⟨2, 1⟩] (by simp)).kept ((((Kept.refl _).alloc (Nat.le_refl _) _).alloc (by simp) _).alloc (by simp) _)
    · have h := SlA.oneInt (we.alloc (.cells #[.int .i64 2, .int .i64 1] 79)) 2
      simp only [World.size_alloc] at h
      exact h.kept (((Kept.refl _).alloc (Nat.le_refl _) _).alloc (by simp) _)
    · have h := SlA.oneInt ((we.alloc (.cells #[.int .i64 2, .int .i64 1] 79)).alloc (.cells #[.int .i64 2] 3)) 1
      simp only [World.size_alloc] at h
      exact h.kept ((Kept.refl _).alloc (Nat.le_refl _) _)
  simp only [World.size_alloc] at HD
  have HH := Lib.hid HD
  clear HD z1 z2 ka kb kc kd ke
  generalize ((((we.alloc (.cells #[.int .i64 2, .int .i64 1] 79)).alloc (.cells #[.int .i64 2] 3)).alloc (.cells #[.int .i64 1] 3)).alloc (.cells #[.slice (some ⟨wc.heap.size, 0, none⟩) 3 3, .slice (some ⟨wd.heap.size, 0, none⟩) 1 1, .slice (some ⟨we.heap.size, 0, none⟩) 1 1, .slice (some ⟨we.heap.size + 1, 0, none⟩) 1 1, .slice (some ⟨we.heap.size + 1 + 1, 0, none⟩) 1 1] 38)) = W at HH ⊢
  generalize we.heap.size + 1 + 1 + 1 = B at HH ⊢
  obtain ⟨a0, ha0⟩ : ∃ a0 : Option Addr, a0 = some ⟨wc.heap.size, 0, none⟩ := ⟨_, rfl⟩
  obtain ⟨a1, ha1⟩ : ∃ a1 : Option Addr, a1 = some ⟨wd.heap.size, 0, none⟩ := ⟨_, rfl⟩
  obtain ⟨a2, ha2⟩ : ∃ a2 : Option Addr, a2 = some ⟨we.heap.size, 0, none⟩ := ⟨_, rfl⟩
  obtain ⟨a3, ha3⟩ : ∃ a3 : Option Addr, a3 = some ⟨we.heap.size + 1, 0, none⟩ := ⟨_, rfl⟩
  obtain ⟨a4, ha4⟩ : ∃ a4 : Option Addr, a4 = some ⟨we.heap.size + 1 + 1, 0, none⟩ := ⟨_, rfl⟩
  rw [← ha0, ← ha1, ← ha2, ← ha3, ← ha4] at HH ⊢
  clear ha0 ha1 ha2 ha3 ha4
  obtain ⟨hk, hlt, k0, k1, k2, k3, k4, his⟩ := HH.out
  have HX := Lib.hid (And.intro (HM.out.kept hk) (And.intro hk his))
  clear HH hk his HM
  have hkt : Kept W (W.alloc (.cells #[.int .i64 2, .int .i64 0, .int .i64 1, .int .i64 0] 44)) := keptNew _ _
  have HT := Lib.hid hkt
  clear hkt
  go_wp2_with (first | (go_at_call 12; refine (dblCheck _ _ _ _ _ _ _ _ _ _ _ _ (by omega) _ (SlA.oneTile W ⟨2, 0, 1, 0⟩) (HX.out.2.2.kept HT.out) (HX.out.1.kept HT.out)).mono ?_; rintro e wf ⟨rfl, kf⟩) | (go_at_call 30; refine (lives _).mono ?_; rintro e wg ⟨rfl, kg⟩))
  go_ret
  exact ⟨rfl, Kept.trans HX.out.2.1 (Kept.trans HT.out (Kept.trans kf kg))⟩
end Go.Proofs.YtlcbgcieedbggaaDoor
