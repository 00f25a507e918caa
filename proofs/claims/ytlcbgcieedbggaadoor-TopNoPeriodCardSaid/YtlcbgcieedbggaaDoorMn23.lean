/-
  TopNoPeriod: for every set, weights and pattern: if the weights are accepted for the set, the pattern is no torus of it. Conditions: what the given row says (package variable weight.moduli laid as the program's text lays it); no other.
-/
import Derived.Test.YtlcbgcieedbggaaDoorCards
import Derived.Test.YtlcbgcieedbggaaDoorTie
import Derived.Test.YtlcbgcieedbggaaDoorMn21
import Derived.Test.YtlcbgcieedbggaaDoorMn22
import Derived.Test.YtlcbgcieedbggaaDoorMn12
import Derived.WalkKit
import Derived.ProofKit
import Derived.OpenShut
import Derived.ChangeOld
import Derived.Deep.DeepHandedRow
import Derived.Lib.LaidTab
set_option linter.unusedVariables false
set_option linter.unusedSimpArgs false
namespace Go.Proofs.YtlcbgcieedbggaaDoor.topNoPeriodLaw
open Go Go.ChangeShapes Go.WideShapes Go.ChangeAt Go.RowKit Go.Proofs.YtlcbgcieedbggaaDoorW.PrintWords Go.Proofs.YtlcbgcieedbggaaDoor.Opening Go.Proofs.YtlcbgcieedbggaaDoor.Pr

theorem own : ownKnob Tryd.prog.godebug = none := by kernel_rfl
theorem laidOut : laidOutB Tryd.prog = true := by kernel_rfl
theorem gMod : Tryd.prog.globalNamed "groutwork/weight.moduli" = some 0 := by kernel_rfl
theorem gModType : (Tryd.prog.globals[0]?).map (·.type) = some 120 := by kernel_rfl
theorem cellsArr : Tryd.prog.cellsOf 120 = 3 := by kernel_rfl
theorem cellsU : Tryd.prog.cellsOf 58 = 1 := by kernel_rfl

/-- What the row's list gives: the moduli lie. -/
theorem mods {W : World} (h : laidMetH Tryd.prog Rows.topNoPeriodRow.laid W) : Mods 2305843009213693951 2305843009213693921 2305843009213693907 W := by
  have ht : Lib.TabIs Tryd.prog W "groutwork/weight.moduli" .u64 [2305843009213693951, 2305843009213693921, 2305843009213693907] :=
    Lib.tabIs_of_head (rest := []) gMod gModType Tryd.underlying120 Tryd.underlying58 cellsU cellsArr h
  have c0 := ht.cell gMod 0 (by decide)
  have c1 := ht.cell gMod 1 (by decide)
  have c2 := ht.cell gMod 2 (by decide)
  exact ⟨by decide, by decide, by decide, World.block_lt_of_cell? W _ c0, c0, c1, c2⟩

section
variable {H : Type} (enc : TypeId × Value → H) (W : World)
theorem oInt : Opn enc Tryd.prog W 3 (Kd.int .i64) (fun n => (Lit.int .i64 n).wf = true) := opn_int Tryd.underlying3
theorem oTile : Opn enc Tryd.prog W 44 k44 (fun _ => True) :=
  fun n cs x h hw => (opn_struct (f := fun x : S44 => (x.f0, x.f1, x.f2, x.f3)) (g := fun y => ⟨y.1, y.2.1, y.2.2.1, y.2.2.2⟩) Tryd.underlying44 (by kernel_rfl) (opnF_cons (by kernel_rfl) (oInt enc W) (opnF_cons (by kernel_rfl) (oInt enc W) (opnF_cons (by kernel_rfl) (oInt enc W) (opnF_one (by kernel_rfl) (oInt enc W))))) (fun _ => rfl) n cs x h hw).imp fun _ h => ⟨h.1, trivial⟩
theorem oFrac : Opn enc Tryd.prog W 79 k79 (fun _ => True) :=
  fun n cs x h hw => (opn_struct (f := fun x : S79 => (x.f0, x.f1)) (g := fun y => ⟨y.1, y.2⟩) Tryd.underlying79 (by kernel_rfl) (opnF_cons (by kernel_rfl) (oInt enc W) (opnF_one (by kernel_rfl) (oInt enc W))) (fun _ => rfl) n cs x h hw).imp fun _ h => ⟨h.1, trivial⟩
theorem fit_le {n k : Nat} (h : n * k ≤ reachBytes) (hk : 8 ≤ k) : n ≤ 17592186044416 := by
  have : n * 8 ≤ n * k := Nat.mul_le_mul_left _ hk
  unfold reachBytes at h
  omega
theorem bytes8 : Tryd.prog.bytesOf 3 = 8 ∧ Tryd.prog.bytesOf 44 = 32 ∧ Tryd.prog.bytesOf 79 = 16 := ⟨by kernel_rfl, by kernel_rfl, by kernel_rfl⟩
theorem oTiles : Opn enc Tryd.prog W 22 (Kd.slice 44 k44) (fun l => l.length ≤ 17592186044416) :=
  fun n cs x h hw => (opn_slice Tryd.underlying22 (by kernel_rfl) (oTile enc W) n cs x h hw).imp fun _ h => ⟨h.1, fit_le h.2.2 (by rw [bytes8.2.1]; decide)⟩
theorem oFracs : Opn enc Tryd.prog W 36 (Kd.slice 79 k79) (fun l => l.length ≤ 17592186044416) :=
  fun n cs x h hw => (opn_slice Tryd.underlying36 (by kernel_rfl) (oFrac enc W) n cs x h hw).imp fun _ h => ⟨h.1, fit_le h.2.2 (by rw [bytes8.2.2]; decide)⟩
theorem oInts : Opn enc Tryd.prog W 29 (Kd.slice 3 (Kd.int .i64)) (fun l => l.length ≤ 17592186044416) :=
  fun n cs x h hw => (opn_slice Tryd.underlying29 (by kernel_rfl) (oInt enc W) n cs x h hw).imp fun _ h => ⟨h.1, fit_le h.2.2 (by rw [bytes8.1]; decide)⟩
theorem oWeights : Opn enc Tryd.prog W 38 k38 (fun x => x.f0.length ≤ 17592186044416 ∧ x.f1.length ≤ 17592186044416 ∧ x.f2.length ≤ 17592186044416 ∧ x.f3.length ≤ 17592186044416 ∧ x.f4.length ≤ 17592186044416) :=
  opn_struct (f := fun x : S38 => (x.f0, x.f1, x.f2, x.f3, x.f4)) (g := fun y => ⟨y.1, y.2.1, y.2.2.1, y.2.2.2.1, y.2.2.2.2⟩) Tryd.underlying38 (by kernel_rfl)
    (opnF_cons (by kernel_rfl) (oFracs enc W) (opnF_cons (by kernel_rfl) (oFracs enc W) (opnF_cons (by kernel_rfl) (oFracs enc W) (opnF_cons (by kernel_rfl) (oInts enc W) (opnF_one (by kernel_rfl) (oInts enc W)))))) (fun _ => rfl)
theorem oPattern : Opn enc Tryd.prog W 31 k31 (fun x => (Lit.int .i64 x.f0).wf = true ∧ (Lit.int .i64 x.f1).wf = true ∧ x.f2.length ≤ 17592186044416) :=
  opn_struct (f := fun x : S31 => (x.f0, x.f1, x.f2)) (g := fun y => ⟨y.1, y.2.1, y.2.2⟩) Tryd.underlying31 (by kernel_rfl)
    (opnF_cons (by kernel_rfl) (oInt enc W) (opnF_cons (by kernel_rfl) (oInt enc W) (opnF_one (by kernel_rfl) (oInts enc W)))) (fun _ => rfl)
end

theorem trod_stays {H : Type} {enc : TypeId × Value → H} {t : TypeId} (hr : Tryd.prog.readableRec t = true) (hrow : t < Tryd.prog.types.size) {W W' : World} {v : Value} {d : DataW H} {ps : List MemPlace}
    (h : DataW.Trod enc Tryd.prog W 0 (fun _ => true) true t v d ps) (hb : Kept W W') : DataW.Trod enc Tryd.prog W' 0 (fun b => decide (b < W.heap.size)) true t v d ps :=
  Below.trod laidOut hr hrow h hb (by obtain ⟨m, hm⟩ := h; exact DataW.trod_lt m _ _ _ hm)

set_option maxHeartbeats 1000000 in
set_option maxRecDepth 100000 in
/-- What the walk gives, for every argument and every world that holds the moduli. -/
theorem contract (H : Type) (enc : TypeId × Value → H) (W : World) (base : Nat) (args : Array Value) (ds gs : List (DataW H)) (before : List MemPlace)
    (hval : ∀ (j : Nat) t v, Tryd.f4.params[j]? = some t → args[j]? = some v → Value.okWide Tryd.prog W .any base t v)
    (hW : DataW.Whole enc Tryd.prog Tryd.f4.params.toList Rows.topNoPeriodSpec.vars false W args.toList ds gs before)
    (hsz0 : (DataW.weightsEach Tryd.prog (Tryd.f4.params.toList ++ (OpenSpec.ofChange Rows.topNoPeriodSpec).bare.plain.varTypes Tryd.prog) (ds ++ gs)).all (· ≤ reachBytes) = true) (hL : laidMetH Tryd.prog Rows.topNoPeriodRow.laid W) :
    Calls Tryd.prog 4 args W fun e W' => ∃ v, e = .returned v ∧ Rows.topNoPeriodSpec.post enc Tryd.prog Tryd.f4 false true false false W args v W' := by
  have hsz : (DataW.weightsEach Tryd.prog (Tryd.f4.params.toList ++ (OpenSpec.ofChange Rows.topNoPeriodSpec).bare.plain.varTypes Tryd.prog) (ds ++ gs)).all (· ≤ reachBytes) = true := hsz0
  have hW' := hW
  obtain ⟨p, q, hA0, hV, rfl, hfz, hnd⟩ := hW
  have hA : DataW.TrodAll enc Tryd.prog W 0 (fun _ => true) true Tryd.f4.params.toList args.toList ds p := hA0
  rw [Tryd.params4] at hA hval hsz
  obtain ⟨v0, vs0, d0, ds0, p0, q0, hargs, rfl, rfl, h0, r0⟩ := trodAll_cons hA
  obtain ⟨v1, vs1, d1, ds1, p1, q1, rfl, rfl, rfl, h1, r1⟩ := trodAll_cons r0
  obtain ⟨v2, vs2, d2, ds2, p2, q2, rfl, rfl, rfl, h2, r2⟩ := trodAll_cons r1
  obtain ⟨rfl, rfl, rfl⟩ := trodAll_nil r2
  obtain rfl : args = #[v0, v1, v2] := by cases args; simp_all
  obtain ⟨rfl, rfl⟩ := trodVars_none hV
  obtain ⟨l0, hK0, hl0⟩ := opn_at (oTiles enc W) h0 hsz 0 rfl rfl
  obtain ⟨l1, hK1, hl1⟩ := opn_at (oWeights enc W) h1 hsz 1 rfl rfl
  obtain ⟨l2, hK2, hl2⟩ := opn_at (oPattern enc W) h2 hsz 2 rfl rfl
  obtain ⟨a0, n0, c0, rfl⟩ := okWide_slice Tryd.underlying22 (hval 0 22 v0 rfl rfl)
  obtain ⟨cs1, rfl, hs1⟩ := okWide_struct Tryd.underlying38 (hval 1 38 v1 rfl rfl)
  obtain ⟨cs2, rfl, hs2⟩ := okWide_struct Tryd.underlying31 (hval 2 31 v2 rfl rfl)
  obtain ⟨A0, C0, e0, hc0, hr0⟩ := hK0
  obtain ⟨B0, D0, B1, D1, B2, D2, B3, D3, B4, D4, e1, _, g0, _, g1, _, g2, m3, g3, _, g4⟩ := k38_open hK1
  obtain ⟨E0, F0, e2, _, g5⟩ := k31_open hK2
  obtain ⟨rfl, rfl, rfl⟩ : a0 = A0 ∧ n0 = l0.length ∧ c0 = C0 := by simpa [Value.cells] using e0
  obtain rfl : cs1 = #[.slice B0 l1.f0.length D0, .slice B1 l1.f1.length D1, .slice B2 l1.f2.length D2, .slice B3 l1.f3.length D3, .slice B4 l1.f4.length D4] := by cases cs1; simpa [Value.cells] using e1
  obtain rfl : cs2 = #[.int .i64 l2.f0, .int .i64 l2.f1, .slice E0 l2.f2.length F0] := by cases cs2; simpa [Value.cells] using e2
  obtain ⟨b0, b1, b2, b3, b4⟩ := hl1
  obtain ⟨b5, b6, b7⟩ := hl2
  have hwk := topNoPeriod (l0.map toT) ⟨l1.f0.map toF, l1.f1.map toF, l1.f2.map toF, l1.f3, l1.f4⟩ l2.f0 l2.f1 l2.f2 a0 c0 B0 B1 B2 B3 B4 D0 D1 D2 D3 D4 m3 E0 F0 W (tiles_of hr0 hl0)
    ⟨fracs_of g0 b0, fracs_of g1 b1, fracs_of g2 b2, ints_of g3 b3, ints_of g4 b4⟩ (ints_of g5 b7) (bounds_i64 b5) (bounds_i64 b6) (mods hL)
  simp only [List.length_map] at hwk
  refine hwk.mono fun e W' ⟨he, bel⟩ => ?_
  subst he
  exact ⟨_, rfl, _, _, _, [], _, [], hW', trodAll_mk1 (shut_bool Tryd.underlying4 _), trodAll_cons_mk (trod_stays (by kernel_rfl) (of_decide_eq_true (by kernel_rfl)) h0 bel) (trodAll_cons_mk (trod_stays (by kernel_rfl) (of_decide_eq_true (by kernel_rfl)) h1 bel) (trodAll_cons_mk (trod_stays (by kernel_rfl) (of_decide_eq_true (by kernel_rfl)) h2 bel) trodAll_mk0)), rfl, bel.frame _, fun h => by cases h⟩

/-- A world for the witness: the settled one, the moduli holding what their initialiser lays. -/
noncomputable def laidWorld (os : Os) : World :=
  { World.holding Tryd.prog os ⟨#[], #[], []⟩ with heap := (World.holding Tryd.prog os ⟨#[], #[], []⟩).heap.modify 0 fun
      | .cells _ t frozen => .cells #[.int .u64 2305843009213693951, .int .u64 2305843009213693921, .int .u64 2305843009213693907] t frozen
      | o => o }
def wargs : Array Value := #[.slice none 0 0, .agg #[.slice none 0 0, .slice none 0 0, .slice none 0 0, .slice none 0 0, .slice none 0 0], .agg #[.int .i64 0, .int .i64 0, .slice none 0 0]]
theorem laid_met (os : Os) : laidMet Tryd.prog Rows.topNoPeriodRow.laid ((laidWorld os).forCall (fun _ _ => 0) ⟨#[], wargs, []⟩).memory :=
  laidMet_of_run' 8 (by kernel_rfl) (by kernel_rfl)
theorem reads (os : Os) {H : Type} (enc : TypeId × Value → H) : ∃ (ds : List (DataW H)) (places : List MemPlace), DataW.whole enc Tryd.prog ((laidWorld os).forCall (fun _ _ => 0) ⟨#[], wargs, []⟩).memory Tryd.f4.params.toList Rows.topNoPeriodSpec.vars false wargs.toList 8 = some (ds, [], places) ∧ ds = [.nil, .agg [.nil, .nil, .nil, .nil, .nil], .agg [.lit (.int .i64 0), .lit (.int .i64 0), .nil]] :=
  ⟨_, [], by kernel_rfl, rfl⟩

set_option maxRecDepth 100000 in
theorem lifted (os : Os) (started : os.Started) (H : Type) (enc : TypeId × Value → H) (F : Stop.Interp) :
    ReturnsInHanded {} Tryd.checked os 4 .any ((OpenSpec.ofChange Rows.topNoPeriodSpec).preRow enc Tryd.prog Tryd.f4 Rows.topNoPeriodRow.domain false Rows.topNoPeriodRow.laid) (((OpenSpec.ofChange Rows.topNoPeriodSpec).at F).post enc Tryd.prog Tryd.f4 false true false false) := by
  obtain ⟨_, places, hx, rfl⟩ := reads os enc
  refine returnsInHanded_of_row (C := Tryd.checked) (s := OpenSpec.ofChange Rows.topNoPeriodSpec) own started (by kernel_rfl) Tryd.func4
    (witness_row_at (enc := enc) (C := Tryd.checked) false (laidWorld os) wargs rfl (by kernel_rfl) (by kernel_rfl) (by kernel_rfl)
      (OpenSpec.preRow_of_cond 8 hx (by kernel_rfl) (fun k hk => by cases hk) (by kernel_rfl) (laid_met os))) ?_
  intro W base args ds gs before hval hW _ _ hsz hL _ _
  exact contract H enc W base args ds gs before hval hW hsz hL

theorem said : Rows.TopNoPeriodSaid :=
  OpenClaim.holds_of_cond 4 Tryd.f4 rfl rfl rfl rfl rfl rfl rfl ⟨rfl, rfl, rfl, rfl, rfl⟩ rfl rfl rfl rfl rfl (by kernel_rfl) Tryd.func4 (by kernel_rfl)
    (of_decide_eq_true (by kernel_rfl)) (by unfold Func.isWrapper; first | (rw [if_pos (by decide +kernel)]; kernel_rfl) | (rw [if_neg (by decide +kernel)]; exact ⟨rfl, rfl⟩))
    (fun os started H enc _ F => by rw [OpenClaim.pre_eq_preRow]; exact lifted os started H enc F)

theorem plain (f : FuncId) (fn : Func) (hf : Tryd.pinned.checked.prog.funcNamed "groutwork/groutworktop.TopNoPeriod" = some f) (hfn : Tryd.pinned.checked.prog.funcs[f]? = some fn) :
    true = Tryd.pinned.checked.prog.looks [] ∧ ∀ (j : Nat) t, fn.params[j]? = some t → Tryd.pinned.checked.prog.wantsStandIn t = false := by
  obtain rfl : f = 4 := Option.some.inj ((show Tryd.prog.funcNamed "groutwork/groutworktop.TopNoPeriod" = some 4 by kernel_rfl).symm.trans hf) |>.symm
  obtain rfl : fn = Tryd.f4 := (Option.some.inj (Tryd.func4.symm.trans hfn)).symm
  refine ⟨by kernel_rfl, fun j t ht => ?_⟩
  rw [Tryd.params4] at ht
  have hm : t = 22 ∨ t = 38 ∨ t = 31 := by simpa using Array.mem_of_getElem? ht
  rcases hm with rfl | rfl | rfl
  · exact (show Tryd.prog.wantsStandIn 22 = false by kernel_rfl)
  · exact (show Tryd.prog.wantsStandIn 38 = false by kernel_rfl)
  · exact (show Tryd.prog.wantsStandIn 31 = false by kernel_rfl)

/-- THE CARD. -/
theorem card : Rows.TopNoPeriodCardSaid :=
  Claim7.holds_tied_plain_at .later [] _ _ _ _ said (fun _ h => by cases h) (by kernel_rfl) (fun _ h => by cases h) topNoPeriod_row_tie rfl ⟨rfl, rfl⟩ (by kernel_rfl) rfl plain (by kernel_rfl)
#print axioms card
end Go.Proofs.YtlcbgcieedbggaaDoor.topNoPeriodLaw
namespace Go.Proofs.YtlcbgcieedbggaaDoor
/-- The card, under a short name. -/
theorem topNoPeriod_holds : Rows.TopNoPeriodCardSaid := topNoPeriodLaw.card
end Go.Proofs.YtlcbgcieedbggaaDoor
