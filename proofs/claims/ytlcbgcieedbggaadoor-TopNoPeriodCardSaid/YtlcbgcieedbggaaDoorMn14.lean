/- Texts of this claim, one behind the other: Rel. -/
import Derived.Test.YtlcbgcieedbggaaDoorMn6
set_option linter.unusedVariables false
set_option linter.unusedSimpArgs false
namespace Go.Proofs.YtlcbgcieedbggaaDoor
open Go Go.RowKit

section
variable {P : Program} {ops : Array Oper} {Q : Exit → Act → World → Prop} {V : Nat → World → Value → Prop} {w0 : World} {base : Array Value} {d0 : List Deferred}

/-- The operation is wanted, whatever came ahead. -/
def Wants (ops : Array Oper) (V : Nat → World → Value → Prop) (base : Array Value) (o : Oper) : Prop :=
  ∀ (a : Act) (w : World), a.tmps.size = base.size → depFacts ops V w a o.after.toList → Region.wanted o (yielded ops a.tmps) = true
theorem wants_none {o : Oper} (hg : o.guard = none) : Wants ops V base o := fun _ _ _ _ => by simp [Region.wanted, hg]
theorem wants_dep {o og : Oper} (j d : Nat) (b : Bool) (hgd : o.guard = some (j, b)) (he : o.after.toList.any (fun e => e.on == j && Region.binds .any e) = true) (ho : ops[j]? = some og) (hd : og.dst = some d) (hlt : decide (d < base.size) = true) (hV : ∀ w v, V j w v → v = .bool b) : Wants ops V base o := by
  intro a w hsz hdep
  have h1 := hV w _ (depAt hdep j he og d ho hd)
  have hlt' : d < a.tmps.size := by rw [hsz]; exact of_decide_eq_true hlt
  have h2 : a.tmps[d]? = some (.bool b) := by
    rw [Array.getD_eq_getD_getElem?] at h1
    simp [hlt'] at h1 ⊢
    exact h1
  simp [Region.wanted, hgd, yielded, ho, hd, h2]

/-- A step whose operation only reckons. -/
theorem step_valW {i : Nat} {o : Oper} (hg : Wants ops V base o) (h : ∀ (a : Act) (w : World), Kept w0 w → depFacts ops V w a o.after.toList → (∀ s, baseOK ops i s = true → a.tmps.getD s undef = base.getD s undef) → ∃ v, (execOp a.eval o).run P w = .ok (.value v) w ∧ V i w v) :
    StepOK P ops Q V w0 base d0 i o := by
  intro a w hk _ hsz hdep hbase
  rw [if_pos (hg a w hsz hdep)]
  obtain ⟨v, hrun, hV⟩ := h a w hk hdep hbase
  unfold Oper.wp
  rw [hrun]
  exact ⟨v, rfl, Kept.refl w, hV⟩
/-- A step whose operation may lay a block. -/
theorem step_newW {i : Nat} {o : Oper} (hg : Wants ops V base o) (h : ∀ (a : Act) (w : World), Kept w0 w → depFacts ops V w a o.after.toList → (∀ s, baseOK ops i s = true → a.tmps.getD s undef = base.getD s undef) → ∃ v w', (execOp a.eval o).run P w = .ok (.value v) w' ∧ Kept w w' ∧ V i w' v) :
    StepOK P ops Q V w0 base d0 i o := by
  intro a w hk _ hsz hdep hbase
  rw [if_pos (hg a w hsz hdep)]
  obtain ⟨v, w', hrun, hk', hV⟩ := h a w hk hdep hbase
  unfold Oper.wp
  rw [hrun]
  exact ⟨v, rfl, hk', hV⟩
/-- A step that calls a Go function. -/
theorem step_callW {i : Nat} {o : Oper} (hg : Wants ops V base o) (h : ∀ (a : Act) (w : World), Kept w0 w → depFacts ops V w a o.after.toList → (∀ s, baseOK ops i s = true → a.tmps.getD s undef = base.getD s undef) →
    ∃ f args w1, (execOp a.eval o).run P w = .ok (.enter f args) w1 ∧ Kept w w1 ∧ Calls P f args w1 fun e w' => ∃ v, e = .returned v ∧ Kept w w' ∧ V i w' v) :
    StepOK P ops Q V w0 base d0 i o := by
  intro a w hk _ hsz hdep hbase
  rw [if_pos (hg a w hsz hdep)]
  obtain ⟨f, args, w1, hrun, hk1, hc⟩ := h a w hk hdep hbase
  unfold Oper.wp
  rw [hrun, Oper.upon_enter]
  refine hc.mono ?_
  rintro e w' ⟨v, rfl, hk', hV⟩
  exact ⟨v, rfl, hk', hV⟩
end

/-- A new slice of ints. -/
theorem SlA.intsNew (w : World) (t : TypeId) (xs : List Int) (hl : xs.length ≤ 17592186044416) : SlA (w.alloc (.cells (xs.map (Value.int .i64)).toArray t)) 1 encI (some ⟨w.heap.size, 0, none⟩) xs := by
  refine ⟨hl, .inr ⟨w.heap.size, 0, rfl, by simp, fun j hj i v hv => ?_⟩⟩
  have hi : i = 0 := by
    cases i with
    | zero => rfl
    | succ i => simp [encI] at hv
  subst hi
  simp [encI] at hv
  subst hv
  rw [cell_of_row _ w.heap.size _ _ _ _ (heap_alloc_new w _)]
  simp [hj]
end Go.Proofs.YtlcbgcieedbggaaDoor
