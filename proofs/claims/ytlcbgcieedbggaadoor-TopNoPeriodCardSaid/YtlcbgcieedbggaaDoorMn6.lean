/- Texts of this claim, one behind the other: Region. -/
import Derived.Test.YtlcbgcieedbggaaDoorMn2
import Derived.Orders
set_option linter.unusedVariables false
set_option linter.unusedSimpArgs false
namespace Go.Proofs.YtlcbgcieedbggaaDoor
open Go Go.RowKit

section
variable (P : Program) (ops : Array Oper) (Q : Exit → Act → World → Prop) (V : Nat → World → Value → Prop) (w0 : World) (base : Array Value) (d0 : List Deferred)

/-- What is known of the slots that an operation's edges lead to. -/
def depFacts (w : World) (a : Act) : List Edge → Prop
  | [] => True
  | e :: r => (Region.binds .any e = true → ∀ o d, ops[e.on]? = some o → o.dst = some d → V e.on w (a.tmps.getD d undef)) ∧ depFacts w a r

/-- Slot s is written by no operation that may have come ahead of operation i. -/
def baseOK (i s : Nat) : Bool := ops.toList.zipIdx.all fun p => p.1.dst != some s || p.1.after.toList.any fun e => e.on == i && Region.binds .any e

/-- One operation, looked at for itself. -/
def StepOK (i : Nat) (o : Oper) : Prop :=
  ∀ (a : Act) (w : World), Kept w0 w → a.defers = d0 → a.tmps.size = base.size → depFacts ops V w a o.after.toList → (∀ s, baseOK ops i s = true → a.tmps.getD s undef = base.getD s undef) →
    if Region.wanted o (yielded ops a.tmps) = true then o.wp P a w (fun a' w' => ∃ v, a' = a.put o.dst v ∧ Kept w w' ∧ V i w' v) Q else V i w undef

structure RInv (listed : Array Bool) (a : Act) (w : World) : Prop where
  kept : Kept w0 w
  defers : a.defers = d0
  len : a.tmps.size = base.size
  closed : ∀ k o, listed.getD k false = true → ops[k]? = some o → ∀ e ∈ o.after, Region.binds .any e = true → listed.getD e.on false = true
  vals : ∀ k o d, listed.getD k false = true → ops[k]? = some o → o.dst = some d → V k w (a.tmps.getD d undef)
  rest : ∀ s, (∀ k o, listed.getD k false = true → ops[k]? = some o → o.dst ≠ some s) → a.tmps.getD s undef = base.getD s undef

variable {P ops Q V w0 base d0}

theorem depFacts_of {listed : Array Bool} {a : Act} {w : World} (hI : RInv ops V w0 base d0 listed a w) : ∀ es : List Edge, (∀ e ∈ es, Region.binds .any e = true → listed.getD e.on false = true) → depFacts ops V w a es
  | [], _ => trivial
  | e :: r, h => ⟨fun hb o d ho hd => hI.vals e.on o d (h e (by simp) hb) ho hd, depFacts_of hI r (fun e' he' => h e' (by simp [he']))⟩

theorem put_getD (a : Act) (dst : Option Tmp) (v : Value) (s : Nat) (hlt : ∀ d, dst = some d → d < a.tmps.size) : (a.put dst v).tmps.getD s undef = if dst = some s then v else a.tmps.getD s undef := by
  cases dst with
  | none => simp [Act.put]
  | some d =>
    have := hlt d rfl
    by_cases h : d = s
    · subst h
      simp [Act.put, this]
    · have h2 : (some d : Option Tmp) ≠ some s := by simpa using h
      simp [Act.put, h, Array.getElem?_setIfInBounds_ne h]
theorem put_size (a : Act) (dst : Option Tmp) (v : Value) : (a.put dst v).tmps.size = a.tmps.size := by cases dst <;> simp [Act.put]
theorem put_defers (a : Act) (dst : Option Tmp) (v : Value) : (a.put dst v).defers = a.defers := by cases dst <;> simp [Act.put]

theorem rinv_step {listed : Array Bool} {a : Act} {w : World} {i : Nat} {o : Oper} (hmono : ∀ j w w' v, V j w v → Kept w w' → V j w' v)
    (hdist : ∀ (j k : Nat) (oj ok : Oper) (d : Nat), ops[j]? = some oj → ops[k]? = some ok → oj.dst = some d → ok.dst = some d → j = k) (hdlt : ∀ (j : Nat) (oj : Oper) (d : Nat), ops[j]? = some oj → oj.dst = some d → d < base.size)
    (hI : RInv ops V w0 base d0 listed a w) (hlen : listed.size = ops.size) (ho : ops[i]? = some o) (hnew : listed.getD i false = false) (hafter : ∀ e ∈ o.after, Region.binds .any e = true → listed.getD e.on false = true) {v : Value} {w' : World} (hk : Kept w w') (hv : V i w' v) :
    RInv ops V w0 base d0 (listed.setIfInBounds i true) (a.put o.dst v) w' := by
  have hilt : i < listed.size := by rw [hlen]; exact (Array.getElem?_eq_some_iff.1 ho).1
  have hset : ∀ k, (listed.setIfInBounds i true).getD k false = true → k = i ∨ listed.getD k false = true := by
    intro k hk
    by_cases h : i = k
    · exact .inl h.symm
    · exact .inr (by rwa [getD_set_ne false h] at hk)
  have hdl : ∀ d, o.dst = some d → d < a.tmps.size := fun d hd => by rw [hI.len]; exact hdlt i o d ho hd
  refine ⟨hI.kept.trans hk, by rw [put_defers]; exact hI.defers, by rw [put_size]; exact hI.len, ?_, ?_, ?_⟩
  · intro k ok hkl hok e he hb
    rcases hset k hkl with h | h
    · subst h
      rw [ho] at hok; cases hok
      exact getD_set_true (hafter e he hb)
    · exact getD_set_true (hI.closed k ok h hok e he hb)
  · intro k ok d hkl hok hd
    rw [put_getD _ _ _ _ hdl]
    rcases hset k hkl with h | h
    · subst h
      rw [ho] at hok; cases hok
      rw [if_pos hd]; exact hv
    · have hne : o.dst ≠ some d := by
        intro e
        have := hdist i k o ok d ho hok e hd
        subst this
        rw [hnew] at h; cases h
      rw [if_neg hne]
      exact hmono k w w' _ (hI.vals k ok d h hok hd) hk
  · intro s hs
    rw [put_getD _ _ _ _ hdl]
    have h1 : o.dst ≠ some s := hs i o (by simp [hilt]) ho
    rw [if_neg h1]
    exact hI.rest s (fun k ok hkl hok => hs k ok (getD_set_true hkl) hok)

/-- how many are not listed yet -/
def unlisted (listed : Array Bool) : Nat := (listed.toList.filter (fun b => !b)).length
theorem unlisted_set {listed : Array Bool} {i : Nat} (h : i < listed.size) (hn : listed.getD i false = false) : unlisted (listed.setIfInBounds i true) + 1 = unlisted listed := by
  unfold unlisted
  rw [Array.toList_setIfInBounds]
  have h' : i < listed.toList.length := by simpa using h
  have hn' : listed.toList[i] = false := by simpa [h] using hn
  clear hn h
  generalize listed.toList = l at *
  induction l generalizing i with
  | nil => simp at h'
  | cons b l ih =>
    cases i with
    | zero => simp at hn'; subst hn'; simp
    | succ i =>
      simp only [List.length_cons, Nat.add_lt_add_iff_right] at h'
      simp only [List.getElem_cons_succ] at hn'
      have := ih h' hn'
      cases b <;> simp [List.set_cons_succ, List.filter_cons] <;> omega

theorem wpAny_rel (hmono : ∀ j w w' v, V j w v → Kept w w' → V j w' v)
    (hdist : ∀ (j k : Nat) (oj ok : Oper) (d : Nat), ops[j]? = some oj → ops[k]? = some ok → oj.dst = some d → ok.dst = some d → j = k) (hdlt : ∀ (j : Nat) (oj : Oper) (d : Nat), ops[j]? = some oj → oj.dst = some d → d < base.size)
    (hstep : ∀ (i : Nat) (o : Oper), ops[i]? = some o → StepOK P ops Q V w0 base d0 i o)
    (hnr : ∀ listed : Array Bool, listed.size = ops.size → Region.ready .any ops listed = [] → ∀ k, k < ops.size → listed.getD k false = true)
    (hend : ∀ (a : Act) (w : World), Kept w0 w → a.defers = d0 → a.tmps.size = base.size → (∀ (k : Nat) (o : Oper) (d : Nat), ops[k]? = some o → o.dst = some d → V k w (a.tmps.getD d undef)) → (∀ s : Nat, (∀ (k : Nat) (o : Oper), ops[k]? = some o → o.dst ≠ some s) → a.tmps.getD s undef = base.getD s undef) → Q .normal a w) :
    ∀ (fuel : Nat) (listed : Array Bool) (a : Act) (w : World), listed.size = ops.size → unlisted listed ≤ fuel → RInv ops V w0 base d0 listed a w → wpAny P .any ops Q fuel listed a w := by
  have done : ∀ (listed : Array Bool) (a : Act) (w : World), listed.size = ops.size → RInv ops V w0 base d0 listed a w → Region.ready .any ops listed = [] → Q .normal a w := by
    intro listed a w hl hI hr
    have hall := hnr listed hl hr
    exact hend a w hI.kept hI.defers hI.len (fun k o d ho hd => hI.vals k o d (hall k (Array.getElem?_eq_some_iff.1 ho).1) ho hd) (fun s hs => hI.rest s (fun k o _ ho => hs k o ho))
  intro fuel
  induction fuel with
  | zero =>
    intro listed a w hl hu hI
    have hr : Region.ready .any ops listed = [] := by
      rw [List.eq_nil_iff_forall_not_mem]
      intro j hj
      obtain ⟨h0, o, ho, _⟩ := mem_ready.1 hj
      have hlt : j < listed.size := by rw [hl]; exact (Array.getElem?_eq_some_iff.1 ho).1
      have hn : listed.getD j false = false := by
        rw [Array.getD_eq_getD_getElem?] at h0 ⊢; simp [hlt] at h0 ⊢; exact h0
      have := unlisted_set hlt hn
      omega
    exact ⟨hr, done listed a w hl hI hr⟩
  | succ fuel ih =>
    intro listed a w hl hu hI
    refine ⟨fun hr => done listed a w hl hI hr, fun i hi => ?_⟩
    obtain ⟨h0, o, ho, hafter⟩ := mem_ready.1 hi
    have hlt : i < listed.size := by rw [hl]; exact (Array.getElem?_eq_some_iff.1 ho).1
    have hn : listed.getD i false = false := by
      rw [Array.getD_eq_getD_getElem?] at h0 ⊢; simp [hlt] at h0 ⊢; exact h0
    have hu' := unlisted_set hlt hn
    have hs := hstep i o ho a w hI.kept hI.defers hI.len (depFacts_of hI _ (fun e he hb => hafter e (by simpa using he) hb)) (by
      intro s hs
      refine hI.rest s (fun k ok hkl hok hd => ?_)
      have h1 := List.all_eq_true.1 hs (ok, k) (by
        rw [List.mem_zipIdx_iff_getElem?]
        simpa using hok)
      simp only [hd, bne_self_eq_false, Bool.false_or, List.any_eq_true] at h1
      obtain ⟨e, he, hb⟩ := h1
      simp only [Bool.and_eq_true, beq_iff_eq] at hb
      have := hI.closed k ok hkl hok e (by simpa using he) hb.2
      rw [hb.1, hn] at this; cases this)
    unfold wpOp
    simp only [ho]
    split
    · rename_i hw
      rw [if_pos hw] at hs
      refine .inl (Oper.wp_mono ?_ hs)
      rintro a' w' ⟨v, rfl, hk, hv⟩
      exact ih _ _ _ (by simpa using hl) (by omega) (rinv_step hmono hdist hdlt hI hl ho hn hafter hk hv)
    · rename_i hw
      rw [if_neg hw] at hs
      exact ih _ _ _ (by simpa using hl) (by omega) (rinv_step hmono hdist hdlt hI hl ho hn hafter (Kept.refl w) hs)

/-- Each edge that binds leads back. -/
def backOK (ops : Array Oper) : Bool := ops.toList.zipIdx.all fun p => p.1.after.toList.all fun e => !Region.binds .any e || decide (e.on < p.2)
/-- No two operations write one slot, and each slot is there. -/
def dstsOK (ops : Array Oper) (n : Nat) : Bool := decide ((ops.toList.filterMap (·.dst)).Nodup) && (ops.toList.filterMap (·.dst)).all (fun d => decide (d < n))

theorem all_listed (hb : backOK ops = true) (listed : Array Bool) (hl : listed.size = ops.size) (hr : Region.ready .any ops listed = []) : ∀ k, k < ops.size → listed.getD k false = true := by
  intro k
  induction k using Nat.strongRecOn with
  | _ k ih =>
    intro hk
    cases hc : listed.getD k false with
    | true => rfl
    | false =>
      exfalso
      have hmem : k ∈ Region.ready .any ops listed := by
        refine mem_ready.2 ⟨?_, ops[k], by simp [hk], ?_⟩
        · have : k < listed.size := by omega
          rw [Array.getD_eq_getD_getElem?] at hc ⊢; simp [this] at hc ⊢; exact hc
        · intro e he hbi
          have h1 := List.all_eq_true.1 hb (ops[k], k) (by rw [List.mem_zipIdx_iff_getElem?]; simp [hk])
          have h2 := List.all_eq_true.1 h1 e (by simpa using he)
          simp only [hbi, Bool.not_true, Bool.false_or, decide_eq_true_eq] at h2
          exact ih e.on h2 (by omega)
      rw [hr] at hmem; cases hmem

theorem filterMap_inj {l : List Oper} (hn : (l.filterMap (·.dst)).Nodup) : ∀ (j k : Nat) (oj ok : Oper) (d : Nat), l[j]? = some oj → l[k]? = some ok → oj.dst = some d → ok.dst = some d → j = k := by
  induction l with
  | nil => intro j k oj ok d h; simp at h
  | cons o l ih =>
    have hn2 : (l.filterMap (·.dst)).Nodup := by
      simp only [List.filterMap_cons] at hn
      split at hn
      · exact hn
      · exact (List.nodup_cons.1 hn).2
    have hno : ∀ (k : Nat) (ok : Oper) (d : Nat), l[k]? = some ok → ok.dst = some d → o.dst ≠ some d := by
      intro k ok d hk hd ho
      rw [List.filterMap_cons, ho] at hn
      exact (List.nodup_cons.1 hn).1 (List.mem_filterMap.2 ⟨ok, List.mem_of_getElem? hk, hd⟩)
    intro j k oj ok d hj hk hdj hdk
    cases j with
    | zero =>
      cases k with
      | zero => rfl
      | succ k => simp at hj hk; subst hj; exact absurd hdj (hno k ok d hk hdk)
    | succ j =>
      cases k with
      | zero => simp at hj hk; subst hk; exact absurd hdk (hno j oj d hj hdj)
      | succ k => simp at hj hk; rw [ih hn2 j k oj ok d hj hk hdj hdk]

/-- The steps, one behind the other. -/
def stepsOK (P : Program) (ops : Array Oper) (Q : Exit → Act → World → Prop) (V : Nat → World → Value → Prop) (w0 : World) (base : Array Value) (d0 : List Deferred) : List Oper → Nat → Prop
  | [], _ => True
  | o :: r, i => StepOK P ops Q V w0 base d0 i o ∧ stepsOK P ops Q V w0 base d0 r (i + 1)
theorem stepsOK_at : ∀ (l : List Oper) (n : Nat), stepsOK P ops Q V w0 base d0 l n → ∀ (i : Nat) (o : Oper), l[i]? = some o → StepOK P ops Q V w0 base d0 (n + i) o
  | [], _, _, i, o, h => by simp at h
  | x :: r, n, hs, 0, o, h => by simp at h; subst h; exact hs.1
  | x :: r, n, hs, i + 1, o, h => by
    have := stepsOK_at r (n + 1) hs.2 i o (by simpa using h)
    rwa [show n + (i + 1) = n + 1 + i by omega]

/-- THE LAW: a region that draws its order. -/
theorem wp_region_rel {id : Nat} {a : Act} {w : World} (hm : P.follows .mixedOrders = true) (V : Nat → World → Value → Prop) (hmono : ∀ j w w' v, V j w v → Kept w w' → V j w' v)
    (hb : backOK ops = true) (hd : dstsOK ops a.tmps.size = true) (hstep : stepsOK P ops Q V { w with drawn := w.drawn + 1 } a.tmps a.defers ops.toList 0)
    (hend : ∀ (tmps : Array Value) (w' : World), Kept w w' → tmps.size = a.tmps.size → (∀ (k : Nat) (o : Oper) (d : Nat), ops[k]? = some o → o.dst = some d → V k w' (tmps[d]?.getD undef)) → (∀ s : Nat, (ops.toList.all fun o => o.dst != some s) = true → tmps[s]?.getD undef = a.tmps[s]?.getD undef) → Q .normal { tmps, defers := a.defers } w') :
    (Code.region id ops true).wp P Q a w := by
  have hk0 : Kept w { w with drawn := w.drawn + 1 } := ⟨rfl, rfl, rfl, Nat.le_refl _, fun _ _ => rfl⟩
  have hd' := (Bool.and_eq_true _ _).mp hd
  have hn : (ops.toList.filterMap (·.dst)).Nodup := of_decide_eq_true hd'.1
  refine wp_region_any hm (wpAny_rel (V := V) (w0 := { w with drawn := w.drawn + 1 }) (base := a.tmps) (d0 := a.defers) hmono ?_ ?_ ?_ (all_listed hb) ?_ ops.size _ a _ (by simp) ?_ ?_)
  · intro j k oj ok d hj hk hdj hdk
    exact filterMap_inj hn j k oj ok d (by simpa using hj) (by simpa using hk) hdj hdk
  · intro j oj d hj hdj
    have := List.all_eq_true.1 hd'.2 d (List.mem_filterMap.2 ⟨oj, List.mem_of_getElem? (i := j) (by simpa using hj), hdj⟩)
    exact of_decide_eq_true this
  · intro i o ho
    have := stepsOK_at _ 0 hstep i o (by simpa using ho)
    rwa [Nat.zero_add] at this
  · intro a' w' hk h1 h2 h3 h4
    obtain ⟨tmps, defers⟩ := a'
    simp only at h1 h2 h3 h4
    subst h1
    refine hend tmps w' (hk0.trans hk) h2 (fun k o d ho hd' => by rw [← Array.getD_eq_getD_getElem?]; exact h3 k o d ho hd') (fun s hs => ?_)
    rw [← Array.getD_eq_getD_getElem?, ← Array.getD_eq_getD_getElem?]
    refine h4 s (fun k o ho hd' => ?_)
    have := List.all_eq_true.1 hs o (List.mem_of_getElem? (i := k) (by simpa using ho))
    rw [hd'] at this
    simp at this
  · unfold unlisted
    simp only [Array.toList_replicate]
    exact Nat.le_trans (List.length_filter_le _ _) (by simp)
  · have hf : ∀ k, (Array.replicate ops.size false).getD k false = true → False := by
      intro k h
      rw [Array.getD_eq_getD_getElem?] at h
      by_cases hk : k < ops.size
      · simp [hk] at h
      · simp [hk] at h
    exact ⟨Kept.refl _, rfl, rfl, fun k o h => (hf k h).elim, fun k o d h => (hf k h).elim, fun s _ => rfl⟩

/-- What an edge that binds tells. -/
theorem depAt {w : World} {a : Act} : ∀ {es : List Edge}, depFacts ops V w a es → ∀ (j : Nat), es.any (fun e => e.on == j && Region.binds .any e) = true → ∀ (o : Oper) (d : Nat), ops[j]? = some o → o.dst = some d → V j w (a.tmps.getD d undef)
  | [], _, j, h => by simp at h
  | e :: r, hf, j, h => by
    intro o d ho hd
    simp only [List.any_cons, Bool.or_eq_true, Bool.and_eq_true, beq_iff_eq] at h
    rcases h with ⟨h1, h2⟩ | h
    · subst h1; exact hf.1 h2 o d ho hd
    · exact depAt hf.2 j h o d ho hd

theorem arr_range (t : Array Value) (n : Nat) (h : t.size = n) : t = ((List.range n).map fun s => t[s]?.getD undef).toArray := by
  refine Array.ext (by simp [h]) fun i h1 h2 => ?_
  simp [h1]

/-- A step whose operation only reckons. -/
theorem step_val {i : Nat} {o : Oper} (hg : o.guard = none) (h : ∀ (a : Act) (w : World), Kept w0 w → depFacts ops V w a o.after.toList → (∀ s, baseOK ops i s = true → a.tmps.getD s undef = base.getD s undef) → ∃ v, (execOp a.eval o).run P w = .ok (.value v) w ∧ V i w v) :
    StepOK P ops Q V w0 base d0 i o := by
  intro a w hk _ _ hdep hbase
  rw [if_pos (by simp [Region.wanted, hg])]
  obtain ⟨v, hrun, hV⟩ := h a w hk hdep hbase
  unfold Oper.wp
  rw [hrun]
  exact ⟨v, rfl, Kept.refl w, hV⟩
/-- A step whose operation may lay a block. -/
theorem step_new {i : Nat} {o : Oper} (hg : o.guard = none) (h : ∀ (a : Act) (w : World), Kept w0 w → depFacts ops V w a o.after.toList → (∀ s, baseOK ops i s = true → a.tmps.getD s undef = base.getD s undef) → ∃ v w', (execOp a.eval o).run P w = .ok (.value v) w' ∧ Kept w w' ∧ V i w' v) :
    StepOK P ops Q V w0 base d0 i o := by
  intro a w hk _ _ hdep hbase
  rw [if_pos (by simp [Region.wanted, hg])]
  obtain ⟨v, w', hrun, hk', hV⟩ := h a w hk hdep hbase
  unfold Oper.wp
  rw [hrun]
  exact ⟨v, rfl, hk', hV⟩
/-- A step that calls a Go function. -/
theorem step_call {i : Nat} {o : Oper} (hg : o.guard = none) (h : ∀ (a : Act) (w : World), Kept w0 w → depFacts ops V w a o.after.toList → (∀ s, baseOK ops i s = true → a.tmps.getD s undef = base.getD s undef) →
    ∃ f args w1, (execOp a.eval o).run P w = .ok (.enter f args) w1 ∧ Kept w w1 ∧ Calls P f args w1 fun e w' => ∃ v, e = .returned v ∧ Kept w w' ∧ V i w' v) :
    StepOK P ops Q V w0 base d0 i o := by
  intro a w hk _ _ hdep hbase
  rw [if_pos (by simp [Region.wanted, hg])]
  obtain ⟨f, args, w1, hrun, hk1, hc⟩ := h a w hk hdep hbase
  unfold Oper.wp
  rw [hrun, Oper.upon_enter]
  refine hc.mono ?_
  rintro e w' ⟨v, rfl, hk', hV⟩
  exact ⟨v, rfl, hk', hV⟩
end
end Go.Proofs.YtlcbgcieedbggaaDoor
