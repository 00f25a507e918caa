/- Texts of this claim, one behind the other: Open. -/
import Derived.Test.YtlcbgcieedbggaaDoorWWords
import Derived.ProofKit
import Derived.OpenShut
import Derived.SizedLaws
import Derived.Deep.Slices
set_option linter.unusedVariables false
set_option linter.unusedSimpArgs false
namespace Go.Proofs.YtlcbgcieedbggaaDoor.Opening
open Go Go.RowKit Go.ChangeShapes Go.WideShapes Go.Proofs.YtlcbgcieedbggaaDoorW.PrintWords

section
variable {H : Type} {enc : TypeId × Value → H} {P : Program} {W : World}

/-- A type's reading opens as a kind; fit: what is known of the value besides. -/
def Opn (enc : TypeId × Value → H) (P : Program) (W : World) (t : TypeId) {α : Type} (d : Kd α) (fit : α → Prop) : Prop :=
  ∀ (fuel : Nat) (cs : List Value) (x : DataW H × List MemPlace), DataW.trod enc P W 0 (fun _ => true) true fuel t cs = some x → (x.1.weights P t).all (· ≤ reachBytes) = true → ∃ a : α, d.K W a cs ∧ fit a

theorem opn_int {t : TypeId} {k : IntKind} (ht : P.underlying t = some (.int k)) : Opn enc P W t (Kd.int k) (fun n => (Lit.int k n).wf = true) := by
  intro fuel cs x h _
  obtain ⟨n, rfl, _, hw⟩ := DataW.trod_int ht h
  exact ⟨n, rfl, hw⟩
theorem opn_bool {t : TypeId} (ht : P.underlying t = some .bool) : Opn enc P W t Kd.bool (fun _ => True) := by
  intro fuel cs x h _
  obtain ⟨n, rfl, _⟩ := DataW.trod_bool ht h
  exact ⟨n, rfl, trivial⟩
theorem opn_string {t : TypeId} (ht : P.underlying t = some .string) : Opn enc P W t Kd.string (fun s => s.size ≤ reachBytes) := by
  intro fuel cs x h hw
  obtain ⟨s, rfl, rfl, _⟩ := DataW.trod_string ht h
  refine ⟨s, rfl, ?_⟩
  simpa [DataW.weights] using hw

theorem weightsAll_mem {e : TypeId} {l : List (DataW H)} {d : DataW H} (h : d ∈ l) : ∀ n ∈ d.weights P e, n ∈ DataW.weightsAll P e l := by
  induction l with
  | nil => cases h
  | cons a r ih =>
    intro n hn
    simp only [DataW.weightsAll, List.mem_append]
    rcases List.mem_cons.1 h with rfl | h
    · exact .inl hn
    · exact .inr (ih h n hn)

/-- A list out of its places. -/
theorem list_of {α : Type} {Q : Nat → α → Prop} : ∀ (n : Nat), (∀ i, i < n → ∃ a, Q i a) → ∃ l : List α, l.length = n ∧ ∀ i (h : i < l.length), Q i l[i]
  | 0, _ => ⟨[], rfl, fun i h => by simp at h⟩
  | n + 1, h => by
    obtain ⟨l, hl, hq⟩ := list_of n (fun i hi => h i (by omega))
    obtain ⟨a, ha⟩ := h n (by omega)
    refine ⟨l ++ [a], by simp [hl], fun i hi => ?_⟩
    by_cases hlt : i < l.length
    · rw [List.getElem_append_left hlt]; exact hq i hlt
    · have : i = l.length := by simp at hi; omega
      subst this
      rw [List.getElem_append_right (Nat.le_refl _)]
      simpa [hl] using ha

theorem opn_slice {t e : TypeId} {α : Type} {d : Kd α} {fit : α → Prop} (ht : P.underlying t = some (.slice e)) (hsz : P.cellsOf e = d.sz) (he : Opn enc P W e d fit) :
    Opn enc P W t (Kd.slice e d) (fun l => (∀ a ∈ l, fit a) ∧ l.length * P.bytesOf e ≤ reachBytes) := by
  intro fuel cs x h hw
  rcases DataW.trod_slice ht h with ⟨rfl, rfl⟩ | ⟨a, len, cap, elems, rest, n, rfl, rfl, rfl, _, hl, hm, hlen, hel, _, _⟩
  · exact ⟨[], ⟨none, 0, rfl, Nat.le_refl _, ⟨rfl, by simp, fun h => absurd h (by simp)⟩⟩, fun a ha => by (cases ha), by simp⟩
  · simp only [DataW.weights, ht, List.all_cons, Bool.and_eq_true, decide_eq_true_eq, List.length_map, List.all_append] at hw
    obtain ⟨hw1, hw2, _⟩ := hw
    have hone : ∀ i, i < len → ∃ b : α, (fit b ∧ ∃ c : List Value, d.K W b c ∧ ∀ j u, c[j]? = some u → W.cell? (a.add (i * d.sz + j)) = some u) := by
      intro i hi
      have h1 := hel i hi
      have hie : i < elems.length := by omega
      rw [List.getElem?_eq_getElem hie, Option.bind_eq_some_iff] at h1
      obtain ⟨c, hc, hr⟩ := h1
      obtain ⟨_, hcl, hcc⟩ := World.cells?_some hc
      obtain ⟨b, hb, hf⟩ := he n c _ hr (by
        rw [List.all_eq_true] at hw2 ⊢
        intro m hm
        exact hw2 m (weightsAll_mem (List.mem_map.2 ⟨_, List.getElem_mem hie, rfl⟩) m hm))
      refine ⟨b, hf, c, hb, fun j u hj => ?_⟩
      have hjl : j < P.cellsOf e := by rw [← hcl]; exact (List.getElem?_eq_some_iff.1 hj).1
      have h2 := hcc j hjl
      rw [Go.Deep.add_add, hj, hsz] at h2
      exact h2
    obtain ⟨l, hll, hq⟩ := list_of len hone
    refine ⟨l, ⟨some a, cap, by rw [hll], by omega, ⟨rfl, by rw [hll]; unfold maxLen at hm; omega, fun _ => ⟨a, rfl, fun j p hj => ?_⟩⟩⟩, fun b hb => ?_, ?_⟩
    · obtain ⟨hjl, rfl⟩ := List.getElem?_eq_some_iff.1 hj
      obtain ⟨_, c, hc, hcc⟩ := hq j hjl
      exact ⟨c, d.K_len hc, hc, hcc⟩
    · obtain ⟨j, hj, rfl⟩ := List.getElem_of_mem hb
      exact (hq j hj).1
    · rw [hll]
      refine Nat.le_trans (Nat.mul_le_mul_right _ ?_) hw1
      omega

/-- The fields from an offset on. -/
def OpnF (enc : TypeId × Value → H) (P : Program) (W : World) (l : List Field) (off : Nat) {α : Type} (d : Kd α) (fit : α → Prop) : Prop :=
  ∀ (n : Nat) (cs : List Value) (ys : List (DataW H × List MemPlace)), ys.length = l.length → (∀ (i : Nat) (f : Field), l[i]? = some f → DataW.trod enc P W 0 (fun _ => true) true n f.type ((cs.drop f.offset).take (P.cellsOf f.type)) = ys[i]?) →
    (DataW.weightsEach P (l.map (·.type)) (ys.map (·.1))).all (· ≤ reachBytes) = true → (cs.drop off).length = (l.map fun f : Field => P.cellsOf f.type).sum → ∃ a : α, d.K W a (cs.drop off) ∧ fit a

theorem opnF_one {f : Field} {off : Nat} {α : Type} {d : Kd α} {fit : α → Prop} (ho : f.offset = off) (h : Opn enc P W f.type d fit) : OpnF enc P W [f] off d fit := by
  intro n cs ys hl ht hw hlen
  match ys, hl with
  | [y], _ =>
    have h1 := ht 0 f rfl
    rw [ho, List.take_of_length_le (by simp at hlen ⊢; omega)] at h1
    exact h n _ y h1 (by simpa [DataW.weightsEach] using hw)
theorem opnF_cons {f : Field} {r : List Field} {off : Nat} {α β : Type} {d0 : Kd α} {d1 : Kd β} {fit0 : α → Prop} {fit1 : β → Prop} (ho : f.offset = off) (h : Opn enc P W f.type d0 fit0) (hr : OpnF enc P W r (off + P.cellsOf f.type) d1 fit1) :
    OpnF enc P W (f :: r) off (Kd.pair d0 d1) (fun x => fit0 x.1 ∧ fit1 x.2) := by
  intro n cs ys hl ht hw hlen
  match ys, hl with
  | y :: ys, hl =>
    simp only [List.map_cons, DataW.weightsEach, List.all_append, Bool.and_eq_true] at hw
    have h1 := ht 0 f rfl
    rw [ho] at h1
    obtain ⟨a, ha, hfa⟩ := h n _ y h1 hw.1
    obtain ⟨b, hb, hfb⟩ := hr n cs ys (by simpa using hl) (fun i f' hf => by simpa using ht (i + 1) f' (by simpa using hf)) hw.2 (by
      simp only [List.map_cons, List.sum_cons, List.length_drop] at hlen ⊢
      omega)
    refine ⟨(a, b), ⟨_, _, ?_, ha, hb⟩, hfa, hfb⟩
    rw [← List.drop_drop]
    exact (List.take_append_drop _ _).symm
theorem opn_struct {t : TypeId} {fs : Array Field} {α β : Type} {d : Kd α} {fit : α → Prop} (ht : P.underlying t = some (.struct fs)) (hs : P.cellsOf t = (fs.toList.map fun f : Field => P.cellsOf f.type).sum) (hf : OpnF enc P W fs.toList 0 d fit) (f : β → α) (g : α → β) (hfg : ∀ a, f (g a) = a) :
    Opn enc P W t (Kd.iso d f) (fun x => fit (f x)) := by
  intro fuel cs x h hw
  obtain ⟨xs, n, rfl, rfl, hcl, hxl, hi⟩ := DataW.trod_struct ht h
  simp only [DataW.weights, ht] at hw
  obtain ⟨a, ha, hfa⟩ := hf n cs xs (by simpa using hxl) (fun i f' hf' => hi i f' (by simpa using hf')) hw (by simpa [hcl] using hs)
  exact ⟨g a, by show d.K W (f (g a)) cs; rw [hfg]; simpa using ha, by show fit (f (g a)); rw [hfg]; exact hfa⟩

/-- A parameter. -/
theorem opn_at {t : TypeId} {α : Type} {d : Kd α} {fit : α → Prop} (ho : Opn enc P W t d fit) {v : Value} {x : DataW H} {p : List MemPlace} (h : DataW.Trod enc P W 0 (fun _ => true) true t v x p) {ts : List TypeId} {ds : List (DataW H)} (hsz : (DataW.weightsEach P ts ds).all (· ≤ reachBytes) = true) (j : Nat) (hts : ts[j]? = some t) (hds : ds[j]? = some x) :
    ∃ a : α, d.K W a v.cells.toList ∧ fit a := by
  obtain ⟨fuel, hf⟩ := h
  refine ho fuel _ _ hf ?_
  rw [List.all_eq_true] at hsz ⊢
  exact fun n hn => hsz n (DataW.weights_mem_each hts hds n hn)
end
end Go.Proofs.YtlcbgcieedbggaaDoor.Opening
