/- Texts of this claim, one behind the other: Glob. -/
import Derived.Test.YtlcbgcieedbggaaDoorMn1
import Derived.Test.YtlcbgcieedbggaaDoorMn11
set_option linter.unusedVariables false
set_option linter.unusedSimpArgs false
namespace Go.Proofs.YtlcbgcieedbggaaDoor.Pr
open Go Go.RowKit Go.Proofs.YtlcbgcieedbggaaDoorW.PrintWords Go.Proofs.YtlcbgcieedbggaaDoorW.PrintLast Go.Proofs.YtlcbgcieedbggaaDoorW.PrintMore

/-- The three moduli lie. -/
def Globals (w : World) : Prop := Mods 2305843009213693951 2305843009213693921 2305843009213693907 w
theorem Globals.below {w w' : World} (h : Globals w) (hb : Below w.heap.size w w') : Globals w' := Mods.kept h hb

theorem sl_of {α β : Type} (d : Kd α) (f : α → β) (enc : β → List Value) (hK : ∀ w x cs, d.K w x cs → cs = enc (f x)) (hpos : 0 < d.sz) {w : World} {A : Option Addr} {n : Nat} {xs : List α} (h : d.C w A n xs) (hl : xs.length ≤ 17592186044416) : SlA w d.sz enc A (xs.map f) := by
  refine ⟨by simpa using hl, ?_⟩
  obtain ⟨h1, h2, h3⟩ := h
  cases xs with
  | nil => exact .inl rfl
  | cons x r =>
    obtain ⟨ad, rfl, hc⟩ := h3 (by rw [← h1]; simp)
    obtain ⟨c0, hc1, hc2, hc3⟩ := hc 0 x (by simp)
    have hn : ad.spot = none ∧ ad.block < w.heap.size := by
      cases c0 with
      | nil => simp at hc1; omega
      | cons v t =>
        have h4 := hc3 0 v (by simp)
        simp only [Nat.zero_mul, Nat.zero_add, Addr.add, if_true] at h4
        refine ⟨?_, World.block_lt_of_cell? w ad h4⟩
        unfold World.cell? at h4
        split at h4
        · split at h4
          · cases h4
          · rename_i h5; simpa using h5
        · cases h4
    obtain ⟨b, off, sp⟩ := ad
    obtain ⟨hs, hb⟩ := hn
    simp only at hs hb
    subst hs
    refine .inr ⟨b, off, rfl, hb, fun j hj i v hv => ?_⟩
    rw [List.length_map] at hj
    obtain ⟨cs, hk1, hk2, hk3⟩ := hc j _ (List.getElem?_eq_getElem hj)
    have he := hK _ _ _ hk2
    rw [List.getElem_map] at hv
    rw [← he] at hv
    have h6 := hk3 i v hv
    have ha : (⟨b, off, none⟩ : Addr).add (j * d.sz + i) = ⟨b, off + j * d.sz + i, none⟩ := by unfold Addr.add; split <;> simp <;> omega
    rwa [ha] at h6

def toT (x : S44) : Tile := ⟨x.f0, x.f1, x.f2, x.f3⟩
def toF (x : S79) : Frac := ⟨x.f0, x.f1⟩
theorem tiles_of {w : World} {A : Option Addr} {n : Nat} {xs : List S44} (h : k44.C w A n xs) (hl : xs.length ≤ 17592186044416) : SlA w 4 encT A (xs.map toT) :=
  sl_of k44 toT encT (fun _ _ _ h => k44_open h) (by decide) h hl
theorem fracs_of {w : World} {A : Option Addr} {n : Nat} {xs : List S79} (h : k79.C w A n xs) (hl : xs.length ≤ 17592186044416) : SlA w 2 encF A (xs.map toF) :=
  sl_of k79 toF encF (fun _ _ _ h => k79_open h) (by decide) h hl
theorem ints_of {w : World} {A : Option Addr} {n : Nat} {xs : List Int} (h : (Kd.int .i64).C w A n xs) (hl : xs.length ≤ 17592186044416) : SlA w 1 encI A xs := by
  have := sl_of (Kd.int .i64) id encI (fun _ _ _ h => h) (by decide) h hl
  rwa [List.map_id] at this
end Go.Proofs.YtlcbgcieedbggaaDoor.Pr
