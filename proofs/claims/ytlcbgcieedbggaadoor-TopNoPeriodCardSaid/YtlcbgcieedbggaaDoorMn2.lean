/- Texts of this claim, one behind the other: Core. -/
import Derived.WalkKit
import Derived.Deep.LoopGhost
import Derived.Shelf.Abstract
import Derived.Lib.Hide
import Derived.Deep.DeepMust
import Derived.Deep.DeepFit
import Derived.Handy
import Derived.Deep.Cut
import Derived.Deep.CutRange
import Derived.Deep.DeepCutAuto
import Derived.Deep.CutBlock
import Derived.Deep.RegionHeld3
import Derived.WalkLawsBesides
import Derived.WalkSpells
import Derived.WalkSmall
import Derived.Deep.QuietTactic
import Derived.BigQuiet
import Derived.StillTailTactics
set_option linter.unusedVariables false
set_option linter.unusedSimpArgs false
namespace Go.Proofs.YtlcbgcieedbggaaDoor
open Go Go.RowKit

/-- What lay in w lies unturned in w'. -/
abbrev Kept (w w' : World) : Prop := Below w.heap.size w w'
theorem Kept.refl (w : World) : Kept w w := Below.refl _ w
theorem Kept.trans {a b c : World} (h : Kept a b) (k : Kept b c) : Kept a c := Below.trans h (Below.mono k h.size)
theorem Kept.after {B : Nat} {a b c : World} (h : Below B a b) (hB : B ≤ b.heap.size) (k : Kept b c) : Below B a c := Below.trans h (Below.mono k hB)

theorem Kept.drewN (w : World) (n : Nat) : Kept w (w.drewN n) := below_drewN (Kept.refl w) n

/-- What the walk reads of a world behind a call that turned nothing: two rules. -/
theorem Kept.cells {w w' : World} (h : Kept w w') : (∀ b o, b < w.heap.size → w'.cell? ⟨b, o, none⟩ = w.cell? ⟨b, o, none⟩) ∧ (∀ b o, b < w.heap.size → w'.frozen? ⟨b, o, none⟩ = w.frozen? ⟨b, o, none⟩) :=
  ⟨fun b o hb => h.cell (p := ⟨b, o, none⟩) hb, fun b o hb => h.frozen (p := ⟨b, o, none⟩) hb⟩

structure Tile where
  N : Int
  E : Int
  S : Int
  W : Int
  deriving DecidableEq, Inhabited
structure Frac where
  num : Int
  den : Int
  deriving DecidableEq, Inhabited

def encI (x : Int) : List Value := [.int .i64 x]
def encT (t : Tile) : List Value := [.int .i64 t.N, .int .i64 t.E, .int .i64 t.S, .int .i64 t.W]
def encF (f : Frac) : List Value := [.int .i64 f.num, .int .i64 f.den]

/-- A slice of xs (elements of k cells) lies at a. -/
structure SlA (w : World) (k : Nat) {α : Type} (enc : α → List Value) (a : Option Addr) (xs : List α) : Prop where
  len : xs.length ≤ 17592186044416
  lies : xs = [] ∨ ∃ b off, a = some ⟨b, off, none⟩ ∧ b < w.heap.size ∧ ∀ j (h : j < xs.length) i v, (enc xs[j])[i]? = some v → w.cell? ⟨b, off + j * k + i, none⟩ = some v

theorem SlA.kept {w w' : World} {k : Nat} {α : Type} {enc : α → List Value} {a : Option Addr} {xs : List α} (h : SlA w k enc a xs) (hk : Kept w w') : SlA w' k enc a xs := by
  refine ⟨h.len, ?_⟩
  rcases h.lies with h | ⟨b, off, ha, hb, hc⟩
  · exact .inl h
  · exact .inr ⟨b, off, ha, Nat.lt_of_lt_of_le hb hk.size, fun j hj i v hv => (hk.cell (p := ⟨b, off + j * k + i, none⟩) hb).trans (hc j hj i v hv)⟩

theorem SlA.nil {w : World} {k : Nat} {α : Type} {enc : α → List Value} {a : Option Addr} : SlA w k enc a ([] : List α) := ⟨by simp, .inl rfl⟩

theorem SlA.get {w : World} {k : Nat} {α : Type} {enc : α → List Value} {a : Option Addr} {xs : List α} (h : SlA w k enc a xs) {j : Nat} (hj : j < xs.length) :
    ∃ b off, a = some ⟨b, off, none⟩ ∧ b < w.heap.size ∧ ∀ j (h : j < xs.length) i v, (enc xs[j])[i]? = some v → w.cell? ⟨b, off + j * k + i, none⟩ = some v := by
  rcases h.lies with h | h
  · simp [h] at hj
  · exact h

/-- An int of a slice. -/
theorem SlA.int {w : World} {a : Option Addr} {xs : List Int} (h : SlA w 1 encI a xs) {j : Nat} (hj : j < xs.length) :
    ∃ b off, a = some ⟨b, off, none⟩ ∧ b < w.heap.size ∧ w.cell? ⟨b, off + j, none⟩ = some (.int .i64 xs[j]) := by
  obtain ⟨b, off, ha, hb, hc⟩ := h.get hj
  exact ⟨b, off, ha, hb, by simpa using hc j hj 0 _ rfl⟩

/-- A tile of a slice. -/
theorem SlA.tile {w : World} {a : Option Addr} {xs : List Tile} (h : SlA w 4 encT a xs) {j : Nat} (hj : j < xs.length) :
    ∃ b off, a = some ⟨b, off, none⟩ ∧ b < w.heap.size ∧ w.cell? ⟨b, off + j * 4, none⟩ = some (.int .i64 xs[j].N) ∧ w.cell? ⟨b, off + j * 4 + 1, none⟩ = some (.int .i64 xs[j].E) ∧
      w.cell? ⟨b, off + j * 4 + 2, none⟩ = some (.int .i64 xs[j].S) ∧ w.cell? ⟨b, off + j * 4 + 3, none⟩ = some (.int .i64 xs[j].W) := by
  obtain ⟨b, off, ha, hb, hc⟩ := h.get hj
  exact ⟨b, off, ha, hb, by simpa using hc j hj 0 _ rfl, hc j hj 1 _ rfl, hc j hj 2 _ rfl, hc j hj 3 _ rfl⟩

/-- A fraction of a slice. -/
theorem SlA.frac {w : World} {a : Option Addr} {xs : List Frac} (h : SlA w 2 encF a xs) {j : Nat} (hj : j < xs.length) :
    ∃ b off, a = some ⟨b, off, none⟩ ∧ b < w.heap.size ∧ w.cell? ⟨b, off + j * 2, none⟩ = some (.int .i64 xs[j].num) ∧ w.cell? ⟨b, off + j * 2 + 1, none⟩ = some (.int .i64 xs[j].den) := by
  obtain ⟨b, off, ha, hb, hc⟩ := h.get hj
  exact ⟨b, off, ha, hb, by simpa using hc j hj 0 _ rfl, hc j hj 1 _ rfl⟩

/-- How a value of some cells stands among the arguments. -/
def asValue (l : List Value) : Value := match l with | [v] => v | l => .agg l.toArray

/-- What is asked of a function value: for each element of a list it says p, and turns nothing that lay. -/
def Pred (P : Program) {α : Type} (g : Nat) (lb : Array Value) (enc : α → List Value) (p : α → Bool) (w : World) (xs : List α) : Prop :=
  ∀ W x, x ∈ xs → Kept w W → Calls P g (#[asValue (enc x)] ++ lb) W fun e w' => e = .returned (.bool (p x)) ∧ Kept W w'

/-- slices.IndexFunc as a number. -/
def idxOf {α : Type} (p : α → Bool) (xs : List α) : Int := (xs.findIdx? p).elim (-1) fun i => (i : Int)

theorem idxOf_hit {α : Type} {p : α → Bool} {xs : List α} {k : Nat} (hk : k < xs.length) (hp : p xs[k] = true) (h : ∀ j (hj : j < xs.length), j < k → p xs[j] = false) : idxOf p xs = k := by
  have : xs.findIdx? p = some k := by
    rw [List.findIdx?_eq_some_iff_getElem]
    exact ⟨hk, hp, fun j hj => by simpa using h j (by omega) hj⟩
  simp [idxOf, this]
theorem idxOf_miss {α : Type} {p : α → Bool} {xs : List α} (h : ∀ j (hj : j < xs.length), p xs[j] = false) : idxOf p xs = -1 := by
  have : xs.findIdx? p = none := by
    rw [List.findIdx?_eq_none_iff]
    intro x hx
    obtain ⟨j, hj, rfl⟩ := List.getElem_of_mem hx
    simpa using h j hj
  simp [idxOf, this]
theorem idxOf_any {α : Type} (p : α → Bool) (xs : List α) : decide (0 ≤ idxOf p xs) = xs.any p := by
  by_cases h : ∃ x ∈ xs, p x = true
  · have h2 : xs.any p = true := by simpa using h
    have h3 : (xs.findIdx? p).isSome = true := by rw [List.findIdx?_isSome]; exact h2
    obtain ⟨i, hi⟩ := Option.isSome_iff_exists.1 h3
    rw [h2]; simp [idxOf, hi]
  · have h2 : xs.any p = false := by rw [Bool.eq_false_iff]; simpa using h
    have h3 : xs.findIdx? p = none := by
      rw [List.findIdx?_eq_none_iff]; intro x hx; simpa using fun h' => h ⟨x, hx, h'⟩
    rw [h2]; simp [idxOf, h3]
theorem idxOf_lt {α : Type} (p : α → Bool) (xs : List α) : idxOf p xs < xs.length ∨ idxOf p xs = -1 := by
  unfold idxOf
  cases h : xs.findIdx? p with
  | none => simp
  | some i =>
    obtain ⟨h1, _⟩ := List.findIdx?_eq_some_iff_getElem.1 h
    left; simp; omega
end Go.Proofs.YtlcbgcieedbggaaDoor
