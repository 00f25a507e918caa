/- Texts of this claim, one behind the other: Row, Wi, Wj. -/
import Derived.Test.YtlcbgcieedbggaaDoorProg
import Derived.Test.YtlcbgcieedbggaaDoorMn2
import Derived.OwnWalk
import Derived.Lib.SliceRun
import Derived.Laws.AppendOwn
import Derived.Test.YtlcbgcieedbggaaDoorMn3
set_option linter.unusedVariables false
set_option linter.unusedSimpArgs false
namespace Go.Proofs.YtlcbgcieedbggaaDoor
open Go Go.RowKit

def encs (xs : List Tile) : List Value := xs.flatMap encT
theorem encT_length (t : Tile) : (encT t).length = 4 := rfl
theorem encs_length (xs : List Tile) : (encs xs).length = xs.length * 4 := by
  induction xs with
  | nil => rfl
  | cons t r ih => simp only [encs, List.flatMap_cons, List.length_append, encT_length, List.length_cons] at *; omega
theorem encs_append (xs ys : List Tile) : encs (xs ++ ys) = encs xs ++ encs ys := by simp [encs]
theorem encs_get (xs : List Tile) : ∀ (j : Nat) (hj : j < xs.length) (i : Nat), i < 4 → (encs xs)[j * 4 + i]? = (encT xs[j])[i]? := by
  induction xs with
  | nil => intro j hj; simp at hj
  | cons t r ih =>
    intro j hj i hi
    cases j with
    | zero => simp only [encs, List.flatMap_cons]; rw [List.getElem?_append_left (by rw [encT_length]; omega)]; simp
    | succ j =>
      simp only [encs, List.flatMap_cons]
      rw [List.getElem?_append_right (by rw [encT_length]; omega), encT_length, show (j + 1) * 4 + i - 4 = j * 4 + i by omega]
      exact ih j (by simpa using hj) i hi
theorem encs_one {xs : List Tile} : ∀ u ∈ encs xs, u.oneCell' = true := by
  intro u hu
  obtain ⟨t, _, ht⟩ := List.mem_flatMap.1 hu
  simp [encT] at ht
  rcases ht with rfl | rfl | rfl | rfl <;> rfl

/-- Block B holds xs from its head on, and can be written. -/
structure RowT (w : World) (B : Nat) (xs : List Tile) : Prop where
  lt : B < w.heap.size
  c : ∀ j (h : j < xs.length), w.cell? ⟨B, j * 4, none⟩ = some (.int .i64 xs[j].N) ∧ w.cell? ⟨B, j * 4 + 1, none⟩ = some (.int .i64 xs[j].E) ∧ w.cell? ⟨B, j * 4 + 2, none⟩ = some (.int .i64 xs[j].S) ∧ w.cell? ⟨B, j * 4 + 3, none⟩ = some (.int .i64 xs[j].W)
  f : ∀ o, w.frozen? ⟨B, o, none⟩ = false
theorem RowT.kept {w w' : World} {B : Nat} {xs : List Tile} (h : RowT w B xs) (hk : Kept w w') : RowT w' B xs := by
  obtain ⟨hcc, hff⟩ := hk.cells
  exact ⟨Nat.lt_of_lt_of_le h.lt hk.size, fun j hj => by rw [hcc _ _ h.lt, hcc _ _ h.lt, hcc _ _ h.lt, hcc _ _ h.lt]; exact h.c j hj, fun o => by rw [hff _ _ h.lt]; exact h.f o⟩
theorem RowT.sl {w : World} {B : Nat} {xs : List Tile} (h : RowT w B xs) (hl : xs.length ≤ 17592186044416) : SlA w 4 encT (some ⟨B, 0, none⟩) xs := by
  refine ⟨hl, .inr ⟨B, 0, rfl, h.lt, fun j hj i v hv => ?_⟩⟩
  obtain ⟨c0, c1, c2, c3⟩ := h.c j hj
  rw [Nat.zero_add]
  match i, hv with
  | 0, hv => simp [encT] at hv; subst hv; exact c0
  | 1, hv => simp [encT] at hv; subst hv; exact c1
  | 2, hv => simp [encT] at hv; subst hv; exact c2
  | 3, hv => simp [encT] at hv; subst hv; exact c3
  | n + 4, hv => simp [encT] at hv
theorem RowT.of_owns {w : World} {base B n cap : Nat} {xs : List Tile} (h : w.ownsRow base 44 4 (.slice (some ⟨B, 0, none⟩) n cap) n (encs xs)) : RowT w B xs := by
  have hn : n = xs.length := by have := h.1; rw [encs_length] at this; omega
  subst hn
  refine ⟨(h.lt B rfl).2, fun j hj => ?_, fun o => h.frozenAt o⟩
  refine ⟨?_, ?_, ?_, ?_⟩
  · have := h.cellAt (j * 4) (by omega)
    rw [this]; exact encs_get xs j hj 0 (by omega)
  · rw [h.cellAt (j * 4 + 1) (by omega)]; exact encs_get xs j hj 1 (by omega)
  · rw [h.cellAt (j * 4 + 2) (by omega)]; exact encs_get xs j hj 2 (by omega)
  · rw [h.cellAt (j * 4 + 3) (by omega)]; exact encs_get xs j hj 3 (by omega)
theorem sl_of_owns {w : World} {base n cap : Nat} {a : Option Addr} {xs : List Tile} (h : w.ownsRow base 44 4 (.slice a n cap) n (encs xs)) (hl : xs.length ≤ 17592186044416) : SlA w 4 encT a xs := by
  rcases h.2 with ⟨h1, h2⟩ | ⟨g, cap', cur, h1, _⟩
  · have : xs = [] := by
      have := h.1; rw [encs_length] at this
      exact List.eq_nil_of_length_eq_zero (by omega)
    subst this
    exact SlA.nil
  · obtain rfl : a = some ⟨g, 0, none⟩ := by simpa using (Value.slice.inj h1).1
    exact (RowT.of_owns h).sl hl

/-- t stored at place j. -/
def World.put4 (w : World) (B o : Nat) (t : Tile) : World :=
  (((w.setCell ⟨B, o, none⟩ (.int .i64 t.N)).setCell ⟨B, o + 1, none⟩ (.int .i64 t.E)).setCell ⟨B, o + 2, none⟩ (.int .i64 t.S)).setCell ⟨B, o + 3, none⟩ (.int .i64 t.W)
theorem put4_other (w : World) (B o : Nat) (t : Tile) (k : Nat) (h : k < o ∨ o + 4 ≤ k) : (World.put4 w B o t).cell? ⟨B, k, none⟩ = w.cell? ⟨B, k, none⟩ := by
  unfold World.put4
  have d : ∀ (w : World) (p q : Nat) (v : Value), p ≠ q → (w.setCell ⟨B, p, none⟩ v).cell? ⟨B, q, none⟩ = w.cell? ⟨B, q, none⟩ := fun w p q v hpq => World.cell?_setCell_other _ _ _ _ (fun e => hpq (congrArg Addr.off e))
  rw [d _ _ _ _ (by omega), d _ _ _ _ (by omega), d _ _ _ _ (by omega), d _ _ _ _ (by omega)]
theorem RowT.put {w : World} {B : Nat} {xs : List Tile} (h : RowT w B xs) (j : Nat) (hj : j < xs.length) (t : Tile) : RowT (World.put4 w B (j * 4) t) B (xs.set j t) := by
  refine ⟨by simpa [World.put4] using h.lt, fun k hk => ?_, fun o => by simp only [World.put4, World.frozen?_setCell]; exact h.f o⟩
  have hk' : k < xs.length := by simpa using hk
  by_cases e : k = j
  · subst e
    obtain ⟨c0, c1, c2, c3⟩ := h.c k hk'
    simp only [List.getElem_set_self]
    unfold World.put4
    have d : ∀ (w : World) (p q : Nat) (v : Value), p ≠ q → (w.setCell ⟨B, p, none⟩ v).cell? ⟨B, q, none⟩ = w.cell? ⟨B, q, none⟩ := fun w p q v hpq => World.cell?_setCell_other _ _ _ _ (fun e => hpq (congrArg Addr.off e))
    refine ⟨?_, ?_, ?_, ?_⟩
    · rw [d _ _ _ _ (by omega), d _ _ _ _ (by omega), d _ _ _ _ (by omega)]; exact World.cell?_setCell_same _ _ _ c0
    · rw [d _ _ _ _ (by omega), d _ _ _ _ (by omega)]; exact World.cell?_setCell_same _ _ _ (by rw [d _ _ _ _ (by omega)]; exact c1)
    · rw [d _ _ _ _ (by omega)]; exact World.cell?_setCell_same _ _ _ (by rw [d _ _ _ _ (by omega), d _ _ _ _ (by omega)]; exact c2)
    · exact World.cell?_setCell_same _ _ _ (by rw [d _ _ _ _ (by omega), d _ _ _ _ (by omega), d _ _ _ _ (by omega)]; exact c3)
  · rw [List.getElem_set_ne (by omega)]
    rw [put4_other _ _ _ _ _ (by omega), put4_other _ _ _ _ _ (by omega), put4_other _ _ _ _ _ (by omega), put4_other _ _ _ _ _ (by omega)]
    exact h.c k hk'
theorem below_put4 {A : Nat} {w0 w : World} (h : Below A w0 w) {B : Nat} (hB : A ≤ B) (o : Nat) (t : Tile) : Below A w0 (World.put4 w B o t) :=
  (((h.setCell hB _).setCell hB _).setCell hB _).setCell hB _

theorem tileInfo : (Tryd.prog.info? 44).map (fun i => (i.zero, i.size, i.bytes)) = some (some (.agg #[.int .i64 0, .int .i64 0, .int .i64 0, .int .i64 0]), 4, 32) := by kernel_rfl

/-- clear(s) at tiles. -/
theorem run_clear_tiles (w : World) (ty : TypeId) (b o n c : Nat) (hn : 0 < n) (hc : ∀ j, j < n * 4 → (w.cell? ⟨b, o + j, none⟩).isSome = true) (hf : ∀ j, j < n * 4 → w.frozen? ⟨b, o + j, none⟩ = false) :
    ∃ L : List Value, L.length = n * 4 ∧ (Builtin.clear_ #[22] ty #[.slice (some ⟨b, o, none⟩) n c]).run Tryd.prog w = .ok (.tuple #[]) (w.setCells b o L) := by
  have hv : ∀ w, (zeroValue 44).run Tryd.prog w = .ok (.agg #[.int .i64 0, .int .i64 0, .int .i64 0, .int .i64 0]) w := fun _ => by kernel_rfl
  have hz : (Value.agg #[.int .i64 0, .int .i64 0, .int .i64 0, .int .i64 0]).cells = #[.int .i64 0, .int .i64 0, .int .i64 0, .int .i64 0] := rfl
  refine ⟨(Builtin.zeroCells #[.int .i64 0, .int .i64 0, .int .i64 0, .int .i64 0] n).toList, by simp [Builtin.zeroCells], ?_⟩
  have hlen : (Builtin.zeroCells #[.int .i64 0, .int .i64 0, .int .i64 0, .int .i64 0] n).toList.length = n * 4 := by simp [Builtin.zeroCells]
  have h1 : ∀ v ∈ (Builtin.zeroCells #[.int .i64 0, .int .i64 0, .int .i64 0, .int .i64 0] n).toList, v.oneCell' = true := by
    intro v hv
    simp only [Builtin.zeroCells, Array.toList_map, List.mem_map] at hv
    obtain ⟨i, _, rfl⟩ := hv
    have : i % 4 < 4 := Nat.mod_lt _ (by omega)
    show (#[Value.int .i64 0, Value.int .i64 0, Value.int .i64 0, Value.int .i64 0][i % 4]!).oneCell' = true
    match i % 4, this with
    | 0, _ => rfl
    | 1, _ => rfl
    | 2, _ => rfl
    | 3, _ => rfl
  have hst := run_storeCells_cells (P := Tryd.prog) b o (Builtin.zeroCells #[.int .i64 0, .int .i64 0, .int .i64 0, .int .i64 0] n).toList 0 w (by rw [hlen]; simpa using hc) (by rw [hlen]; simpa using hf) h1
  simp only [Nat.add_zero] at hst
  obtain ⟨m, rfl⟩ : ∃ m, n = m + 1 := ⟨n - 1, by omega⟩
  simp [Builtin.clear_, run_underlying Tryd.underlying22, hv, hz, hst]

theorem below_setCells4 {A : Nat} {w0 : World} {b : Nat} (hB : A ≤ b) : ∀ (vs : List Value) (o : Nat) (w : World), Below A w0 w → Below A w0 (w.setCells b o vs)
  | [], _, _, h => h
  | _ :: r, o, _, h => below_setCells4 hB r (o + 1) _ (h.setCell hB _)

theorem wpList_clear_tiles {w : World} {ops : Array Oper} {rest : List Oper} {o : Oper} {a : Act} {Q : Exit → Act → World → Prop} (hgd : o.guard = none) (s : Operand)
    (ho : o.op = .call { callee := .builtin .clear, args := #[s], argTypes := #[22] }) (b n c off : Nat) (hs : a.eval s = .slice (some ⟨b, off, none⟩) n c) (hn : 0 < n)
    (hc : ∀ j, j < n * 4 → (w.cell? ⟨b, off + j, none⟩).isSome = true) (hf : ∀ j, j < n * 4 → w.frozen? ⟨b, off + j, none⟩ = false)
    (h : ∀ L : List Value, L.length = n * 4 → wpList Tryd.prog ops Q rest (a.put o.dst (.tuple #[])) (w.setCells b off L)) : wpList Tryd.prog ops Q (o :: rest) a w := by
  refine wpList_plain hgd fun _ hK => ?_
  obtain ⟨L, hL, hr⟩ := run_clear_tiles w o.type b off n c hn hc hf
  unfold Oper.wp execOp
  simp only [ho, resolve, invoke, builtin, Sem.run_bind, Sem.run_pure, Result.andThen_ok, List.map_toArray, List.map_cons, List.map_nil, hs, hr]
  exact hK _ _ (h L hL)

theorem RowT.cleared {w : World} {B : Nat} {xs : List Tile} (h : RowT w B xs) (i : Nat) (L : List Value) : RowT (w.setCells B (i * 4) L) B (xs.take i) := by
  have hsz : w.heap.size ≤ (w.setCells B (i * 4) L).heap.size := (below_setCells4 (A := 0) (Nat.zero_le _) L (i * 4) w (Below.refl _ _)).size
  refine ⟨Nat.lt_of_lt_of_le h.lt hsz, fun j hj => ?_, fun o => by rw [World.frozen?_setCells]; exact h.f o⟩
  have hj' : j < xs.length ∧ j < i := by simp at hj; omega
  have := h.c j hj'.1
  simp only [List.getElem_take]
  rw [World.cell?_setCells_out _ _ _ _ _ (by simp; omega), World.cell?_setCells_out _ _ _ _ _ (by simp; omega), World.cell?_setCells_out _ _ _ _ _ (by simp; omega), World.cell?_setCells_out _ _ _ _ _ (by simp; omega)]
  exact this
theorem RowT.some {w : World} {B : Nat} {xs : List Tile} (h : RowT w B xs) (k : Nat) (hk : k < xs.length * 4) : (w.cell? ⟨B, k, none⟩).isSome = true := by
  obtain ⟨c0, c1, c2, c3⟩ := h.c (k / 4) (by omega)
  have h4 : k % 4 < 4 := Nat.mod_lt _ (by omega)
  have e : k = k / 4 * 4 + k % 4 := by omega
  rw [e]
  match k % 4, h4 with
  | 0, _ => rw [Nat.add_zero, c0]; rfl
  | 1, _ => rw [c1]; rfl
  | 2, _ => rw [c2]; rfl
  | 3, _ => rw [c3]; rfl
end Go.Proofs.YtlcbgcieedbggaaDoor
namespace Go.Proofs.YtlcbgcieedbggaaDoor
open Go Go.RowKit

/-- The first i of ys are what of the first k of xs stays; from k on ys is as xs. -/
structure Del (p : Tile → Bool) (xs ys : List Tile) (i k : Nat) : Prop where
  len : ys.length = xs.length
  lt : i < k
  le : k ≤ xs.length
  take : ys.take i = (xs.take k).filter (fun x => !p x)
  rest : ∀ j, k ≤ j → ys[j]? = xs[j]?
theorem Del.start {p : Tile → Bool} {xs : List Tile} {k : Nat} (hk : k < xs.length) (hp : p xs[k] = true) (h : ∀ j (hj : j < xs.length), j < k → p xs[j] = false) : Del p xs xs k (k + 1) := by
  refine ⟨rfl, by omega, by omega, ?_, fun _ _ => rfl⟩
  rw [List.take_succ_eq_append_getElem hk, List.filter_append]
  have h1 : (xs.take k).filter (fun x => !p x) = xs.take k := by
    rw [List.filter_eq_self]
    intro x hx
    obtain ⟨j, hj, rfl⟩ := List.getElem_of_mem hx
    simp at hj
    simp [h j (by omega) (by omega)]
  rw [h1]; simp [hp]
theorem Del.skip {p : Tile → Bool} {xs ys : List Tile} {i k : Nat} (h : Del p xs ys i k) (hk : k < xs.length) (hp : p xs[k] = true) : Del p xs ys i (k + 1) := by
  refine ⟨h.len, by have := h.lt; omega, by omega, ?_, fun j hj => h.rest j (by omega)⟩
  rw [h.take, List.take_succ_eq_append_getElem hk, List.filter_append]
  simp [hp]
theorem Del.keep {p : Tile → Bool} {xs ys : List Tile} {i k : Nat} (h : Del p xs ys i k) (hk : k < xs.length) (hp : p xs[k] = false) : Del p xs (ys.set i xs[k]) (i + 1) (k + 1) := by
  have hl := h.lt
  have hi : i < ys.length := by rw [h.len]; omega
  refine ⟨by simp [h.len], by omega, by omega, ?_, fun j hj => by rw [List.getElem?_set_ne (by omega)]; exact h.rest j (by omega)⟩
  rw [List.take_succ_eq_append_getElem (by simpa using hi), List.take_set_of_le (by omega), h.take, List.take_succ_eq_append_getElem hk, List.filter_append]
  simp [hp]
theorem Del.all {p : Tile → Bool} {xs ys : List Tile} {i : Nat} (h : Del p xs ys i xs.length) : ys.take i = xs.filter (fun x => !p x) := by rw [h.take, List.take_length]

/-- What is asked of a function value over a row that is written: p, whatever stands in block B and above. -/
def PredB (P : Program) (g : Nat) (lb : Array Value) (p : Tile → Bool) (B : Nat) (w : World) (xs : List Tile) : Prop :=
  ∀ W x, x ∈ xs → Below B w W → Calls P g (#[asValue (encT x)] ++ lb) W fun e w' => e = .returned (.bool (p x)) ∧ Kept W w'

set_option maxHeartbeats 4000000 in
set_option maxRecDepth 20000 in
theorem deleteFuncTile (g : Nat) (lb : Array Value) (eg : ∀ args w, (callFunc g args).run Tryd.prog w = .ok (.enter g args) w) (p : Tile → Bool) (xs : List Tile) (B cap : Nat) (w : World) (hcap : xs.length ≤ cap) (hl : xs.length ≤ 1000000)
    (hp : PredB Tryd.prog g lb p B w xs) (hR : RowT w B xs) :
    Calls Tryd.prog 63 #[.slice (some ⟨B, 0, none⟩) xs.length cap, .func (.func g) #[] lb] w
      fun e w' => e = .returned (.slice (some ⟨B, 0, none⟩) (xs.filter (fun x => !p x)).length cap) ∧ RowT w' B (xs.filter (fun x => !p x)) ∧ Below B w w' := by
  have hpk : Pred Tryd.prog g lb encT p w xs := fun W x hx hk => hp W x hx (hk.mono (Nat.le_of_lt hR.lt))
  have HI := Lib.hid (indexFuncTile g lb eg p xs (some ⟨B, 0, none⟩) cap w hpk (hR.sl (by omega)))
  clear hpk
  by_cases hno : ∀ j (hj : j < xs.length), p xs[j] = false
  · have hix := idxOf_miss hno
    rw [hix] at HI
    have hfl : xs.filter (fun x => !p x) = xs := by
      rw [List.filter_eq_self]
      intro x hx
      obtain ⟨j, hj, rfl⟩ := List.getElem_of_mem hx
      simp [hno j hj]
    rw [hfl]
    clear hix hno hfl hp
    go_enter Tryd.func63, Tryd.ntmps63
    go_wp2_with (go_at_call 91; refine HI.out.mono ?_; rintro e w' ⟨rfl, hb'⟩)
    go_ret
    exact ⟨rfl, hR.kept hb', hb'.mono (Nat.le_of_lt hR.lt)⟩
  · obtain ⟨k, hk, hpk, hbe⟩ : ∃ k, ∃ hk : k < xs.length, p xs[k] = true ∧ ∀ j (hj : j < xs.length), j < k → p xs[j] = false := by
      rcases idxOf_lt p xs with h | h
      · have hany : xs.any p = true := by
          rw [List.any_eq_true]
          refine Classical.byContradiction fun hc => hno fun j hj => ?_
          rw [Bool.eq_false_iff]
          exact fun hpj => hc ⟨_, List.getElem_mem hj, hpj⟩
        have h3 : (xs.findIdx? p).isSome = true := by rw [List.findIdx?_isSome]; exact hany
        obtain ⟨i, hi⟩ := Option.isSome_iff_exists.1 h3
        obtain ⟨h4, h5, h6⟩ := List.findIdx?_eq_some_iff_getElem.1 hi
        exact ⟨i, h4, h5, fun j hj hji => by simpa using h6 j hji⟩
      · exfalso
        refine hno fun j hj => ?_
        rw [Bool.eq_false_iff]
        intro hpj
        have hany : xs.any p = true := List.any_eq_true.2 ⟨_, List.getElem_mem hj, hpj⟩
        rw [← idxOf_any, h] at hany
        simp at hany
    have hix := idxOf_hit hk hpk hbe
    rw [hix] at HI
    have HD := Lib.hid (Del.start hk hpk hbe)
    clear hix hno hpk hbe
    have hne : ((k : Int) == -1) = false := by simp
    go_enter Tryd.func63, Tryd.ntmps63
    go_wp2_with (go_at_call 91; refine HI.out.mono ?_; rintro e w' ⟨rfl, hb'⟩)
    clear hne
    have HB := Lib.hid (hb'.mono (Nat.le_of_lt hR.lt))
    have HR := Lib.hid (hR.kept hb')
    clear hb' hR
    go_loopg [5, 6] xs.length (fun gg s5 s6 wr => ∃ (ys : List Tile) (i j : Nat), s5 = .int .i64 i ∧ s6 = .int .i64 j ∧ i < j ∧ j ≤ xs.length ∧ xs.length - j ≤ gg ∧ Aside (Below B w wr) ∧ Aside (RowT wr B ys) ∧ Aside (Del p xs ys i j))
    case atStart => exact ⟨xs, k, k + 1, rfl, by go_num, by omega, by omega, by omega, HB.out, HR.out, HD.out⟩
    case round =>
      obtain ⟨ys, i, j, rfl, rfl, hij, hj, hg, HB1, HR1, HD1⟩ := hrel
      by_cases hlt : j < xs.length
      · have hly := HD1.out.len
        have hjy : j < ys.length := by omega
        have hxy : ys[j] = xs[j] := by
          have := HD1.out.rest j (Nat.le_refl _)
          simpa [hjy, hlt] using this
        obtain ⟨c0, c1, c2, c3⟩ := HR1.out.c j hjy
        rw [hxy] at c0 c1 c2 c3
        clear hxy
        have hBw : B < wr.heap.size := HR1.out.lt
        generalize hy : xs[j] = y at c0 c1 c2 c3
        have HY := Lib.hid hy
        have HM := Lib.hid (show y ∈ xs by rw [← hy]; exact List.getElem_mem hlt)
        clear hy
        go_upto_region 8 with (fail)
        have HB2 := Lib.hid (HB1.out.alloc (Nat.le_of_lt hBw) (.cells #[.int .i64 y.N, .int .i64 y.E, .int .i64 y.S, .int .i64 y.W] 44))
        have HR2 := Lib.hid (HR1.out.kept ((Kept.refl wr).alloc (Nat.le_refl _) (.cells #[.int .i64 y.N, .int .i64 y.E, .int .i64 y.S, .int .i64 y.W] 44)))
        have hcall := hp _ y HM.out HB2.out
        simp only [asValue, encT] at hcall
        clear hp
        have hk2 : wr.heap.size < (wr.alloc (.cells #[.int .i64 y.N, .int .i64 y.E, .int .i64 y.S, .int .i64 y.W] 44)).heap.size := by simp
        have hz : ∀ w', Kept (wr.alloc (.cells #[.int .i64 y.N, .int .i64 y.E, .int .i64 y.S, .int .i64 y.W] 44)) w' → w'.cell? ⟨wr.heap.size, 0, none⟩ = some (.int .i64 y.N) ∧ w'.cell? ⟨wr.heap.size, 1, none⟩ = some (.int .i64 y.E) ∧ w'.cell? ⟨wr.heap.size, 2, none⟩ = some (.int .i64 y.S) ∧ w'.cell? ⟨wr.heap.size, 3, none⟩ = some (.int .i64 y.W) := by
          intro w' hk
          obtain ⟨hcc, _⟩ := hk.cells
          rw [hcc _ _ hk2, hcc _ _ hk2, hcc _ _ hk2, hcc _ _ hk2]
          simp
        have HZ := Lib.hid hz
        clear hz
        cases hq : p y with
        | true =>
          rw [hq] at hcall
          have HC := Lib.hid hcall
          have HQ := Lib.hid hq
          clear hcall hq
          go_wp2_with (go_at_fn g; refine HC.out.mono ?_; rintro e w' ⟨rfl, hb'⟩)
          go_roundg (xs.length - (j + 1))
          case measure => omega
          case rel => exact ⟨ys, i, j + 1, rfl, by go_num, by omega, by omega, by omega, HB2.out.trans (hb'.mono (Nat.le_of_lt HR2.out.lt)), HR2.out.kept hb', HD1.out.skip hlt (by rw [HY.out]; exact HQ.out)⟩
        | false =>
          rw [hq] at hcall
          have HC := Lib.hid hcall
          have HQ := Lib.hid hq
          clear hcall hq
          go_upto_region 9 with (go_at_fn g; refine HC.out.mono ?_; rintro e w' ⟨rfl, hb'⟩)
          have HR3 := HR2.out.kept hb'
          have HB3 := HB2.out.trans (hb'.mono (Nat.le_of_lt HR2.out.lt))
          have hiy : i < ys.length := by omega
          obtain ⟨z0, z1, z2, z3⟩ := HZ.out w' hb'
          obtain ⟨e0, e1, e2, e3⟩ := HR3.c i hiy
          have hf := HR3.f
          have HP := Lib.hid (HR3.put i hiy y)
          have HBP := Lib.hid (below_put4 HB3 (Nat.le_refl B) (i * 4) y)
          have HDP := Lib.hid (HD1.out.keep hlt (by rw [HY.out]; exact HQ.out))
          rw [HY.out] at HDP
          have hcapi : (i : Int) < (xs.length : Int) := by omega
          clear hb' HR3 HB3
          go_upto_region 10 with (fail)
          unfold World.put4 at HP HBP
          generalize ((((w'.setCell ⟨B, i * 4, none⟩ (.int .i64 y.N)).setCell ⟨B, i * 4 + 1, none⟩ (.int .i64 y.E)).setCell ⟨B, i * 4 + 2, none⟩ (.int .i64 y.S)).setCell ⟨B, i * 4 + 3, none⟩ (.int .i64 y.W)) = ws at HP HBP ⊢
          go_wp2_with (fail)
          go_roundg (xs.length - (j + 1))
          case measure => omega
          case rel => exact ⟨ys.set i y, i + 1, j + 1, by go_num, by go_num, by omega, by omega, by omega, HBP.out, HP.out, HDP.out⟩
      · obtain rfl : j = xs.length := by omega
        have hlc : i < xs.length := by omega
        go_upto_region 11 with (fail)
        have hci : ¬ cap = i := by omega
        have hic : (i : Int) ≤ (xs.length : Int) := by omega
        have hic2 : (xs.length : Int) ≤ (cap : Int) := by omega
        have hly := HD1.out.len
        have HA := Lib.hid HD1.out.all
        have HR2 := HR1.out
        have HCL := Lib.hid (fun L => RowT.cleared HR2 i L)
        have HBC := Lib.hid (fun L => below_setCells4 (Nat.le_refl B) L (i * 4) wr HB1.out)
        have HS := fun j hj => HR2.some (i * 4 + j) (show i * 4 + j < ys.length * 4 by rw [hly]; exact hj)
        have HF := HR2.f
        obtain ⟨L, hL, hclr⟩ := run_clear_tiles wr 0 B (i * 4) (xs.length - i) (cap - i) (by omega) (fun j hj => HS j (by omega)) (fun j hj => HF _)
        clear HS HF HR2 hp
        have HY1 := Lib.hid (HCL.out L)
        have HY2 := Lib.hid (HBC.out L)
        have HIL := Lib.hid (show (xs.filter (fun x => !p x)).length = i by rw [← HA.out]; simp; omega)
        clear hly
        go_wp2_with (fail)
        go_ret
        rw [HIL.out]
        exact ⟨rfl, by rw [← HA.out]; exact HY1.out, HY2.out⟩

theorem encs_cells {w : World} {b off : Nat} {xs : List Tile} (hc : ∀ j (h : j < xs.length) i v, (encT xs[j])[i]? = some v → w.cell? ⟨b, off + j * 4 + i, none⟩ = some v) : ∀ j u, (encs xs)[j]? = some u → w.cell? ((⟨b, off, none⟩ : Addr).add j) = some u := by
  intro j u hu
  have hj : j < (encs xs).length := (List.getElem?_eq_some_iff.1 hu).1
  rw [encs_length] at hj
  have h4 : j % 4 < 4 := Nat.mod_lt _ (by omega)
  have e : j = j / 4 * 4 + j % 4 := by omega
  have hd : j / 4 < xs.length := by omega
  rw [Addr.add_lit]
  rw [e, encs_get xs _ hd _ h4] at hu
  have := hc _ hd _ _ hu
  rw [show off + j = off + j / 4 * 4 + j % 4 by omega]
  exact this

set_option maxHeartbeats 1000000 in
theorem cloneTile (xs : List Tile) (a : Option Addr) (cap : Nat) (w : World) (hne : 0 < xs.length) (hl : xs.length ≤ 1000000) (hx : SlA w 4 encT a xs) :
    Calls Tryd.prog 64 #[.slice a xs.length cap] w
      fun e w' => ∃ B c, e = .returned (.slice (some ⟨B, 0, none⟩) xs.length c) ∧ xs.length ≤ c ∧ w.heap.size ≤ B ∧ RowT w' B xs ∧ Kept w w' := by
  obtain ⟨b, off, rfl, hb, hc⟩ := hx.get hne
  obtain ⟨i, hi, hz0, hz1, hz2⟩ := info_parts tileInfo
  have qT : ∀ (w : World) (a : Option Addr) (n c n' c' : Nat), (binOp .eql 22 (.slice a n c) (.slice none n' c')).run Tryd.prog w = .ok (.bool a.isNone) w := fun w a n c n' c' => Lib.run_eql_slice_nil w _ _ a n c n' c' Tryd.underlying22
  have HK := Lib.hid ((Kept.refl w).alloc (Nat.le_refl _) (.cells #[] 44))
  have HO := Lib.hid (World.ownsRow_made (base := w.heap.size) (e := 44) (size := 4) w #[] 0 (Nat.le_refl _) (Nat.zero_le _) rfl)
  have HC := Lib.hid (encs_cells (w := w.alloc (.cells #[] 44)) (b := b) (off := off) (xs := xs) (fun j hj i v hv => (HK.out.cell (p := ⟨b, off + j * 4 + i, none⟩) hb).trans (hc j hj i v hv)))
  go_enter Tryd.func64, Tryd.ntmps64
  go_wp2_with (at_builtin; refine wpList_append_own _ rfl _ _ 22 rfl w.heap.size 44 i _ 4 32 Tryd.underlying22 hi hz0 hz1 hz2 rfl (by decide) (.slice (some ⟨w.heap.size, 0, none⟩) 0 0) 0 [] rfl HO.out ⟨b, off, none⟩ xs.length cap (encs xs) rfl (encs_length xs) HC.out encs_one (by simp only [maxLen]; omega) (by omega) (by simp) ?_)
  intro v' w1 hown hgrow hnil
  rcases hown.2 with ⟨h1, _⟩ | ⟨g, cap', cur, h1, h2, h3, h4, _⟩
  · exact absurd h1 hnil
  · subst h1
    have hk : Kept w w1 := HK.out.grown hgrow (by simp) (fun k hk => by simp [Value.ownBlock] at hk; omega)
    clear hnil
    go_wp2_with (fail)
    go_ret
    exact ⟨g, cap', rfl, h4, h2, RowT.of_owns hown, hk⟩
end Go.Proofs.YtlcbgcieedbggaaDoor
namespace Go.Proofs.YtlcbgcieedbggaaDoor
open Go Go.RowKit

/-- Some tile's W is c. -/
def hasW (xs : List Tile) (c : Int) : Bool := xs.any fun u => decide (u.W = c)
/-- The tiles that have a tile behind them. -/
def stepA (xs : List Tile) : List Tile := xs.filter fun t => hasW xs t.E
def acycF : Nat → List Tile → Bool
  | 0, xs => xs.isEmpty
  | k + 1, xs => if xs.isEmpty then true else if (stepA xs).length = xs.length then false else acycF k (stepA xs)
def acyclicB (xs : List Tile) : Bool := acycF xs.length xs
theorem stepA_le (xs : List Tile) : (stepA xs).length ≤ xs.length := List.length_filter_le ..
theorem acycF_fuel : ∀ (k j : Nat) (xs : List Tile), xs.length ≤ k → xs.length ≤ j → acycF k xs = acycF j xs := by
  intro k
  induction k with
  | zero =>
    intro j xs h1 h2
    obtain rfl : xs = [] := List.eq_nil_of_length_eq_zero (by omega)
    cases j <;> simp [acycF]
  | succ k ih =>
    intro j xs h1 h2
    cases xs with
    | nil => cases j <;> simp [acycF]
    | cons t r =>
      cases j with
      | zero => simp at h2
      | succ j =>
        simp only [acycF, List.isEmpty_cons, Bool.false_eq_true, if_false]
        split
        · rfl
        · rename_i h
          have := stepA_le (t :: r)
          exact ih j _ (by omega) (by omega)
theorem acyclic_nil : acyclicB [] = true := rfl
theorem acyclic_stuck {xs : List Tile} (h : 0 < xs.length) (hs : (stepA xs).length = xs.length) : acyclicB xs = false := by
  cases xs with
  | nil => simp at h
  | cons t r => simp only [acyclicB, List.length_cons, acycF, List.isEmpty_cons, Bool.false_eq_true, if_false]; rw [if_pos (by simpa using hs)]
theorem acyclic_step {xs : List Tile} (h : 0 < xs.length) (hs : (stepA xs).length ≠ xs.length) : acyclicB xs = acyclicB (stepA xs) := by
  have hle := stepA_le xs
  have e : acyclicB xs = acycF (xs.length - 1) (stepA xs) := by
    cases xs with
    | nil => simp at h
    | cons t r => simp only [acyclicB, List.length_cons, acycF, List.isEmpty_cons, Bool.false_eq_true, if_false]; rw [if_neg (by simpa using hs)]; rfl
  rw [e]
  exact acycF_fuel _ _ _ (by omega) (Nat.le_refl _)

def encInt (n : Int) : Value := .int .i64 n
/-- The map of the colours that are some tile's W. -/
def FromIs (w : World) (r : Nat) (xs : List Tile) : Prop := ∃ kvs : List (Int × Bool), MapIs w r encInt Value.bool kvs ∧ ∀ c, aget c kvs = if hasW xs c then some true else none
theorem FromIs.get {xs : List Tile} {kvs : List (Int × Bool)} (h : ∀ c, aget c kvs = if hasW xs c then some true else none) (c : Int) : (aget c kvs).getD false = hasW xs c := by
  rw [h]; cases hasW xs c <;> rfl
theorem FromIs.next {xs : List Tile} {kvs : List (Int × Bool)} {k : Nat} (hk : k < xs.length) (h : ∀ c, aget c kvs = if hasW (xs.take k) c then some true else none) :
    ∀ c, aget c (aput xs[k].W true kvs) = if hasW (xs.take (k + 1)) c then some true else none := by
  intro c
  rw [aget_aput, h, List.take_succ_eq_append_getElem hk]
  simp only [hasW, List.any_append, List.any_cons, List.any_nil, Bool.or_false]
  by_cases e : c = xs[k].W
  · simp [e]
  · have : ¬ xs[k].W = c := fun h => e h.symm
    simp [e, this]
theorem FromIs.kept {w w' : World} {r : Nat} {xs : List Tile} (h : FromIs w r xs) (hk : Kept w w') : FromIs w' r xs := by
  obtain ⟨kvs, h1, h2⟩ := h; exact ⟨kvs, h1.kept hk, h2⟩
theorem MapIs.below {B : Nat} {w w' : World} {r : Nat} {κ β : Type} {enc : κ → Value} {encv : β → Value} {kvs : List (κ × β)} (h : MapIs w r enc encv kvs) (hr : r < B) (hk : Below B w w') : MapIs w' r enc encv kvs := by
  obtain ⟨es, clock, hb, he⟩ := h
  exact ⟨es, clock, (hk.block r hr).trans hb, he⟩
theorem FromIs.below {B : Nat} {w w' : World} {r : Nat} {xs : List Tile} (h : FromIs w r xs) (hr : r < B) (hk : Below B w w') : FromIs w' r xs := by
  obtain ⟨kvs, h1, h2⟩ := h; exact ⟨kvs, h1.below hr hk, h2⟩

set_option maxHeartbeats 1000000 in
theorem acyclic1 (xs : List Tile) (t : Tile) (Bf r : Nat) (w : World) (hBf : Bf < w.heap.size) (hf : w.cell? ⟨Bf, 0, none⟩ = some (.map (some r))) (hF : FromIs w r xs) :
    Calls Tryd.prog 65 #[.agg #[.int .i64 t.N, .int .i64 t.E, .int .i64 t.S, .int .i64 t.W], .pointer (some ⟨Bf, 0, none⟩)] w fun e w' => e = .returned (.bool (!hasW xs t.E)) ∧ Kept w w' := by
  obtain ⟨kvs, hm, hk⟩ := hF
  have HG := Lib.hid (FromIs.get hk t.E)
  have HM := Lib.hid (hm.alloc (.cells #[.int .i64 t.N, .int .i64 t.E, .int .i64 t.S, .int .i64 t.W] 44))
  generalize hasW xs t.E = q at HG
  clear hk hm
  go_enter Tryd.func65, Tryd.ntmps65
  go_wp2_with (at_lookup; go_must (refine wpList_lookup_is _ rfl _ _ _ rfl HM.out 3 4 (keyInt Tryd.prog 3 .i64 (by kernel_rfl)) (by kernel_rfl) false (by kernel_rfl) t.E q HG.out rfl rfl ?_))
  go_ret
  exact ⟨rfl, (Kept.refl w).alloc (Nat.le_refl _) _⟩

theorem stepA_eq (xs : List Tile) : xs.filter (fun x => !(fun t : Tile => !hasW xs t.E) x) = stepA xs := by simp [stepA]

set_option maxHeartbeats 4000000 in
set_option maxRecDepth 20000 in
theorem acyclicCalls (ts : List Tile) (a : Option Addr) (cap : Nat) (w : World) (hl : ts.length ≤ 1000000) (hx : SlA w 4 encT a ts) :
    Calls Tryd.prog 37 #[.slice a ts.length cap] w fun e w' => e = .returned (.bool (acyclicB ts)) ∧ Kept w w' := by
  have hmm := @run_makeMap Tryd.prog
  go_enter Tryd.func37, Tryd.ntmps37
  go_wp2_with (fail)
  go_loopg [0, 3, 5, 6, 13] ts.length (fun gg s0 _ _ _ _ wr => ∃ (xs : List Tile) (b : Option Addr) (c : Nat), s0 = .slice b xs.length c ∧ xs.length ≤ gg ∧ xs.length ≤ 1000000 ∧ Aside (Kept w wr) ∧ Aside (SlA wr 4 encT b xs) ∧ Aside (acyclicB ts = acyclicB xs))
  case atStart => exact ⟨ts, a, cap, rfl, Nat.le_refl _, hl, Kept.refl w, hx, rfl⟩
  case round =>
    obtain ⟨xs, b, c, rfl, hg, hl2, HK, HX, HA⟩ := hrel
    by_cases hlt : 0 < xs.length
    · go_upto_region 3 with (fail)
      have hc1 : ((wr.alloc (.map #[] 0)).alloc (.cells #[.map (some wr.heap.size)] 123)).cell? ⟨wr.heap.size + 1, 0, none⟩ = some (.map (some wr.heap.size)) := by simp
      have hF : FromIs ((wr.alloc (.map #[] 0)).alloc (.cells #[.map (some wr.heap.size)] 123)) wr.heap.size (xs.take 0) := ⟨[], (MapIs.made wr _ _).alloc _, by simp [aget, hasW]⟩
      have hk1 : Kept wr ((wr.alloc (.map #[] 0)).alloc (.cells #[.map (some wr.heap.size)] 123)) := ((Kept.refl wr).alloc (Nat.le_refl _) _).alloc (by simp) _
      have hs1 : wr.heap.size + 1 < ((wr.alloc (.map #[] 0)).alloc (.cells #[.map (some wr.heap.size)] 123)).heap.size := by simp
      generalize ((wr.alloc (.map #[] 0)).alloc (.cells #[.map (some wr.heap.size)] 123)) = w1 at hc1 hF hk1 hs1 ⊢
      have HR := Lib.hid (Nat.le_refl wr.heap.size)
      obtain ⟨r, hr⟩ : ∃ r, wr.heap.size = r := ⟨_, rfl⟩
      obtain ⟨Bf, hBf⟩ : ∃ Bf, wr.heap.size + 1 = Bf := ⟨_, rfl⟩
      rw [hBf] at hc1 hs1 ⊢
      rw [hr] at hc1 hF ⊢
      have HN := Lib.hid (show r < Bf ∧ wr.heap.size ≤ r by omega)
      have HS1 := Lib.hid hs1
      have HC1 := Lib.hid hc1
      clear hr hBf HR hs1 hc1
      go_wp2_with (fail)
      go_loopg [5, 13] xs.length (fun gg _ s13 wi => ∃ kk : Nat, kk ≤ xs.length ∧ xs.length - kk ≤ gg ∧ s13 = .int .i64 kk ∧ Aside (wi.cell? ⟨Bf, 0, none⟩ = some (.map (some r))) ∧ Aside (Bf < wi.heap.size) ∧ Aside (Kept wr wi) ∧ Aside (FromIs wi r (xs.take kk)))
      case atStart => exact ⟨0, Nat.zero_le _, by omega, rfl, HC1.out, HS1.out, hk1, hF⟩
      case round =>
        clear hk1 hF HS1 HC1
        obtain ⟨kk, hkk, hg2, rfl, HC1, HS1, hk1, hF⟩ := hrel
        have hc1 := HC1.out
        have hs1 := HS1.out
        by_cases hlt2 : kk < xs.length
        · obtain ⟨b', off, rfl, hb, hc0, hc1', hc2, hc3⟩ := (HX.out.kept hk1.out).tile hlt2
          have HT := Lib.hid (FromIs.next hlt2 (kvs := hF.out.choose) hF.out.choose_spec.2)
          have HMM := Lib.hid hF.out.choose_spec.1
          generalize hF.out.choose = kvs at HT HMM
          generalize xs[kk] = t at hc0 hc1' hc2 hc3 HT
          have HK3 := Lib.hid ((Kept.refl wr).alloc (Nat.le_refl _) (.cells #[.int .i64 t.N, .int .i64 t.E, .int .i64 t.S, .int .i64 t.W] 44))
          have hBfr : Bf ≠ r := by have := HN.out; omega
          have HNE := Lib.hid hBfr
          clear hBfr
          go_wp2_with (at_mapUpdate; go_must (refine wpList_mapUpdate_is _ rfl _ _ _ _ rfl (HMM.out.kept HK3.out) 3 4 (keyInt Tryd.prog 3 .i64 (by kernel_rfl)) (by kernel_rfl) t.W true rfl rfl rfl ?_); intro w2 hm2 hg2)
          have HM2 := Lib.hid hm2
          have HG2 := Lib.hid hg2
          clear hm2 hg2
          go_roundg (xs.length - (kk + 1))
          case measure => omega
          case rel =>
            refine ⟨kk + 1, by omega, by omega, by go_num, ?_, ?_, ?_, _, HM2.out, HT.out⟩
            · exact (HG2.out.cell ((HK3.out.cell (p := ⟨Bf, 0, none⟩) hs1).trans hc1) (by simpa using HNE.out))
            · exact Nat.lt_of_lt_of_le hs1 (Nat.le_trans HK3.out.size HG2.out.size)
            · exact (hk1.out.trans HK3.out).grown HG2.out (Nat.le_trans hk1.out.size HK3.out.size) (fun k e => by cases e; exact HN.out.2)
        · obtain rfl : kk = xs.length := by omega
          have HF := Lib.hid (show FromIs wr r xs by have := hF.out; rwa [List.take_length] at this)
          clear hF
          have HXi := Lib.hid (HX.out.kept hk1.out)
          have HPB : Hid (∀ (w2 : World) (Bc : Nat), wr.heap.size ≤ Bc → Kept wr w2 → PredB Tryd.prog 65 #[.pointer (some ⟨Bf, 0, none⟩)] (fun t : Tile => !hasW xs t.E) Bc w2 xs) := by
            intro w2 Bc hBc hk2 W x _ hB
            have hN := HN.out
            have h1 : Bf < wr.heap.size := HS1.out
            have h2 := hB.cell (p := ⟨Bf, 0, none⟩) (show Bf < Bc by omega)
            exact acyclic1 xs x Bf r W (Nat.lt_of_lt_of_le h1 (Nat.le_trans hk2.size hB.size)) (h2.trans ((hk2.cell (p := ⟨Bf, 0, none⟩) h1).trans HC1.out)) ((HF.out.kept hk2).below (by omega) hB)
          clear hc1 hs1 HC1
          go_upto_region 9 with (first
            | (go_at_call 64; refine (cloneTile xs b c _ hlt hl2 HXi.out).mono ?_; rintro e w2 ⟨Bc, cc, rfl, hcc, hBc, hRow, hk2⟩)
            | (go_at_call 63; go_must (refine (deleteFuncTile 65 #[.pointer (some ⟨Bf, 0, none⟩)] (enters_of Tryd.func65 (by kernel_rfl) rfl) (fun t : Tile => !hasW xs t.E) xs Bc cc _ hcc hl2 (HPB.out _ Bc hBc hk2) hRow).mono ?_); rintro e w3 ⟨rfl, hR3, hb3⟩))
          rw [stepA_eq] at hR3
          have hSE : xs.filter (fun x => hasW xs x.E) = stepA xs := rfl
          rw [hSE]
          have hle := stepA_le xs
          have HK4 := Lib.hid (HK.out.trans (hk1.out.trans (show Kept wr w3 from Below.trans hk2 (hb3.mono hBc))))
          have HS4 := Lib.hid (hR3.sl (by omega))
          clear hSE hR3 hb3 hk2 hRow hcc hBc
          by_cases heq : (stepA xs).length = xs.length
          · have HF2 := Lib.hid (HA.out.trans (acyclic_stuck hlt heq))
            have ht : (((stepA xs).length : Int) == (xs.length : Int)) = true := by rw [beq_iff_eq]; omega
            clear heq hle
            go_wp2_with (fail)
            go_ret
            refine ⟨?_, HK4.out⟩
            rw [HF2.out]
            rfl
          · have HF2 := Lib.hid (HA.out.trans (acyclic_step hlt heq))
            have ht : (((stepA xs).length : Int) == (xs.length : Int)) = false := by rw [beq_eq_false_iff_ne]; omega
            go_wp2_with (fail)
            go_roundg (stepA xs).length
            case measure => omega
            case rel => exact ⟨stepA xs, _, _, rfl, Nat.le_refl _, by omega, HK4.out, HS4.out, HF2.out⟩
    · have hx0 : xs = [] := List.eq_nil_of_length_eq_zero (by omega)
      subst hx0
      go_wp2_with (fail)
      go_ret
      refine ⟨?_, HK.out⟩
      rw [HA.out]
      rfl
end Go.Proofs.YtlcbgcieedbggaaDoor
