/- Texts of this claim, one behind the other: Lib, Maps, Tile, Wa, Wb, We. -/
import Derived.Test.YtlcbgcieedbggaaDoorProg
import Derived.Test.YtlcbgcieedbggaaDoorMn2
import Derived.OwnWalk
import Derived.Maps.OwnOps
set_option linter.unusedVariables false
set_option linter.unusedSimpArgs false
namespace Go.Proofs.YtlcbgcieedbggaaDoor
open Go Go.RowKit

set_option maxHeartbeats 1000000 in
theorem indexFuncInt (g : Nat) (lb : Array Value) (eg : ∀ args w, (callFunc g args).run Tryd.prog w = .ok (.enter g args) w) (p : Int → Bool) (xs : List Int) (a : Option Addr) (cap : Nat) (w : World)
    (hp : Pred Tryd.prog g lb encI p w xs) (hx : SlA w 1 encI a xs) :
    Calls Tryd.prog 106 #[.slice a xs.length cap, .func (.func g) #[] lb] w fun e w' => e = .returned (.int .i64 (idxOf p xs)) ∧ Kept w w' := by
  have hm := hx.len
  go_enter Tryd.func106, Tryd.ntmps106
  go_wp2
  go_loopg [5, 8] xs.length (fun gg _ s8 wr => ∃ kk : Nat, kk ≤ xs.length ∧ xs.length - kk ≤ gg ∧ s8 = .int .i64 kk ∧ Aside (Kept w wr) ∧ Aside (∀ j (h : j < xs.length), j < kk → p xs[j] = false))
  case atStart => exact ⟨0, Nat.zero_le _, by omega, rfl, Kept.refl w, fun j _ hj => absurd hj (Nat.not_lt_zero _)⟩
  case round =>
    obtain ⟨kk, hkk, hg, rfl, BW, A⟩ := hrel
    by_cases hlt : kk < xs.length
    · obtain ⟨b, off, rfl, hb, hc0⟩ := hx.int hlt
      have hc0 := (BW.out.cell (p := ⟨b, off + kk, none⟩) hb).trans hc0
      have hcall := hp wr _ (List.getElem_mem hlt) BW.out
      clear hp
      generalize hy : xs[kk] = y at hc0 hcall
      have B : Aside (xs[kk] = y) := hy
      clear hy
      simp only [asValue, encI] at hcall
      cases hq : p y with
      | true =>
        rw [hq] at hcall
        go_wp2_with (go_at_fn g; refine hcall.mono ?_; rintro e w' ⟨rfl, hb'⟩)
        go_ret
        refine ⟨?_, BW.out.trans hb'⟩
        rw [idxOf_hit hlt (by rw [B.out]; exact hq) A.out]
        rfl
      | false =>
        rw [hq] at hcall
        go_wp2_with (go_at_fn g; refine hcall.mono ?_; rintro e w' ⟨rfl, hb'⟩)
        go_roundg (xs.length - (kk + 1))
        case measure => omega
        case rel =>
          refine ⟨kk + 1, by omega, by omega, by go_num, Kept.trans BW.out hb', (show Aside _ from fun j hl hj => ?_)⟩
          by_cases e : j = kk
          · subst e
            rw [B.out]; exact hq
          · exact A.out j hl (by omega)
    · have : kk = xs.length := by omega
      subst this
      go_wp2
      go_ret
      refine ⟨?_, BW.out⟩
      rw [idxOf_miss (fun j hl => A.out j hl hl)]
      rfl

theorem containsFuncInt (g : Nat) (lb : Array Value) (eg : ∀ args w, (callFunc g args).run Tryd.prog w = .ok (.enter g args) w) (p : Int → Bool) (xs : List Int) (a : Option Addr) (cap : Nat) (w : World)
    (hp : Pred Tryd.prog g lb encI p w xs) (hx : SlA w 1 encI a xs) :
    Calls Tryd.prog 81 #[.slice a xs.length cap, .func (.func g) #[] lb] w fun e w' => e = .returned (.bool (xs.any p)) ∧ Kept w w' := by
  rw [← idxOf_any]
  go_enter Tryd.func81, Tryd.ntmps81
  go_wp2_with (go_at_call 106; refine (indexFuncInt g lb eg p xs a cap _ hp hx).mono ?_; rintro e w' ⟨rfl, hb'⟩)
  go_ret
  exact ⟨rfl, hb'⟩

set_option maxHeartbeats 1000000 in
theorem indexFuncFrac (g : Nat) (lb : Array Value) (eg : ∀ args w, (callFunc g args).run Tryd.prog w = .ok (.enter g args) w) (p : Frac → Bool) (xs : List Frac) (a : Option Addr) (cap : Nat) (w : World)
    (hp : Pred Tryd.prog g lb encF p w xs) (hx : SlA w 2 encF a xs) :
    Calls Tryd.prog 92 #[.slice a xs.length cap, .func (.func g) #[] lb] w fun e w' => e = .returned (.int .i64 (idxOf p xs)) ∧ Kept w w' := by
  have hm := hx.len
  go_enter Tryd.func92, Tryd.ntmps92
  go_wp2
  go_loopg [5, 8] xs.length (fun gg _ s8 wr => ∃ kk : Nat, kk ≤ xs.length ∧ xs.length - kk ≤ gg ∧ s8 = .int .i64 kk ∧ Aside (Kept w wr) ∧ Aside (∀ j (h : j < xs.length), j < kk → p xs[j] = false))
  case atStart => exact ⟨0, Nat.zero_le _, by omega, rfl, Kept.refl w, fun j _ hj => absurd hj (Nat.not_lt_zero _)⟩
  case round =>
    obtain ⟨kk, hkk, hg, rfl, BW, A⟩ := hrel
    by_cases hlt : kk < xs.length
    · obtain ⟨b, off, rfl, hb, hc0, hc1⟩ := hx.frac hlt
      have hc0 := (BW.out.cell (p := ⟨b, off + kk * 2, none⟩) hb).trans hc0
      have hc1 := (BW.out.cell (p := ⟨b, off + kk * 2 + 1, none⟩) hb).trans hc1
      have hcall := hp wr _ (List.getElem_mem hlt) BW.out
      clear hp
      generalize hy : xs[kk] = y at hc0 hc1 hcall
      have B : Aside (xs[kk] = y) := hy
      clear hy
      simp only [asValue, encF] at hcall
      cases hq : p y with
      | true =>
        rw [hq] at hcall
        go_wp2_with (go_at_fn g; refine hcall.mono ?_; rintro e w' ⟨rfl, hb'⟩)
        go_ret
        refine ⟨?_, BW.out.trans hb'⟩
        rw [idxOf_hit hlt (by rw [B.out]; exact hq) A.out]
        rfl
      | false =>
        rw [hq] at hcall
        go_wp2_with (go_at_fn g; refine hcall.mono ?_; rintro e w' ⟨rfl, hb'⟩)
        go_roundg (xs.length - (kk + 1))
        case measure => omega
        case rel =>
          refine ⟨kk + 1, by omega, by omega, by go_num, Kept.trans BW.out hb', (show Aside _ from fun j hl hj => ?_)⟩
          by_cases e : j = kk
          · subst e
            rw [B.out]; exact hq
          · exact A.out j hl (by omega)
    · have : kk = xs.length := by omega
      subst this
      go_wp2
      go_ret
      refine ⟨?_, BW.out⟩
      rw [idxOf_miss (fun j hl => A.out j hl hl)]
      rfl

theorem containsFuncFrac (g : Nat) (lb : Array Value) (eg : ∀ args w, (callFunc g args).run Tryd.prog w = .ok (.enter g args) w) (p : Frac → Bool) (xs : List Frac) (a : Option Addr) (cap : Nat) (w : World)
    (hp : Pred Tryd.prog g lb encF p w xs) (hx : SlA w 2 encF a xs) :
    Calls Tryd.prog 66 #[.slice a xs.length cap, .func (.func g) #[] lb] w fun e w' => e = .returned (.bool (xs.any p)) ∧ Kept w w' := by
  rw [← idxOf_any]
  go_enter Tryd.func66, Tryd.ntmps66
  go_wp2_with (go_at_call 92; refine (indexFuncFrac g lb eg p xs a cap _ hp hx).mono ?_; rintro e w' ⟨rfl, hb'⟩)
  go_ret
  exact ⟨rfl, hb'⟩

set_option maxHeartbeats 1000000 in
theorem indexFuncTile (g : Nat) (lb : Array Value) (eg : ∀ args w, (callFunc g args).run Tryd.prog w = .ok (.enter g args) w) (p : Tile → Bool) (xs : List Tile) (a : Option Addr) (cap : Nat) (w : World)
    (hp : Pred Tryd.prog g lb encT p w xs) (hx : SlA w 4 encT a xs) :
    Calls Tryd.prog 91 #[.slice a xs.length cap, .func (.func g) #[] lb] w fun e w' => e = .returned (.int .i64 (idxOf p xs)) ∧ Kept w w' := by
  have hm := hx.len
  go_enter Tryd.func91, Tryd.ntmps91
  go_wp2
  go_loopg [5, 8] xs.length (fun gg _ s8 wr => ∃ kk : Nat, kk ≤ xs.length ∧ xs.length - kk ≤ gg ∧ s8 = .int .i64 kk ∧ Aside (Kept w wr) ∧ Aside (∀ j (h : j < xs.length), j < kk → p xs[j] = false))
  case atStart => exact ⟨0, Nat.zero_le _, by omega, rfl, Kept.refl w, fun j _ hj => absurd hj (Nat.not_lt_zero _)⟩
  case round =>
    obtain ⟨kk, hkk, hg, rfl, BW, A⟩ := hrel
    by_cases hlt : kk < xs.length
    · obtain ⟨b, off, rfl, hb, hc0, hc1, hc2, hc3⟩ := hx.tile hlt
      have hc0 := (BW.out.cell (p := ⟨b, off + kk * 4, none⟩) hb).trans hc0
      have hc1 := (BW.out.cell (p := ⟨b, off + kk * 4 + 1, none⟩) hb).trans hc1
      have hc2 := (BW.out.cell (p := ⟨b, off + kk * 4 + 2, none⟩) hb).trans hc2
      have hc3 := (BW.out.cell (p := ⟨b, off + kk * 4 + 3, none⟩) hb).trans hc3
      have hcall := hp wr _ (List.getElem_mem hlt) BW.out
      clear hp
      generalize hy : xs[kk] = y at hc0 hc1 hc2 hc3 hcall
      have B : Aside (xs[kk] = y) := hy
      clear hy
      simp only [asValue, encT] at hcall
      cases hq : p y with
      | true =>
        rw [hq] at hcall
        go_wp2_with (go_at_fn g; refine hcall.mono ?_; rintro e w' ⟨rfl, hb'⟩)
        go_ret
        refine ⟨?_, BW.out.trans hb'⟩
        rw [idxOf_hit hlt (by rw [B.out]; exact hq) A.out]
        rfl
      | false =>
        rw [hq] at hcall
        go_wp2_with (go_at_fn g; refine hcall.mono ?_; rintro e w' ⟨rfl, hb'⟩)
        go_roundg (xs.length - (kk + 1))
        case measure => omega
        case rel =>
          refine ⟨kk + 1, by omega, by omega, by go_num, Kept.trans BW.out hb', (show Aside _ from fun j hl hj => ?_)⟩
          by_cases e : j = kk
          · subst e
            rw [B.out]; exact hq
          · exact A.out j hl (by omega)
    · have : kk = xs.length := by omega
      subst this
      go_wp2
      go_ret
      refine ⟨?_, BW.out⟩
      rw [idxOf_miss (fun j hl => A.out j hl hl)]
      rfl


end Go.Proofs.YtlcbgcieedbggaaDoor
namespace Go.Proofs.YtlcbgcieedbggaaDoor
open Go Go.RowKit

/-- The first value of a key in a list of pairs. -/
def aget {κ β : Type} [DecidableEq κ] (k : κ) : List (κ × β) → Option β
  | [] => none
  | (k', v) :: r => if k = k' then some v else aget k r
/-- The list with a key's value set: in place, or behind the last. -/
def aput {κ β : Type} [DecidableEq κ] (k : κ) (v : β) : List (κ × β) → List (κ × β)
  | [] => [(k, v)]
  | (k', v') :: r => if k = k' then (k, v) :: r else (k', v') :: aput k v r

theorem aget_aput_same {κ β : Type} [DecidableEq κ] (k : κ) (v : β) (l : List (κ × β)) : aget k (aput k v l) = some v := by
  induction l with
  | nil => simp [aput, aget]
  | cons x r ih =>
    obtain ⟨k', v'⟩ := x
    by_cases h : k = k'
    · simp [aput, aget, h]
    · simp [aput, aget, h, ih]
theorem aget_aput_other {κ β : Type} [DecidableEq κ] {k j : κ} (v : β) (l : List (κ × β)) (hj : j ≠ k) : aget j (aput k v l) = aget j l := by
  induction l with
  | nil => simp [aput, aget, hj]
  | cons x r ih =>
    obtain ⟨k', v'⟩ := x
    by_cases h : k = k'
    · subst h; simp [aput, aget, hj]
    · by_cases h2 : j = k'
      · subst h2; simp [aput, aget, h]
      · simp [aput, aget, h, h2, ih]
theorem aget_aput {κ β : Type} [DecidableEq κ] (k j : κ) (v : β) (l : List (κ × β)) : aget j (aput k v l) = if j = k then some v else aget j l := by
  by_cases h : j = k
  · subst h; simp [aget_aput_same]
  · simp [h, aget_aput_other v l h]
theorem aput_length_le {κ β : Type} [DecidableEq κ] (k : κ) (v : β) (l : List (κ × β)) : (aput k v l).length ≤ l.length + 1 := by
  induction l with
  | nil => simp [aput]
  | cons x r ih =>
    obtain ⟨k', v'⟩ := x
    by_cases h : k = k'
    · simp [aput, h]
    · simp [aput, h]; omega
theorem aput_length {κ β : Type} [DecidableEq κ] (k : κ) (v : β) (l : List (κ × β)) : (aput k v l).length = if (aget k l).isSome then l.length else l.length + 1 := by
  induction l with
  | nil => simp [aput, aget]
  | cons x r ih =>
    obtain ⟨k', v'⟩ := x
    by_cases h : k = k'
    · simp [aput, aget, h]
    · simp only [aput, aget, h, if_false, List.length_cons, ih]; split <;> rfl

/-- What is asked of a key's type. -/
structure KeyOK (P : Program) (kt : TypeId) {κ : Type} [DecidableEq κ] (enc : κ → Value) : Prop where
  check : ∀ emp k w, (Instr.checkKey emp 10000 kt (enc k)).run P w = .ok () w
  find : ∀ (k : κ) (es : List MapEntry) (ks : List κ) (w : World), es.map (·.key) = ks.map enc →
    (Instr.findKey kt (enc k) es).run P w = .ok ((ks.findIdx? (fun x => decide (k = x))).bind fun i => es[i]?.map fun e => (i, e.val)) w
  same : ∀ k, Instr.sameBits 10000 (enc k) (enc k) = true

/-- Block r of w is a map that reads as the pairs kvs, in the order in which the keys came. -/
def MapIs (w : World) (r : Nat) {κ β : Type} (enc : κ → Value) (encv : β → Value) (kvs : List (κ × β)) : Prop :=
  ∃ es clock, w.heap[r]? = some (.map es clock) ∧ es.toList.map (fun e => (e.key, e.val)) = kvs.map fun p => (enc p.1, encv p.2)

theorem MapIs.lt {w : World} {r : Nat} {κ β : Type} {enc : κ → Value} {encv : β → Value} {kvs : List (κ × β)} (h : MapIs w r enc encv kvs) : r < w.heap.size := by
  obtain ⟨es, clock, hb, _⟩ := h
  exact (Array.getElem?_eq_some_iff.1 hb).1
theorem MapIs.grown {w w' : World} {r : Nat} {row : Option Nat} {κ β : Type} {enc : κ → Value} {encv : β → Value} {kvs : List (κ × β)} (h : MapIs w r enc encv kvs) (hg : w.grownBy w' row) (hne : some r ≠ row) : MapIs w' r enc encv kvs := by
  have hlt := h.lt
  obtain ⟨es, clock, hb, he⟩ := h
  exact ⟨es, clock, (hg.block r hlt hne).trans hb, he⟩
theorem MapIs.kept {w w' : World} {r : Nat} {κ β : Type} {enc : κ → Value} {encv : β → Value} {kvs : List (κ × β)} (h : MapIs w r enc encv kvs) (hk : Kept w w') : MapIs w' r enc encv kvs := by
  have hlt := h.lt
  obtain ⟨es, clock, hb, he⟩ := h
  exact ⟨es, clock, (hk.block r hlt).trans hb, he⟩
theorem MapIs.alloc {w : World} {r : Nat} {κ β : Type} {enc : κ → Value} {encv : β → Value} {kvs : List (κ × β)} (h : MapIs w r enc encv kvs) (o : Obj) : MapIs (w.alloc o) r enc encv kvs := h.kept ((Kept.refl w).alloc (Nat.le_refl _) o)
theorem MapIs.setCell {w : World} {r : Nat} {κ β : Type} {enc : κ → Value} {encv : β → Value} {kvs : List (κ × β)} (h : MapIs w r enc encv kvs) {a : Addr} (ha : a.block ≠ r) (v : Value) : MapIs (w.setCell a v) r enc encv kvs := by
  obtain ⟨es, clock, hb, he⟩ := h
  exact ⟨es, clock, (Below.heap_setCell w a v r (fun e => ha e.symm)).trans hb, he⟩
theorem MapIs.made (w : World) {κ β : Type} (enc : κ → Value) (encv : β → Value) : MapIs (w.alloc (.map #[] 0)) w.heap.size enc encv ([] : List (κ × β)) :=
  ⟨#[], 0, (MapKept.heap_alloc w _).1, by simp⟩

theorem MapIs.keys {es : List MapEntry} {κ β : Type} {enc : κ → Value} {encv : β → Value} {kvs : List (κ × β)} (h : es.map (fun e => (e.key, e.val)) = kvs.map fun p => (enc p.1, encv p.2)) :
    es.map (·.key) = (kvs.map (·.1)).map enc := by
  have := congrArg (List.map Prod.fst) h
  simpa [List.map_map, Function.comp_def] using this

theorem find_aget {κ β : Type} [DecidableEq κ] {enc : κ → Value} {encv : β → Value} (k : κ) : ∀ (kvs : List (κ × β)) (es : List MapEntry), es.map (fun e => (e.key, e.val)) = kvs.map (fun p => (enc p.1, encv p.2)) →
    (((kvs.map (·.1)).findIdx? (fun x => decide (k = x))).bind fun i => es[i]?.map fun e => (i, e.val)).map (·.2) = (aget k kvs).map encv := by
  intro kvs
  induction kvs with
  | nil => intro es h; simp [aget]
  | cons x r ih =>
    obtain ⟨k', v'⟩ := x
    intro es h
    cases es with
    | nil => simp at h
    | cons e es =>
      simp only [List.map_cons, List.cons.injEq, Prod.mk.injEq] at h
      obtain ⟨⟨h1, h2⟩, h3⟩ := h
      by_cases hk : k = k'
      · subst hk
        simp [aget, h2, List.findIdx?_cons]
      · have := ih es h3
        simp only [aget, hk, if_false, List.map_cons, List.findIdx?_cons, decide_false, Bool.false_eq_true]
        rw [← this]
        cases hf : (List.map (fun x => x.fst) r).findIdx? (fun x => decide (k = x)) with
        | none => simp
        | some i =>
          simp only [Option.map_some, Option.bind_some, List.getElem?_cons_succ, Option.map_map]
          rfl

/-- 'm[k]' -/
theorem MapIs.lookup {P : Program} {w : World} {r : Nat} {κ β : Type} [DecidableEq κ] {enc : κ → Value} {encv : β → Value} {kvs : List (κ × β)} (h : MapIs w r enc encv kvs) {t kt et : TypeId} (K : KeyOK P kt enc) (ht : P.underlying t = some (.map kt et))
    {z : β} (hz : (zeroValue et).run P w = .ok (encv z) w) (k : κ) : (Instr.lookup t (.map (some r)) (enc k) false).run P w = .ok (encv ((aget k kvs).getD z)) w := by
  obtain ⟨es, clock, hb, he⟩ := h
  have hf := K.find k es.toList _ w (MapIs.keys he)
  have hg := find_aget k kvs es.toList he
  simp only [Instr.lookup, Sem.run_bind, run_underlying ht, Result.andThen_ok, MapKept.run_getObj_map hb, Sem.run_pure, K.check, hf]
  generalize ((kvs.map (·.1)).findIdx? (fun x => decide (k = x))).bind (fun i => es.toList[i]?.map fun e => (i, e.val)) = q at hg ⊢
  cases q with
  | none =>
    have : aget k kvs = none := by simpa using hg.symm
    simp [hz, this]
  | some iv =>
    obtain ⟨i, v⟩ := iv
    cases ha : aget k kvs with
    | none => simp [ha] at hg
    | some b => simp [ha] at hg; simp [hg]
/-- 'v, ok := m[k]' -/
theorem MapIs.lookupOk {P : Program} {w : World} {r : Nat} {κ β : Type} [DecidableEq κ] {enc : κ → Value} {encv : β → Value} {kvs : List (κ × β)} (h : MapIs w r enc encv kvs) {t kt et : TypeId} (K : KeyOK P kt enc) (ht : P.underlying t = some (.map kt et))
    {z : β} (hz : (zeroValue et).run P w = .ok (encv z) w) (k : κ) : (Instr.lookup t (.map (some r)) (enc k) true).run P w = .ok (.tuple #[encv ((aget k kvs).getD z), .bool (aget k kvs).isSome]) w := by
  obtain ⟨es, clock, hb, he⟩ := h
  have hf := K.find k es.toList _ w (MapIs.keys he)
  have hg := find_aget k kvs es.toList he
  simp only [Instr.lookup, Sem.run_bind, run_underlying ht, Result.andThen_ok, MapKept.run_getObj_map hb, Sem.run_pure, K.check, hf]
  generalize ((kvs.map (·.1)).findIdx? (fun x => decide (k = x))).bind (fun i => es.toList[i]?.map fun e => (i, e.val)) = q at hg ⊢
  cases q with
  | none =>
    have : aget k kvs = none := by simpa using hg.symm
    simp [hz, this]
  | some iv =>
    obtain ⟨i, v⟩ := iv
    cases ha : aget k kvs with
    | none => simp [ha] at hg
    | some b => simp [ha] at hg; simp [hg]
theorem put_list {κ β : Type} [DecidableEq κ] {enc : κ → Value} {encv : β → Value} (k : κ) (v : β) : ∀ (kvs : List (κ × β)) (es : List MapEntry), es.map (fun e => (e.key, e.val)) = kvs.map (fun p => (enc p.1, encv p.2)) → ∀ clock,
    match ((kvs.map (·.1)).findIdx? (fun x => decide (k = x))).bind fun i => es[i]?.map fun e => (i, e.val) with
    | none => (es ++ [({ key := enc k, val := encv v, born := clock } : MapEntry)]).map (fun e : MapEntry => (e.key, e.val)) = (aput k v kvs).map (fun p => (enc p.1, encv p.2))
    | some (i, _) => (es[i]?.map (·.key)) = some (enc k) ∧ (es.modify i fun e : MapEntry => { e with key := enc k, val := encv v }).map (fun e : MapEntry => (e.key, e.val)) = (aput k v kvs).map (fun p => (enc p.1, encv p.2)) := by
  intro kvs
  induction kvs with
  | nil => intro es h clock; cases es with
    | nil => simp [aput]
    | cons e es => simp at h
  | cons x r ih =>
    obtain ⟨k', v'⟩ := x
    intro es h clock
    cases es with
    | nil => simp at h
    | cons e es =>
      simp only [List.map_cons, List.cons.injEq, Prod.mk.injEq] at h
      obtain ⟨⟨h1, h2⟩, h3⟩ := h
      by_cases hk : k = k'
      · subst hk
        simp [aput, h1, List.findIdx?_cons, h3]
      · have := ih es h3 clock
        simp only [aput, hk, if_false, List.map_cons, List.findIdx?_cons, decide_false, Bool.false_eq_true]
        cases hf : (List.map (fun x => x.fst) r).findIdx? (fun x => decide (k = x)) with
        | none => simp [hf] at this ⊢; exact ⟨⟨h1, h2⟩, this⟩
        | some i =>
          simp only [hf, Option.map_some, Option.bind_some, List.getElem?_cons_succ] at this ⊢
          cases hes : es[i]? with
          | none => simp [hes] at this ⊢; exact ⟨⟨h1, h2⟩, this⟩
          | some e' => simp [hes] at this ⊢; exact ⟨this.1, ⟨h1, h2⟩, this.2⟩

theorem grownBy_setObj {w : World} {r : Nat} (o : Obj) : w.grownBy { w with heap := w.heap.setIfInBounds r o } (some r) :=
  ⟨rfl, rfl, rfl, by simp, fun i _ hi => by
    show (w.heap.setIfInBounds r o)[i]? = w.heap[i]?
    rw [Array.getElem?_setIfInBounds_ne]
    intro e; subst e; exact hi rfl⟩

/-- 'm[k] = v' -/
theorem MapIs.update {P : Program} {w : World} {r : Nat} {κ β : Type} [DecidableEq κ] {enc : κ → Value} {encv : β → Value} {kvs : List (κ × β)} (h : MapIs w r enc encv kvs) {t kt et : TypeId} (K : KeyOK P kt enc) (ht : P.underlying t = some (.map kt et))
    (k : κ) (v : β) : ∃ w', (Instr.mapUpdate t (.map (some r)) (enc k) (encv v)).run P w = .ok () w' ∧ MapIs w' r enc encv (aput k v kvs) ∧ w.grownBy w' (some r) := by
  have hlt := h.lt
  obtain ⟨es, clock, hb, he⟩ := h
  have hf := K.find k es.toList _ w (MapIs.keys he)
  have hg := put_list k v kvs es.toList he clock
  have hset : ∀ o, (setObj r o : Sem Unit).run P w = .ok () { w with heap := w.heap.setIfInBounds r o } := fun o => by simp [setObj, Sem.run, hb]
  simp only [Instr.mapUpdate, Sem.run_bind, run_underlying ht, Result.andThen_ok, MapKept.run_getObj_map hb, K.check, hf]
  generalize ((kvs.map (·.1)).findIdx? (fun x => decide (k = x))).bind (fun i => es.toList[i]?.map fun e => (i, e.val)) = q at hg ⊢
  cases q with
  | none =>
    refine ⟨_, hset _, ⟨_, _, Array.getElem?_setIfInBounds_self_of_lt hlt, ?_⟩, grownBy_setObj _⟩
    simpa using hg
  | some iv =>
    obtain ⟨i, u⟩ := iv
    obtain ⟨hk, hm⟩ := hg
    have hk' : (es[i]?.map (·.key)).getD (enc k) = enc k := by
      have : es[i]?.map (·.key) = some (enc k) := by simpa using hk
      rw [this]; rfl
    simp only [hk', Instr.keyThatStays, K.same, if_true, Sem.run_bind, Sem.run_pure, Result.andThen_ok]
    refine ⟨_, hset _, ⟨_, _, Array.getElem?_setIfInBounds_self_of_lt hlt, ?_⟩, grownBy_setObj _⟩
    simpa using hm

theorem wpList_mapUpdate_is {P : Program} (w : World) {ops : Array Oper} {rest : List Oper} {o : Oper} {a : Act} {Q : Exit → Act → World → Prop}
    (hg : o.guard = none) (m x y : Operand) (t : TypeId) (hop : o.op = Op.mapUpdate t m x y)
    {κ β : Type} [DecidableEq κ] {enc : κ → Value} {encv : β → Value} {kvs : List (κ × β)} {r : Nat} (h : MapIs w r enc encv kvs) (kt et : TypeId) (K : KeyOK P kt enc) (ht : P.underlying t = some (.map kt et))
    (k : κ) (v : β) (hm : a.eval m = .map (some r)) (hx : a.eval x = enc k) (hv : a.eval y = encv v)
    (hK : ∀ w', MapIs w' r enc encv (aput k v kvs) → w.grownBy w' (some r) → wpList P ops Q rest (a.put o.dst undef) w') :
    wpList P ops Q (o :: rest) a w := by
  refine wpList_plain hg fun K' hK' => ?_
  obtain ⟨w', hrun, r1, r2⟩ := h.update K ht k v
  unfold Oper.wp
  simp [execOp, hop, hm, hx, hv, hrun, Result.andThen]
  exact hK' _ _ (hK w' r1 r2)

/-! ### keys -/
theorem findAsking_eq {P : Program} {kt : TypeId} {κ : Type} [DecidableEq κ] {enc : κ → Value} (heq : ∀ a b w, (Op.equal kt (enc a) (enc b)).run P w = .ok (decide (a = b)) w) (k : κ) :
    ∀ (es : List MapEntry) (ks : List κ) (i : Nat) (w : World), es.map (·.key) = ks.map enc →
      (Instr.findAsking kt (enc k) es i).run P w = .ok ((ks.findIdx? (fun x => decide (k = x))).bind fun j => es[j]?.map fun e => (i + j, e.val)) w := by
  intro es
  induction es with
  | nil => intro ks i w h; cases ks with
    | nil => simp [Instr.findAsking]
    | cons x r => simp at h
  | cons e es ih =>
    intro ks i w h
    cases ks with
    | nil => simp at h
    | cons x r =>
      simp only [List.map_cons, List.cons.injEq] at h
      obtain ⟨h1, h2⟩ := h
      simp only [Instr.findAsking, Sem.run_bind, h1, heq, Result.andThen_ok]
      by_cases hk : k = x
      · simp [hk, List.findIdx?_cons]
      · simp only [hk, decide_false, Bool.false_eq_true, if_false, List.findIdx?_cons]
        rw [ih r (i + 1) w h2]
        cases hf : r.findIdx? (fun x => decide (k = x)) with
        | none => simp
        | some j => simp; cases es[j]? <;> simp; omega

/-- Integers as keys. -/
theorem keyInt (P : Program) (kt : TypeId) (q : IntKind) (hu : P.underlying kt = some (.int q)) : KeyOK P kt (fun n : Int => Value.int q n) where
  check := fun emp k w => by
    have : ∀ n, (Instr.checkKey emp (n + 1) kt (.int q k)).run P w = .ok () w := fun n => by
      simp only [Instr.checkKey, Sem.run_bind, run_underlying hu, Result.andThen_ok, Sem.run_pure]
    exact this 9999
  find := fun k es ks w h => by
    have hnow : ∀ (es : List MapEntry) (ks : List Int) (i : Nat), es.map (·.key) = ks.map (fun n => Value.int q n) →
        Instr.findNow (.int q) (.int q k) es i = some ((ks.findIdx? (fun x => decide (k = x))).bind fun j => es[j]?.map fun e => (i + j, e.val)) := by
      intro es
      induction es with
      | nil => intro ks i h; cases ks with
        | nil => simp [Instr.findNow]
        | cons x r => simp at h
      | cons e es ih =>
        intro ks i h
        cases ks with
        | nil => simp at h
        | cons x r =>
          simp only [List.map_cons, List.cons.injEq] at h
          obtain ⟨h1, h2⟩ := h
          simp only [Instr.findNow, h1, Instr.sameNow, if_true]
          by_cases hk : k = x
          · simp [hk, List.findIdx?_cons]
          · have : (k == x) = false := by simpa using hk
            simp only [this, hk, decide_false, Bool.false_eq_true, List.findIdx?_cons, if_false]
            rw [ih r (i + 1) h2]
            cases hf : r.findIdx? (fun x => decide (k = x)) with
            | none => simp
            | some j => simp; cases es[j]? <;> simp; omega
    have := hnow es ks 0 h
    simp only [Instr.findKey, Sem.run_bind, run_underlying hu, Result.andThen_ok, this, Nat.zero_add]
    rfl
  same := fun k => by
    have : ∀ n, Instr.sameBits n (.int q k) (.int q k) = true := fun n => by simp [Instr.sameBits]
    exact this 10000

/-- Keys that are compared by '==' of aggregates. -/
theorem keyAgg (P : Program) (kt : TypeId) {κ : Type} [DecidableEq κ] (enc : κ → Value) (d : TypeDesc) (hu : P.underlying kt = some d) (hd : ∀ k e, Instr.sameNow d (enc k) (enc e) = none)
    (hc : ∀ emp k w, (Instr.checkKey emp 10000 kt (enc k)).run P w = .ok () w) (heq : ∀ a b w, (Op.equal kt (enc a) (enc b)).run P w = .ok (decide (a = b)) w)
    (hs : ∀ k, Instr.sameBits 10000 (enc k) (enc k) = true) : KeyOK P kt enc where
  check := hc
  find := fun k es ks w h => by
    have ha := findAsking_eq heq k es ks 0 w h
    simp only [Nat.zero_add] at ha
    simp only [Instr.findKey, Sem.run_bind, run_underlying hu, Result.andThen_ok]
    cases es with
    | nil => cases ks with
      | nil => simp [Instr.findNow]
      | cons x r => simp at h
    | cons e es =>
      cases ks with
      | nil => simp at h
      | cons x r =>
        have h1 : e.key = enc x := by simp only [List.map_cons, List.cons.injEq] at h; exact h.1
        simp only [Instr.findNow, h1, hd]
        exact ha
  same := hs

abbrev valT (t : Tile) : Value := .agg #[.int .i64 t.N, .int .i64 t.E, .int .i64 t.S, .int .i64 t.W]
theorem equalTile (a b : Tile) (w : World) : (Op.equal 44 (valT a) (valT b)).run Tryd.prog w = .ok (decide (a = b)) w := by
  have hf : Tryd.prog.fieldsOf 44 = #[⟨"N", 3, 0, false, "", "", 0⟩, ⟨"E", 3, 1, false, "", "", 8⟩, ⟨"S", 3, 2, false, "", "", 16⟩, ⟨"W", 3, 3, false, "", "", 24⟩] := by kernel_rfl
  have ha : ∀ w, (isAgg 3).run Tryd.prog w = .ok false w := fun _ => by kernel_rfl
  have hu : Tryd.prog.underlying 3 = some (.int .i64) := by kernel_rfl
  unfold Op.equal
  rw [show Op.maxDepth = 9999 + 1 from rfl, run_equalIn_struct w 9999 44 _ _ (by kernel_rfl) (by kernel_rfl), hf]
  have he : ∀ a b w, (Op.equalIn 9999 3 (.int .i64 a) (.int .i64 b)).run Tryd.prog w = .ok (a == b) w := fun a b w => run_equalIn_int w 9998 3 .i64 .i64 a b hu
  simp only [Op.eqFields, part, Sem.run_bind, ha, Result.andThen_ok, Bool.false_eq_true, if_false, Sem.run_pure, ne_eq, String.reduceEq, not_false_eq_true, if_true, he]
  obtain ⟨n, e, s, x⟩ := a
  obtain ⟨n', e', s', x'⟩ := b
  by_cases h1 : n = n' <;> by_cases h2 : e = e' <;> by_cases h3 : s = s' <;> by_cases h4 : x = x' <;> simp [he, h1, h2, h3, h4]
theorem keyTile : KeyOK Tryd.prog 44 valT := by
  refine keyAgg _ _ _ (.struct (Tryd.prog.fieldsOf 44)) (by kernel_rfl) (fun _ _ => rfl) ?_ equalTile ?_
  · intro emp k w
    kernel_rfl
  · intro k
    have : ∀ n, Instr.sameBits (n + 2) (valT k) (valT k) = true := fun n => by simp [Instr.sameBits]
    exact this 9998
end Go.Proofs.YtlcbgcieedbggaaDoor
namespace Go.Proofs.YtlcbgcieedbggaaDoor
open Go Go.RowKit

theorem wpList_lookup_is {P : Program} (w : World) {ops : Array Oper} {rest : List Oper} {o : Oper} {a : Act} {Q : Exit → Act → World → Prop}
    (hg : o.guard = none) (m x : Operand) (t : TypeId) (hop : o.op = Op.lookup t m x false)
    {κ β : Type} [DecidableEq κ] {enc : κ → Value} {encv : β → Value} {kvs : List (κ × β)} {r : Nat} (h : MapIs w r enc encv kvs) (kt et : TypeId) (K : KeyOK P kt enc) (ht : P.underlying t = some (.map kt et))
    (z : β) (hz : (zeroValue et).run P w = .ok (encv z) w) (k : κ) (v : β) (hv : (aget k kvs).getD z = v) (hm : a.eval m = .map (some r)) (hx : a.eval x = enc k)
    (hK : wpList P ops Q rest (a.put o.dst (encv v)) w) :
    wpList P ops Q (o :: rest) a w := by
  refine wpList_plain hg fun K' hK' => ?_
  have hrun := h.lookup K ht hz k
  rw [hv] at hrun
  unfold Oper.wp
  simp [execOp, hop, hm, hx, hrun, Result.andThen]
  exact hK' _ _ hK

def badColour (c : Int) : Bool := decide (c < 0) || decide (1000 ≤ c)
theorem badColour_yes {c : Int} (h : c < 0 ∨ 1000 ≤ c) : badColour c = true := by simp [badColour]; exact h
theorem badColour_no {c : Int} (h0 : 0 ≤ c) (h : c < 1000) : badColour c = false := by simp [badColour]; omega

theorem colourLit (c : Int) (w : World) : Calls Tryd.prog 82 #[.int .i64 c] w fun e w' => e = .returned (.bool (badColour c)) ∧ Kept w w' := by
  go_enter Tryd.func82, Tryd.ntmps82
  go_wp2
  all_goals go_ret
  all_goals exact ⟨by simp [badColour, *], Kept.refl w⟩

/-- tile.colour: all numbers are colours. -/
theorem colour (xs : List Int) (a : Option Addr) (cap : Nat) (w : World) (hx : SlA w 1 encI a xs) :
    Calls Tryd.prog 47 #[.slice a xs.length cap] w fun e w' => e = .returned (.bool (!xs.any badColour)) ∧ Kept w w' := by
  go_enter Tryd.func47, Tryd.ntmps47
  go_wp2_with (go_at_call 81; refine (containsFuncInt 82 #[] (enters_of Tryd.func82 (by kernel_rfl) rfl) badColour xs a cap _ (fun W x _ _ => colourLit x W) hx).mono ?_; rintro e w' ⟨rfl, hb'⟩)
  go_ret
  exact ⟨rfl, hb'⟩

def okTile (t : Tile) : Bool := !([t.N, t.E, t.S, t.W].any badColour)

/-- Four numbers that have just been laid in a block. -/
theorem SlA.four (w : World) (t : TypeId) (x0 x1 x2 x3 : Int) : SlA (w.alloc (.cells #[.int .i64 x0, .int .i64 x1, .int .i64 x2, .int .i64 x3] t)) 1 encI (some ⟨w.heap.size, 0, none⟩) [x0, x1, x2, x3] := by
  refine ⟨by simp, .inr ⟨w.heap.size, 0, rfl, by simp, ?_⟩⟩
  intro j h i v hv
  simp only [List.length_cons, List.length_nil] at h
  have hi : i = 0 := by
    cases i with
    | zero => rfl
    | succ i => simp [encI] at hv
  subst hi
  match j, h with
  | 0, _ => simp [encI] at hv; subst hv; simp
  | 1, _ => simp [encI] at hv; subst hv; simp
  | 2, _ => simp [encI] at hv; subst hv; simp
  | 3, _ => simp [encI] at hv; subst hv; simp

theorem colour4 (t : Tile) (a : Option Addr) (cap : Nat) (b : Bool) (hb : okTile t = b) (w : World) (hx : SlA w 1 encI a [t.N, t.E, t.S, t.W]) :
    Calls Tryd.prog 47 #[.slice a 4 cap] w fun e w' => e = .returned (.bool b) ∧ Kept w w' := by
  subst hb
  exact colour [t.N, t.E, t.S, t.W] a cap w hx

/-- tile.Valid in plain Lean. -/
def tilesValid (ts : List Tile) : Bool := decide (ts.length ≤ 1000) && ts.all okTile && decide ts.Nodup

def Seen (kvs : List (Tile × Bool)) (ts : List Tile) (k : Nat) : Prop := (∀ t, aget t kvs = if t ∈ ts.take k then some true else none) ∧ (∀ j (h : j < ts.length), j < k → okTile ts[j] = true) ∧ (ts.take k).Nodup

theorem valid_dup {ts : List Tile} {k : Nat} (hk : k < ts.length) (h : ts[k] ∈ ts.take k) : tilesValid ts = false := by
  have : ¬ ts.Nodup := by
    intro hn
    obtain ⟨j, hj, he⟩ := List.getElem_of_mem h
    rw [List.getElem_take] at he
    have hj' : j < k := by simp at hj; omega
    exact absurd ((List.nodup_iff_pairwise_ne.1 hn |> fun p => List.pairwise_iff_getElem.1 p j k (by simp at hj; omega) hk hj') he) (by simp)
  simp [tilesValid, this]
theorem valid_bad {ts : List Tile} {k : Nat} (hk : k < ts.length) (h : okTile ts[k] = false) : tilesValid ts = false := by
  have : ts.all okTile = false := by
    rw [List.all_eq_false]; exact ⟨ts[k], List.getElem_mem hk, by simp [h]⟩
  simp [tilesValid, this]
theorem valid_all {ts : List Tile} {kvs : List (Tile × Bool)} (hl : ts.length ≤ 1000) (h : Seen kvs ts ts.length) : tilesValid ts = true := by
  obtain ⟨_, h2, h3⟩ := h
  have h4 : ts.all okTile = true := by
    rw [List.all_eq_true]; intro x hx
    obtain ⟨j, hj, rfl⟩ := List.getElem_of_mem hx
    exact h2 j hj hj
  simp [tilesValid, h4, hl]
  simpa using h3
theorem seen_next {ts : List Tile} {kvs : List (Tile × Bool)} {k : Nat} (hk : k < ts.length) (h : Seen kvs ts k) (hin : ts[k] ∉ ts.take k) (hok : okTile ts[k] = true) : Seen (aput ts[k] true kvs) ts (k + 1) := by
  obtain ⟨h1, h2, h3⟩ := h
  have ht : ts.take (k + 1) = ts.take k ++ [ts[k]] := by rw [List.take_succ_eq_append_getElem hk]
  refine ⟨fun t => ?_, fun j hj hjk => ?_, ?_⟩
  · rw [aget_aput, ht, h1]
    by_cases e : t = ts[k]
    · rw [if_pos e, if_pos (List.mem_append.2 (.inr (List.mem_singleton.2 e)))]
    · rw [if_neg e]
      by_cases e2 : t ∈ ts.take k
      · rw [if_pos e2, if_pos (List.mem_append.2 (.inl e2))]
      · rw [if_neg e2, if_neg (fun h => (List.mem_append.1 h).elim e2 (fun h => e (List.mem_singleton.1 h)))]
  · by_cases e : j = k
    · subst e; exact hok
    · exact h2 j hj (by omega)
  · rw [ht, List.nodup_append]
    refine ⟨h3, by simp, ?_⟩
    intro a ha b hb e
    simp at hb
    exact hin (by rw [← hb, ← e]; exact ha)

set_option maxHeartbeats 1000000 in
theorem valid (ts : List Tile) (a : Option Addr) (cap : Nat) (w : World) (hx : SlA w 4 encT a ts) :
    Calls Tryd.prog 22 #[.slice a ts.length cap] w fun e w' => e = .returned (.bool (tilesValid ts)) ∧ Kept w w' := by
  have hm := hx.len
  have hmm := @run_makeMap Tryd.prog
  by_cases hl : 1000 < ts.length
  · go_enter Tryd.func22, Tryd.ntmps22
    go_wp2
    go_ret
    refine ⟨?_, Kept.refl w⟩
    have : tilesValid ts = false := by unfold tilesValid; rw [decide_eq_false (by omega)]; rfl
    rw [this]
    rfl
  · go_enter Tryd.func22, Tryd.ntmps22
    go_wp2
    go_loopg [5, 12] ts.length (fun gg _ s12 wr => ∃ kk : Nat, kk ≤ ts.length ∧ ts.length - kk ≤ gg ∧ s12 = .int .i64 kk ∧ Aside (Kept w wr) ∧ Aside (∃ kvs, MapIs wr w.heap.size valT Value.bool kvs ∧ Seen kvs ts kk))
    case atStart =>
      exact ⟨0, Nat.zero_le _, by omega, rfl, (Kept.refl w).alloc (Nat.le_refl _) _, [], MapIs.made w _ _, by intro t; simp [aget], fun j _ hj => absurd hj (Nat.not_lt_zero _), by simp⟩
    case round =>
      obtain ⟨kk, hkk, hg, rfl, BW, ⟨kvs, hmap, hseen⟩⟩ := hrel
      by_cases hlt : kk < ts.length
      · obtain ⟨b, off, rfl, hb, hc0, hc1, hc2, hc3⟩ := hx.tile hlt
        have hc0 := (BW.out.cell (p := ⟨b, off + kk * 4, none⟩) hb).trans hc0
        have hc1 := (BW.out.cell (p := ⟨b, off + kk * 4 + 1, none⟩) hb).trans hc1
        have hc2 := (BW.out.cell (p := ⟨b, off + kk * 4 + 2, none⟩) hb).trans hc2
        have hc3 := (BW.out.cell (p := ⟨b, off + kk * 4 + 3, none⟩) hb).trans hc3
        have HT := Lib.hid (rfl : ts[kk] = ts[kk])
        generalize ht : ts[kk] = t at hc0 hc1 hc2 hc3
        have HE := Lib.hid ht
        clear ht
        have hgrow : Kept wr (wr.alloc (.cells #[.int .i64 t.N, .int .i64 t.E, .int .i64 t.S, .int .i64 t.W] 44)) := (Kept.refl wr).alloc (Nat.le_refl _) _
        by_cases hin : t ∈ ts.take kk
        · have HG := Lib.hid (show (aget t kvs).getD false = true by rw [hseen.1 t, if_pos hin]; rfl)
          go_wp2_with (at_lookup; go_must (refine wpList_lookup_is _ rfl _ _ _ rfl (hmap.alloc _) 44 4 keyTile (by kernel_rfl) false (by kernel_rfl) t true HG.out rfl rfl ?_))
          go_ret
          refine ⟨?_, BW.out.trans hgrow⟩
          rw [valid_dup hlt (by rw [HE.out]; exact hin)]
          rfl
        · have HG := Lib.hid (show (aget t kvs).getD false = false by rw [hseen.1 t, if_neg hin]; rfl)
          cases hok : okTile t with
          | false =>
            go_wp2_with (first
              | (at_lookup; go_must (refine wpList_lookup_is _ rfl _ _ _ rfl (hmap.alloc _) 44 4 keyTile (by kernel_rfl) false (by kernel_rfl) t false HG.out rfl rfl ?_))
              | (go_at_call 47; go_must (refine (colour4 t _ _ false hok _ (by have := SlA.four (wr.alloc (.cells #[.int .i64 t.N, .int .i64 t.E, .int .i64 t.S, .int .i64 t.W] 44)) 3 t.N t.E t.S t.W; simpa using this)).mono ?_); rintro e w' ⟨rfl, hb'⟩))
            go_ret
            refine ⟨?_, BW.out.trans (hgrow.trans (Kept.trans ((Kept.refl _).alloc (Nat.le_refl _) _) hb'))⟩
            rw [valid_bad hlt (by rw [HE.out]; exact hok)]
            rfl
          | true =>
            go_wp2_with (first
              | (at_lookup; go_must (refine wpList_lookup_is _ rfl _ _ _ rfl (hmap.alloc _) 44 4 keyTile (by kernel_rfl) false (by kernel_rfl) t false HG.out rfl rfl ?_))
              | (go_at_call 47; go_must (refine (colour4 t _ _ true hok _ (by have := SlA.four (wr.alloc (.cells #[.int .i64 t.N, .int .i64 t.E, .int .i64 t.S, .int .i64 t.W] 44)) 3 t.N t.E t.S t.W; simpa using this)).mono ?_); rintro e w' ⟨rfl, hb'⟩; obtain ⟨hcc, hff⟩ := hb'.cells)
              | (at_mapUpdate; go_must (refine wpList_mapUpdate_is _ rfl _ _ _ _ rfl (((hmap.alloc _).alloc _).kept hb') 44 4 keyTile (by kernel_rfl) t true rfl rfl rfl ?_); intro w2 hm2 hg2))
            go_roundg (ts.length - (kk + 1))
            case measure => omega
            case rel =>
              have hw : Kept w w' := BW.out.trans (hgrow.trans (Kept.trans ((Kept.refl _).alloc (Nat.le_refl _) _) hb'))
              have hn := seen_next hlt hseen (by rw [HE.out]; exact hin) (by rw [HE.out]; exact hok)
              rw [HE.out] at hn
              exact ⟨kk + 1, by omega, by omega, by go_num, hw.grown hg2 hw.size (fun k e => by cases e; exact Nat.le_refl _), _, hm2, hn⟩
      · have : kk = ts.length := by omega
        subst this
        go_wp2
        go_ret
        refine ⟨?_, BW.out⟩
        rw [valid_all (by omega) hseen]
        rfl
end Go.Proofs.YtlcbgcieedbggaaDoor
namespace Go.Proofs.YtlcbgcieedbggaaDoor
open Go Go.RowKit

def fracOk (f : Frac) : Bool := decide (1 ≤ f.den) && decide (f.den ≤ 1000000) && decide (-1000000 ≤ f.num) && decide (f.num ≤ 1000000)

theorem fracValid (f : Frac) (w : World) : Calls Tryd.prog 57 #[.agg #[.int .i64 f.num, .int .i64 f.den]] w fun e w' => e = .returned (.bool (fracOk f)) ∧ Kept w w' := by
  go_enter Tryd.func57, Tryd.ntmps57
  go_wp2
  all_goals go_ret
  all_goals exact ⟨by simp [fracOk, *] <;> omega, (Kept.refl w).alloc (Nat.le_refl _) _⟩
theorem numNonneg (f : Frac) (w : World) : Calls Tryd.prog 58 #[.agg #[.int .i64 f.num, .int .i64 f.den]] w fun e w' => e = .returned (.bool (decide (0 ≤ f.num))) ∧ Kept w w' := by
  go_enter Tryd.func58, Tryd.ntmps58
  go_wp2
  all_goals go_ret
  all_goals exact ⟨by simp [*], (Kept.refl w).alloc (Nat.le_refl _) _⟩
theorem numPos (f : Frac) (w : World) : Calls Tryd.prog 59 #[.agg #[.int .i64 f.num, .int .i64 f.den]] w fun e w' => e = .returned (.bool (decide (0 < f.num))) ∧ Kept w w' := by
  go_enter Tryd.func59, Tryd.ntmps59
  go_wp2
  all_goals go_ret
  all_goals exact ⟨by simp [*], (Kept.refl w).alloc (Nat.le_refl _) _⟩

theorem all1 (g : Nat) (lb : Array Value) (eg : ∀ args w, (callFunc g args).run Tryd.prog w = .ok (.enter g args) w) (q : Bool) (f : Frac) (B : Nat) (w : World) (hB : B < w.heap.size) (hc : w.cell? ⟨B, 0, none⟩ = some (.func (.func g) #[] lb))
    (hp : ∀ W, Kept w W → Calls Tryd.prog g (#[.agg #[.int .i64 f.num, .int .i64 f.den]] ++ lb) W fun e w' => e = .returned (.bool q) ∧ Kept W w') :
    Calls Tryd.prog 67 #[.agg #[.int .i64 f.num, .int .i64 f.den], .pointer (some ⟨B, 0, none⟩)] w fun e w' => e = .returned (.bool (!q)) ∧ Kept w w' := by
  have hk : Kept w (w.alloc (.cells #[.int .i64 f.num, .int .i64 f.den] 79)) := (Kept.refl w).alloc (Nat.le_refl _) _
  have hcall := hp _ hk
  clear hp
  go_enter Tryd.func67, Tryd.ntmps67
  go_wp2_with (go_at_fn g; refine hcall.mono ?_; rintro e w' ⟨rfl, hb'⟩)
  go_ret
  exact ⟨rfl, hk.trans hb'⟩

/-- weight.all -/
theorem all (g : Nat) (lb : Array Value) (eg : ∀ args w, (callFunc g args).run Tryd.prog w = .ok (.enter g args) w) (p : Frac → Bool) (xs : List Frac) (a : Option Addr) (cap : Nat) (w : World)
    (hp : Pred Tryd.prog g lb encF p w xs) (hx : SlA w 2 encF a xs) :
    Calls Tryd.prog 39 #[.slice a xs.length cap, .func (.func g) #[] lb] w fun e w' => e = .returned (.bool (xs.all p)) ∧ Kept w w' := by
  have hk : Kept w (w.alloc (.cells #[.func (.func g) #[] lb] 89)) := (Kept.refl w).alloc (Nat.le_refl _) _
  have hcall := fun W (h : Kept (w.alloc (.cells #[.func (.func g) #[] lb] 89)) W) => containsFuncFrac 67 #[.pointer (some ⟨w.heap.size, 0, none⟩)] (enters_of Tryd.func67 (by kernel_rfl) rfl) (fun f => !p f) xs a cap W
    (fun W' x hxm hW' => by
      have hk1 := h.trans hW'
      exact all1 g lb eg (p x) x w.heap.size W' (Nat.lt_of_lt_of_le (by simp) hk1.size) ((hk1.cell (p := ⟨w.heap.size, 0, none⟩) (by simp)).trans (by simp)) (fun W'' h'' => hp W'' x hxm (hk.trans (hk1.trans h'')))) (hx.kept (hk.trans h))
  clear hp
  go_enter Tryd.func39, Tryd.ntmps39
  go_wp2_with (go_at_call 66; refine (hcall _ (Kept.refl _)).mono ?_; rintro e w' ⟨rfl, hb'⟩)
  go_ret
  refine ⟨?_, hk.trans hb'⟩
  rw [List.any_eq_not_all_not]
  simp

theorem gcd_step (x y : Int) (hx : 0 ≤ x) (hy : 0 ≤ y) : Int.gcd y (x % y) = Int.gcd x y := by
  obtain ⟨n, rfl⟩ := Int.eq_ofNat_of_zero_le hx
  obtain ⟨m, rfl⟩ := Int.eq_ofNat_of_zero_le hy
  rw [← Int.natCast_emod, Int.gcd_natCast_natCast, Int.gcd_natCast_natCast, Nat.gcd_comm n m, Nat.gcd_rec m n, Nat.gcd_comm]

/-- gcd by Euclid, as the text goes. -/
theorem gcdCalls (a b : Int) (ha : 0 ≤ a) (hb : 0 ≤ b) (ha' : a ≤ 1000000000000) (hb' : b ≤ 1000000000000) (w : World) :
    Calls Tryd.prog 93 #[.int .i64 a, .int .i64 b] w fun e w' => e = .returned (.int .i64 (Int.gcd a b)) ∧ Kept w w' := by
  go_enter Tryd.func93, Tryd.ntmps93
  go_wp2
  go_loopg [0, 1] b.toNat (fun gg s0 s1 wr => ∃ x y : Int, 0 ≤ x ∧ 0 ≤ y ∧ x ≤ 1000000000000 ∧ y ≤ 1000000000000 ∧ y.toNat ≤ gg ∧ s0 = .int .i64 x ∧ s1 = .int .i64 y ∧ Aside (Kept w wr) ∧ Aside (Int.gcd x y = Int.gcd a b))
  case atStart => exact ⟨a, b, ha, hb, ha', hb', Nat.le_refl _, rfl, rfl, Kept.refl w, rfl⟩
  case round =>
    obtain ⟨x, y, hx, hy, hx', hy', hg, rfl, rfl, BW, A⟩ := hrel
    by_cases hy0 : y = 0
    · subst hy0
      go_wp2
      go_ret
      refine ⟨?_, BW.out⟩
      rw [← A.out, Int.gcd_zero_right, Int.natAbs_of_nonneg hx]
      rfl
    · have h0 : (y != 0) = true := by simpa using hy0
      go_wp2
      go_quiet (fail)
      go_wp2
      go_roundg (y.toNat - 1)
      case measure => omega
      case rel =>
        have hm0 := Int.emod_nonneg x hy0
        have hm1 := Int.emod_lt_of_pos x (by omega : 0 < y)
        exact ⟨y, x % y, hy, hm0, hy', by omega, by omega, rfl, rfl, BW.out.trans (Kept.drewN _ _), (gcd_step x y hx hy).trans A.out⟩

/-- lowest terms, as the text goes -/
def lowest (f : Frac) : Frac := ⟨f.num.tdiv (Int.gcd f.num f.den), f.den.tdiv (Int.gcd f.num f.den)⟩
theorem lowestCalls (f : Frac) (hf : fracOk f = true) (w : World) : Calls Tryd.prog 68 #[.agg #[.int .i64 f.num, .int .i64 f.den]] w fun e w' => e = .returned (.agg #[.int .i64 (lowest f).num, .int .i64 (lowest f).den]) ∧ Kept w w' := by
  have h1 : 1 ≤ f.den ∧ f.den ≤ 1000000 ∧ -1000000 ≤ f.num ∧ f.num ≤ 1000000 := by simpa [fracOk, and_assoc] using hf
  obtain ⟨h1, h2, h3, h4⟩ := h1
  have hg : 1 ≤ (Int.gcd f.num f.den : Int) ∧ (Int.gcd f.num f.den : Int) ≤ 1000000 := by
    have h5 : 0 < Int.gcd f.num f.den := Int.gcd_pos_of_ne_zero_right _ (by omega)
    have h6 : (Int.gcd f.num f.den : Int) ≤ f.den := Int.le_of_dvd (by omega) (Int.gcd_dvd_right _ _)
    omega
  have hgm : Int.gcd (max f.num (-f.num)) f.den = Int.gcd f.num f.den := by
    by_cases hn : 0 ≤ f.num
    · rw [Int.max_eq_left (by omega)]
    · rw [Int.max_eq_right (by omega), Int.neg_gcd]
  have HG := Lib.hid hgm
  clear hgm
  go_enter Tryd.func68, Tryd.ntmps68
  by_cases hn : 0 ≤ f.num
  · rw [Int.max_eq_left (by omega)] at HG
    clear HG
    generalize hgg : (Int.gcd f.num f.den : Int) = g at hg
    have HG2 := Lib.hid hgg
    clear hgg
    have hne : (g == 0) = false := by simp; omega
    go_wp2_with (fail)
    refine (gcdCalls f.num f.den (by omega) (by omega) (by omega) (by omega) _).mono ?_
    rintro e w' ⟨rfl, hb'⟩
    rw [HG2.out]
    obtain ⟨hcc, hff⟩ := hb'.cells
    go_wp2_with (fail)
    go_region
    go_wp2
    have hk1 : Kept w w' := Kept.trans (((Kept.refl w).alloc (Nat.le_refl _) _).alloc (by simp) _) hb'
    have hs0 : (w'.cell? ⟨w.heap.size + 1, 0, none⟩).isSome = true := by rw [hcc _ _ (by simp)]; simp
    have hs1 : (w'.cell? ⟨w.heap.size + 1, 1, none⟩).isSome = true := by rw [hcc _ _ (by simp)]; simp
    refine bodyPost_ret (v := .agg #[.int .i64 (f.num / g), .int .i64 (f.den / g)]) (by simp [results, Tryd.results68, go_sem, hs0, hs1]) rfl ⟨?_, ((hk1.setCell (by simp) _).setCell (by simp) _).drew⟩
    simp only [lowest, HG2.out, Int.tdiv_eq_ediv_of_nonneg hn, Int.tdiv_eq_ediv_of_nonneg (show 0 ≤ f.den by omega)]
  · rw [Int.max_eq_right (by omega)] at HG
    rw [← HG.out] at hg
    generalize hgg : (Int.gcd (-f.num) f.den : Int) = g at hg
    have HG2 := Lib.hid hgg
    have HG3 := Lib.hid ((congrArg Int.ofNat HG.out).symm.trans hgg)
    clear hgg HG
    have hne : (g == 0) = false := by simp; omega
    have hn' : f.num < -f.num := by omega
    go_wp2_with (fail)
    refine (gcdCalls (-f.num) f.den (by omega) (by omega) (by omega) (by omega) _).mono ?_
    rintro e w' ⟨rfl, hb'⟩
    rw [HG2.out]
    obtain ⟨hcc, hff⟩ := hb'.cells
    go_wp2_with (fail)
    go_region
    go_wp2
    have hk1 : Kept w w' := Kept.trans (((Kept.refl w).alloc (Nat.le_refl _) _).alloc (by simp) _) hb'
    have hs0 : (w'.cell? ⟨w.heap.size + 1, 0, none⟩).isSome = true := by rw [hcc _ _ (by simp)]; simp
    have hs1 : (w'.cell? ⟨w.heap.size + 1, 1, none⟩).isSome = true := by rw [hcc _ _ (by simp)]; simp
    refine bodyPost_ret (v := .agg #[.int .i64 (f.num.tdiv g), .int .i64 (f.den / g)]) (by simp [results, Tryd.results68, go_sem, hs0, hs1]) rfl ⟨?_, ((hk1.setCell (by simp) _).setCell (by simp) _).drew⟩
    simp only [lowest]
    rw [show ((Int.gcd f.num f.den : Nat) : Int) = g from HG3.out, Int.tdiv_eq_ediv_of_nonneg (show 0 ≤ f.den by omega)]

theorem indexInt (x : Int) (xs : List Int) (a : Option Addr) (cap : Nat) (w : World) (hx : SlA w 1 encI a xs) :
    Calls Tryd.prog 88 #[.slice a xs.length cap, .int .i64 x] w fun e w' => e = .returned (.int .i64 (idxOf (fun y => decide (y = x)) xs)) ∧ w = w' := by
  have hm := hx.len
  go_enter Tryd.func88, Tryd.ntmps88
  go_wp2
  go_loop [5, 8] (fun _ s8 => ∃ kk : Nat, kk ≤ xs.length ∧ s8 = .int .i64 kk ∧ Aside (∀ j (h : j < xs.length), j < kk → decide (xs[j] = x) = false)) (fun _ s8 => xs.length - (intOf s8).toNat)
  case atStart => exact ⟨0, Nat.zero_le _, rfl, fun j _ hj => absurd hj (Nat.not_lt_zero _)⟩
  case round =>
    obtain ⟨kk, hkk, rfl, A⟩ := hrel
    by_cases hlt : kk < xs.length
    · obtain ⟨b, off, rfl, hb, hc0⟩ := hx.int hlt
      generalize hy : xs[kk] = y at hc0
      have B : Aside (xs[kk] = y) := hy
      clear hy
      by_cases hq : x = y
      · have h0 : (x == y) = true := by simpa using hq
        have hqh := Lib.hid hq
        clear hq
        go_wp2
        go_ret
        refine ⟨?_, rfl⟩
        rw [idxOf_hit hlt (by rw [B.out, hqh.out]; simp) A.out]
        rfl
      · have h0 : (x == y) = false := by simpa using hq
        have hq' := Lib.hid hq
        clear hq
        go_wp2
        go_round
        case measure => simp [intOf]; omega
        case rel =>
          refine ⟨kk + 1, by omega, by go_num, (show Aside _ from fun j hl hj => ?_)⟩
          by_cases e : j = kk
          · subst e
            rw [B.out]; simp; exact fun e => hq'.out e.symm
          · exact A.out j hl (by omega)
    · have : kk = xs.length := by omega
      subst this
      go_wp2
      go_ret
      refine ⟨?_, rfl⟩
      rw [idxOf_miss (fun j hl => A.out j hl hl)]
      rfl

theorem containsInt (x : Int) (xs : List Int) (a : Option Addr) (cap : Nat) (w : World) (hx : SlA w 1 encI a xs) :
    Calls Tryd.prog 61 #[.slice a xs.length cap, .int .i64 x] w fun e w' => e = .returned (.bool (xs.any (fun y => decide (y = x)))) ∧ w = w' := by
  rw [← idxOf_any]
  go_enter Tryd.func61, Tryd.ntmps61
  go_wp2_with (go_at_call 88; refine (indexInt x xs a cap _ hx).mono ?_; rintro e w' ⟨rfl, rfl⟩)
  go_ret
  exact ⟨rfl, rfl⟩

/-- A prime, by the text of weight.prime. -/
def PrimeP (n : Int) : Prop := 2 ≤ n ∧ ∀ d : Int, 2 ≤ d → d * d ≤ n → ¬ n % d = 0
noncomputable def primeB (n : Int) : Bool := @decide (PrimeP n) (Classical.propDecidable _)
theorem primeB_true {n : Int} : primeB n = true ↔ PrimeP n := by simp [primeB]
theorem primeB_false {n : Int} : primeB n = false ↔ ¬ PrimeP n := by simp [primeB]

theorem prime (n : Int) (hn : n ≤ 1000000) (w : World) : Calls Tryd.prog 60 #[.int .i64 n] w fun e w' => e = .returned (.bool (primeB n)) ∧ w = w' := by
  go_enter Tryd.func60, Tryd.ntmps60
  go_wp2
  go_loop [3, 4] (fun s3 _ => ∃ d : Int, 2 ≤ d ∧ d ≤ 1001 ∧ s3 = .int .i64 d ∧ Aside (∀ c : Int, 2 ≤ c → c < d → c * c ≤ n → ¬ n % c = 0)) (fun s3 _ => 1002 - (intOf s3).toNat)
  case atStart => exact ⟨2, by omega, by omega, rfl, fun c h1 h2 => by omega⟩
  case round =>
    obtain ⟨d, hd, hd2, rfl, A⟩ := hrel
    have h1 : d * d ≤ 1002001 := by
      have := Int.mul_le_mul hd2 hd2 (by omega) (by omega)
      omega
    have h0 : 4 ≤ d * d := by
      have := Int.mul_le_mul hd hd (by omega) (by omega)
      omega
    by_cases hlt : d * d ≤ n
    · have hd3 : d < 1001 := by
        by_cases e : d < 1001
        · exact e
        · have : d = 1001 := by omega
          subst this
          omega
      by_cases hm : n % d = 0
      · have hm' : (n % d == 0) = true := by simpa using hm
        have hmh := Lib.hid hm
        clear hm
        go_wp2
        go_ret
        refine ⟨?_, rfl⟩
        rw [primeB_false.2 (fun h => h.2 d hd hlt hmh.out)]
        rfl
      · have hm' : (n % d == 0) = false := by simpa using hm
        have hmh := Lib.hid hm
        clear hm
        go_wp2
        go_round
        case measure => simp [intOf]; omega
        case rel =>
          refine ⟨d + 1, by omega, by omega, rfl, (show Aside _ from fun c hc1 hc2 hc3 => ?_)⟩
          by_cases e : c = d
          · rw [e]; exact hmh.out
          · exact A.out c hc1 (by omega) hc3
    · have hall : ∀ c : Int, 2 ≤ c → c * c ≤ n → ¬ n % c = 0 := by
        intro c hc1 hc2
        by_cases e : c < d
        · exact A.out c hc1 e hc2
        · have := Int.mul_le_mul (show d ≤ c by omega) (show d ≤ c by omega) (by omega) (by omega)
          omega
      have hall := Lib.hid hall
      by_cases h2 : 2 ≤ n
      · go_wp2
        go_ret
        refine ⟨?_, rfl⟩
        rw [primeB_true.2 ⟨h2, hall.out⟩]
        rfl
      · go_wp2
        go_ret
        refine ⟨?_, rfl⟩
        rw [primeB_false.2 (fun h => by have := h.1; omega)]
        rfl
end Go.Proofs.YtlcbgcieedbggaaDoor
namespace Go.Proofs.YtlcbgcieedbggaaDoor
open Go Go.RowKit

def needVTo (ts : List Tile) : Int := ts.foldl (fun m t => max (max m (t.N + 1)) (t.S + 1)) 0
def needCTo (ts : List Tile) : Int := ts.foldl (fun m t => max (max m (t.E + 1)) (t.W + 1)) 0

theorem needVTo_next {ts : List Tile} {k : Nat} (h : k < ts.length) : needVTo (ts.take (k + 1)) = max (max (needVTo (ts.take k)) (ts[k].N + 1)) (ts[k].S + 1) := by
  rw [List.take_succ_eq_append_getElem h, needVTo, List.foldl_append]; rfl
theorem needCTo_next {ts : List Tile} {k : Nat} (h : k < ts.length) : needCTo (ts.take (k + 1)) = max (max (needCTo (ts.take k)) (ts[k].E + 1)) (ts[k].W + 1) := by
  rw [List.take_succ_eq_append_getElem h, needCTo, List.foldl_append]; rfl
theorem needed_next {ts : List Tile} {k : Nat} (h : k < ts.length) {t : Tile} (ht : ts[k] = t) {v c v' c' : Int} (hv : v = needVTo (ts.take k) ∧ c = needCTo (ts.take k)) (h1 : v' = max (max v (t.N + 1)) (t.S + 1)) (h2 : c' = max (max c (t.E + 1)) (t.W + 1)) :
    v' = needVTo (ts.take (k + 1)) ∧ c' = needCTo (ts.take (k + 1)) := by
  subst ht
  rw [needVTo_next h, needCTo_next h, ← hv.1, ← hv.2]
  exact ⟨h1, h2⟩

set_option maxHeartbeats 2000000 in
theorem needed (ts : List Tile) (hts : ts.all okTile = true) (a : Option Addr) (cap : Nat) (w : World) (hx : SlA w 4 encT a ts) :
    Calls Tryd.prog 56 #[.slice a ts.length cap] w fun e w' => e = .returned (.tuple #[.int .i64 (needVTo ts), .int .i64 (needCTo ts)]) ∧ Kept w w' := by
  have hm := hx.len
  go_enter Tryd.func56, Tryd.ntmps56
  go_wp2
  go_loopg [4, 5, 7, 10] ts.length (fun gg s4 s5 _ s10 wr => ∃ kk : Nat, ∃ v c : Int, kk ≤ ts.length ∧ ts.length - kk ≤ gg ∧ s10 = .int .i64 kk ∧ s4 = .int .i64 v ∧ s5 = .int .i64 c ∧ 0 ≤ v ∧ v ≤ 1000 ∧ 0 ≤ c ∧ c ≤ 1000 ∧ Aside (Kept w wr) ∧ Aside (v = needVTo (ts.take kk) ∧ c = needCTo (ts.take kk)))
  case atStart => exact ⟨0, 0, 0, Nat.zero_le _, by omega, rfl, rfl, rfl, by omega, by omega, by omega, by omega, Kept.refl w, (show _ ∧ _ from ⟨rfl, rfl⟩)⟩
  case round =>
    obtain ⟨kk, v, c, hkk, hg, rfl, rfl, rfl, hv0, hv1, hc0', hc1', BW, A⟩ := hrel
    by_cases hlt : kk < ts.length
    · obtain ⟨b, off, rfl, hb, hc0, hc1, hc2, hc3⟩ := hx.tile hlt
      have hc0 := (BW.out.cell (p := ⟨b, off + kk * 4, none⟩) hb).trans hc0
      have hc1 := (BW.out.cell (p := ⟨b, off + kk * 4 + 1, none⟩) hb).trans hc1
      have hc2 := (BW.out.cell (p := ⟨b, off + kk * 4 + 2, none⟩) hb).trans hc2
      have hc3 := (BW.out.cell (p := ⟨b, off + kk * 4 + 3, none⟩) hb).trans hc3
      have hok : okTile ts[kk] = true := List.all_eq_true.1 hts _ (List.getElem_mem hlt)
      have hb4 : 0 ≤ ts[kk].N ∧ ts[kk].N < 1000 ∧ 0 ≤ ts[kk].E ∧ ts[kk].E < 1000 ∧ 0 ≤ ts[kk].S ∧ ts[kk].S < 1000 ∧ 0 ≤ ts[kk].W ∧ ts[kk].W < 1000 := by
        simp [okTile, badColour] at hok; omega
      generalize ht : ts[kk] = t at hc0 hc1 hc2 hc3 hb4
      have HE := Lib.hid ht
      clear ht hok
      obtain ⟨g0, g1, g2, g3, g4, g5, g6, g7⟩ := hb4
      go_wp2
      have e1 : IntKind.i64.wrap (t.N + 1) = t.N + 1 := IntWalk.i64_in _ (by omega)
      have e2 : IntKind.i64.wrap (t.E + 1) = t.E + 1 := IntWalk.i64_in _ (by omega)
      have e3 : IntKind.i64.wrap (t.S + 1) = t.S + 1 := IntWalk.i64_in _ (by omega)
      have e4 : IntKind.i64.wrap (t.W + 1) = t.W + 1 := IntWalk.i64_in _ (by omega)
      go_quiet (fail)
      go_wp2
      clear e1 e2 e3 e4
      all_goals
        go_roundg (ts.length - (kk + 1))
        case measure => omega
        case rel =>
          exact ⟨kk + 1, _, _, by omega, by omega, by go_num, rfl, rfl, by omega, by omega, by omega, by omega, BW.out.trans (Kept.trans ((Kept.refl wr).alloc (Nat.le_refl _) _) (Kept.drewN _ _)), needed_next hlt HE.out A.out (by omega) (by omega)⟩
    · have : kk = ts.length := by omega
      subst this
      go_wp2
      go_ret2
      refine ⟨?_, BW.out⟩
      have A := A.out
      rw [List.take_length] at A
      rw [A.1, A.2]
      rfl

def eqFrac (a b : Frac) : Bool := decide (a.num * b.den = b.num * a.den)
theorem frac_bounds {f : Frac} (h : fracOk f = true) : 1 ≤ f.den ∧ f.den ≤ 1000000 ∧ -1000000 ≤ f.num ∧ f.num ≤ 1000000 := by simpa [fracOk, and_assoc] using h
theorem mul_bound {x y : Int} (hx : -1000000 ≤ x ∧ x ≤ 1000000) (hy : 0 ≤ y ∧ y ≤ 1000000) : -1000000000000 ≤ x * y ∧ x * y ≤ 1000000000000 := by
  have h1 := Int.mul_le_mul_of_nonneg_right hx.1 hy.1
  have h2 := Int.mul_le_mul_of_nonneg_right hx.2 hy.1
  omega
theorem equal (a b : Frac) (ha : fracOk a = true) (hb : fracOk b = true) (w : World) :
    Calls Tryd.prog 35 #[.agg #[.int .i64 a.num, .int .i64 a.den], .agg #[.int .i64 b.num, .int .i64 b.den]] w fun e w' => e = .returned (.bool (eqFrac a b)) ∧ Kept w w' := by
  obtain ⟨a1, a2, a3, a4⟩ := frac_bounds ha
  obtain ⟨b1, b2, b3, b4⟩ := frac_bounds hb
  have h1 := mul_bound ⟨a3, a4⟩ ⟨(by omega : 0 ≤ b.den), b2⟩
  have h2 := mul_bound ⟨b3, b4⟩ ⟨(by omega : 0 ≤ a.den), a2⟩
  obtain ⟨h11, h12⟩ := h1
  obtain ⟨h21, h22⟩ := h2
  clear ha hb
  go_enter Tryd.func35, Tryd.ntmps35
  go_wp2
  go_ret
  exact ⟨rfl, ((Kept.refl w).alloc (Nat.le_refl _) _).alloc (by simp) _⟩
end Go.Proofs.YtlcbgcieedbggaaDoor
namespace Go.Proofs.YtlcbgcieedbggaaDoor
open Go Go.RowKit

/-- Weights. -/
structure Wt where
  values : List Frac
  carries : List Frac
  factors : List Frac
  primes : List Int
  logs : List Int

/-- Weights lie in w, by their five slices. -/
structure WIs (w : World) (a0 a1 a2 a3 a4 : Option Addr) (W : Wt) : Prop where
  s0 : SlA w 2 encF a0 W.values
  s1 : SlA w 2 encF a1 W.carries
  s2 : SlA w 2 encF a2 W.factors
  s3 : SlA w 1 encI a3 W.primes
  s4 : SlA w 1 encI a4 W.logs
theorem WIs.kept {w w' : World} {a0 a1 a2 a3 a4 : Option Addr} {W : Wt} (h : WIs w a0 a1 a2 a3 a4 W) (hk : Kept w w') : WIs w' a0 a1 a2 a3 a4 W :=
  ⟨h.s0.kept hk, h.s1.kept hk, h.s2.kept hk, h.s3.kept hk, h.s4.kept hk⟩

/-- The primes and the logs, the first n of them. -/
def PrimesTo (W : Wt) (n : Nat) : Prop :=
  ∀ i (h : i < W.primes.length), i < n → 2 ≤ W.primes[i] ∧ W.primes[i] ≤ 1000000 ∧ PrimeP W.primes[i] ∧ W.primes[i] ∉ W.primes.take i ∧ -1000 ≤ W.logs[i]?.getD 0 ∧ W.logs[i]?.getD 0 ≤ 1000
noncomputable def primesB (W : Wt) : Bool := @decide (PrimesTo W W.primes.length) (Classical.propDecidable _)
theorem primesB_true {W : Wt} : primesB W = true ↔ PrimesTo W W.primes.length := by simp [primesB]
theorem primesB_false {W : Wt} (i : Nat) (h : i < W.primes.length) (hn : ¬ (2 ≤ W.primes[i] ∧ W.primes[i] ≤ 1000000 ∧ PrimeP W.primes[i] ∧ W.primes[i] ∉ W.primes.take i ∧ -1000 ≤ W.logs[i]?.getD 0 ∧ W.logs[i]?.getD 0 ≤ 1000)) : primesB W = false := by
  simp [primesB]; exact fun h' => hn (h' i h h)
theorem primesTo_next {W : Wt} {n : Nat} (h : n < W.primes.length) (h1 : PrimesTo W n) (h2 : 2 ≤ W.primes[n] ∧ W.primes[n] ≤ 1000000 ∧ PrimeP W.primes[n] ∧ W.primes[n] ∉ W.primes.take n ∧ -1000 ≤ W.logs[n]?.getD 0 ∧ W.logs[n]?.getD 0 ≤ 1000) : PrimesTo W (n + 1) := by
  intro i hi hin
  by_cases e : i = n
  · subst e; exact h2
  · exact h1 i hi (by omega)

/-- weight.Valid in plain Lean, but for the primes. -/
def lensB (ts : List Tile) (W : Wt) : Bool :=
  decide ((W.values.length : Int) = needVTo ts) && decide ((W.carries.length : Int) = needCTo ts) && decide (W.factors.length = ts.length) && decide (W.primes.length ≤ 12) && decide (W.logs.length = W.primes.length)
def fracsB (W : Wt) : Bool :=
  W.values.all fracOk && W.carries.all fracOk && W.factors.all fracOk && W.values.all (fun f => decide (0 ≤ f.num)) && W.factors.all (fun f => decide (0 < f.num))
noncomputable def validW (ts : List Tile) (W : Wt) : Bool := tilesValid ts && lensB ts W && fracsB W && primesB W

theorem pFrac (w : World) (xs : List Frac) : Pred Tryd.prog 57 #[] encF fracOk w xs := fun W x _ _ => fracValid x W
theorem pNonneg (w : World) (xs : List Frac) : Pred Tryd.prog 58 #[] encF (fun f => decide (0 ≤ f.num)) w xs := fun W x _ _ => numNonneg x W
theorem pPos (w : World) (xs : List Frac) : Pred Tryd.prog 59 #[] encF (fun f => decide (0 < f.num)) w xs := fun W x _ _ => numPos x W
theorem eFrac : Enters Tryd.prog 57 := enters_of Tryd.func57 (by kernel_rfl) rfl
theorem eNonneg : Enters Tryd.prog 58 := enters_of Tryd.func58 (by kernel_rfl) rfl
theorem ePos : Enters Tryd.prog 59 := enters_of Tryd.func59 (by kernel_rfl) rfl
theorem allFrac (xs : List Frac) (b : Bool) (hb : xs.all fracOk = b) (a : Option Addr) (cap : Nat) (w : World) (hx : SlA w 2 encF a xs) :
    Calls Tryd.prog 39 #[.slice a xs.length cap, .func (.func 57) #[] #[]] w fun e w' => e = .returned (.bool b) ∧ Kept w w' := by
  subst hb; exact all 57 #[] eFrac fracOk xs a cap w (pFrac w xs) hx
theorem allNonneg (xs : List Frac) (b : Bool) (hb : xs.all (fun f => decide (0 ≤ f.num)) = b) (a : Option Addr) (cap : Nat) (w : World) (hx : SlA w 2 encF a xs) :
    Calls Tryd.prog 39 #[.slice a xs.length cap, .func (.func 58) #[] #[]] w fun e w' => e = .returned (.bool b) ∧ Kept w w' := by
  subst hb; exact all 58 #[] eNonneg _ xs a cap w (pNonneg w xs) hx
theorem allPos (xs : List Frac) (b : Bool) (hb : xs.all (fun f => decide (0 < f.num)) = b) (a : Option Addr) (cap : Nat) (w : World) (hx : SlA w 2 encF a xs) :
    Calls Tryd.prog 39 #[.slice a xs.length cap, .func (.func 59) #[] #[]] w fun e w' => e = .returned (.bool b) ∧ Kept w w' := by
  subst hb; exact all 59 #[] ePos _ xs a cap w (pPos w xs) hx

theorem valid_b (ts : List Tile) (b : Bool) (hb : tilesValid ts = b) (a : Option Addr) (cap : Nat) (w : World) (hx : SlA w 4 encT a ts) :
    Calls Tryd.prog 22 #[.slice a ts.length cap] w fun e w' => e = .returned (.bool b) ∧ Kept w w' := by
  subst hb; exact valid ts a cap w hx

theorem tv_all {ts : List Tile} (h : tilesValid ts = true) : ts.all okTile = true ∧ ts.length ≤ 1000 ∧ ts.Nodup := by
  simp only [tilesValid, Bool.and_eq_true, decide_eq_true_eq] at h
  exact ⟨h.1.2, h.1.1, h.2⟩

set_option maxHeartbeats 2000000 in
set_option maxRecDepth 100000 in
theorem validTiles_no (ts : List Tile) (W : Wt) (hno : tilesValid ts = false) (a : Option Addr) (cap : Nat) (a0 a1 a2 a3 a4 : Option Addr) (c0 c1 c2 c3 c4 : Nat) (w : World) (hx : SlA w 4 encT a ts) :
    Calls Tryd.prog 31 #[.slice a ts.length cap, .agg #[.slice a0 W.values.length c0, .slice a1 W.carries.length c1, .slice a2 W.factors.length c2, .slice a3 W.primes.length c3, .slice a4 W.logs.length c4]] w
      fun e w' => e = .returned (.bool false) ∧ Kept w w' := by
  have hk0 : ∀ o, Kept w (w.alloc o) := fun o => (Kept.refl w).alloc (Nat.le_refl _) o
  go_enter Tryd.func31, Tryd.ntmps31
  go_wp2_with (go_at_call 22; refine (valid_b ts false hno a cap _ (hx.kept (hk0 _))).mono ?_; rintro e w' ⟨rfl, hb'⟩)
  go_ret
  exact ⟨rfl, (hk0 _).trans hb'⟩

set_option maxHeartbeats 4000000 in
set_option maxRecDepth 100000 in
theorem validLens_no (ts : List Tile) (W : Wt) (hyes : tilesValid ts = true) (hno : lensB ts W = false) (a : Option Addr) (cap : Nat) (a0 a1 a2 a3 a4 : Option Addr) (c0 c1 c2 c3 c4 : Nat) (w : World) (hx : SlA w 4 encT a ts) (hW : WIs w a0 a1 a2 a3 a4 W) :
    Calls Tryd.prog 31 #[.slice a ts.length cap, .agg #[.slice a0 W.values.length c0, .slice a1 W.carries.length c1, .slice a2 W.factors.length c2, .slice a3 W.primes.length c3, .slice a4 W.logs.length c4]] w
      fun e w' => e = .returned (.bool false) ∧ Kept w w' := by
  have hk0 : ∀ o, Kept w (w.alloc o) := fun o => (Kept.refl w).alloc (Nat.le_refl _) o
  have hall := Lib.hid (tv_all hyes).1
  have l0 := hW.s0.len
  have l1 := hW.s1.len
  have l2 := hW.s2.len
  have l3 := hW.s3.len
  have l4 := hW.s4.len
  have lt := hx.len
  go_enter Tryd.func31, Tryd.ntmps31
  go_upto_region 4 with (first
    | (go_at_call 22; refine (valid_b ts true hyes a cap _ (hx.kept (hk0 _))).mono ?_; rintro e w' ⟨rfl, hb'⟩; obtain ⟨hcc, hff⟩ := hb'.cells)
    | (go_at_call 56; go_must (refine (needed ts hall.out a cap _ (hx.kept ((hk0 _).trans (by assumption)))).mono ?_); rintro e w'' ⟨rfl, hb''⟩; obtain ⟨hcc2, hff2⟩ := hb''.cells))
  have hk2 : Kept w w'' := (hk0 _).trans (hb'.trans hb'')
  have hw2 := hW.kept hk2
  have q0 : w''.cell? ⟨w.heap.size, 0, none⟩ = some (.slice a0 W.values.length c0) := by rw [hcc2 _ _ (Nat.lt_of_lt_of_le (by simp) hb'.size), hcc _ _ (by simp)]; simp
  have q1 : w''.cell? ⟨w.heap.size, 1, none⟩ = some (.slice a1 W.carries.length c1) := by rw [hcc2 _ _ (Nat.lt_of_lt_of_le (by simp) hb'.size), hcc _ _ (by simp)]; simp
  have q2 : w''.cell? ⟨w.heap.size, 2, none⟩ = some (.slice a2 W.factors.length c2) := by rw [hcc2 _ _ (Nat.lt_of_lt_of_le (by simp) hb'.size), hcc _ _ (by simp)]; simp
  have q3 : w''.cell? ⟨w.heap.size, 3, none⟩ = some (.slice a3 W.primes.length c3) := by rw [hcc2 _ _ (Nat.lt_of_lt_of_le (by simp) hb'.size), hcc _ _ (by simp)]; simp
  have q4 : w''.cell? ⟨w.heap.size, 4, none⟩ = some (.slice a4 W.logs.length c4) := by rw [hcc2 _ _ (Nat.lt_of_lt_of_le (by simp) hb'.size), hcc _ _ (by simp)]; simp
  have hBlt : w.heap.size < w''.heap.size := Nat.lt_of_lt_of_le (by simp) (Nat.le_trans hb'.size hb''.size)
  clear hcc hff hcc2 hff2 hb' hb''
  generalize w.heap.size = B at *
  unfold lensB at hno
  generalize needVTo ts = nv at *
  generalize needCTo ts = nc at *
  generalize W.values.length = n0 at *
  generalize W.carries.length = n1 at *
  generalize W.factors.length = n2 at *
  generalize W.primes.length = n3 at *
  generalize W.logs.length = n4 at *
  generalize ts.length = nt at *
  by_cases h0 : (n0 : Int) = nv
  · have t0 : ((n0 : Int) != nv) = false := by simpa using h0
    by_cases h1 : (n1 : Int) = nc
    · have t1 : ((n1 : Int) != nc) = false := by simpa using h1
      by_cases h2 : n2 = nt
      · have t2 : ((n2 : Int) != (nt : Int)) = false := by rw [bne_eq_false_iff_eq]; omega
        by_cases h3 : n3 ≤ 12
        · by_cases h4 : n4 = n3
          · rw [decide_eq_true h0, decide_eq_true h1, decide_eq_true h2, decide_eq_true h3, decide_eq_true h4] at hno
            cases hno
          · have t4 : ((n4 : Int) != (n3 : Int)) = true := by simp; omega
            clear h0 h1 h2 h4 hno
            go_wp2_with (fail)
            go_ret
            exact ⟨rfl, hk2⟩
        · have t3 : (12 : Int) < (n3 : Int) := by omega
          clear h0 h1 h2 h3 hno
          go_wp2_with (fail)
          go_ret
          exact ⟨rfl, hk2⟩
      · have t2 : ((n2 : Int) != (nt : Int)) = true := by simp; omega
        clear h0 h1 h2 hno
        go_wp2_with (fail)
        go_ret
        exact ⟨rfl, hk2⟩
    · have t1 : ((n1 : Int) != nc) = true := by simpa using h1
      clear h0 h1 hno
      go_wp2_with (fail)
      go_ret
      exact ⟨rfl, hk2⟩
  · have t0 : ((n0 : Int) != nv) = true := by simpa using h0
    clear h0 hno
    go_wp2_with (fail)
    go_ret
    exact ⟨rfl, hk2⟩
set_option maxHeartbeats 8000000 in
set_option maxRecDepth 100000 in
theorem validFracs_no (ts : List Tile) (W : Wt) (hyes : tilesValid ts = true) (hlen : lensB ts W = true) (hno : fracsB W = false) (a : Option Addr) (cap : Nat) (a0 a1 a2 a3 a4 : Option Addr) (c0 c1 c2 c3 c4 : Nat) (w : World) (hx : SlA w 4 encT a ts) (hW : WIs w a0 a1 a2 a3 a4 W) :
    Calls Tryd.prog 31 #[.slice a ts.length cap, .agg #[.slice a0 W.values.length c0, .slice a1 W.carries.length c1, .slice a2 W.factors.length c2, .slice a3 W.primes.length c3, .slice a4 W.logs.length c4]] w
      fun e w' => e = .returned (.bool false) ∧ Kept w w' := by
  have t0 : ((W.values.length : Int) != needVTo ts) = false := by simp [lensB] at hlen; rw [bne_eq_false_iff_eq]; omega
  have t1 : ((W.carries.length : Int) != needCTo ts) = false := by simp [lensB] at hlen; rw [bne_eq_false_iff_eq]; omega
  have t2 : ((W.factors.length : Int) != (ts.length : Int)) = false := by simp [lensB] at hlen; rw [bne_eq_false_iff_eq]; omega
  have t3 : W.primes.length ≤ 12 := by simp [lensB] at hlen; omega
  have t4 : ((W.logs.length : Int) != (W.primes.length : Int)) = false := by simp [lensB] at hlen; rw [bne_eq_false_iff_eq]; omega
  have HL := Lib.hid hlen
  clear hlen
  have hk0 : ∀ o, Kept w (w.alloc o) := fun o => (Kept.refl w).alloc (Nat.le_refl _) o
  have hall := Lib.hid (tv_all hyes).1
  have l0 := hW.s0.len
  have l1 := hW.s1.len
  have l2 := hW.s2.len
  have l3 := hW.s3.len
  have l4 := hW.s4.len
  have lt := hx.len
  go_enter Tryd.func31, Tryd.ntmps31
  go_upto_region 4 with (first
    | (go_at_call 22; refine (valid_b ts true hyes a cap _ (hx.kept (hk0 _))).mono ?_; rintro e w' ⟨rfl, hb'⟩; obtain ⟨hcc, hff⟩ := hb'.cells)
    | (go_at_call 56; go_must (refine (needed ts hall.out a cap _ (hx.kept ((hk0 _).trans (by assumption)))).mono ?_); rintro e w'' ⟨rfl, hb''⟩; obtain ⟨hcc2, hff2⟩ := hb''.cells))
  have hk2 : Kept w w'' := (hk0 _).trans (hb'.trans hb'')
  have hw2 := hW.kept hk2
  have q0 : w''.cell? ⟨w.heap.size, 0, none⟩ = some (.slice a0 W.values.length c0) := by rw [hcc2 _ _ (Nat.lt_of_lt_of_le (by simp) hb'.size), hcc _ _ (by simp)]; simp
  have q1 : w''.cell? ⟨w.heap.size, 1, none⟩ = some (.slice a1 W.carries.length c1) := by rw [hcc2 _ _ (Nat.lt_of_lt_of_le (by simp) hb'.size), hcc _ _ (by simp)]; simp
  have q2 : w''.cell? ⟨w.heap.size, 2, none⟩ = some (.slice a2 W.factors.length c2) := by rw [hcc2 _ _ (Nat.lt_of_lt_of_le (by simp) hb'.size), hcc _ _ (by simp)]; simp
  have q3 : w''.cell? ⟨w.heap.size, 3, none⟩ = some (.slice a3 W.primes.length c3) := by rw [hcc2 _ _ (Nat.lt_of_lt_of_le (by simp) hb'.size), hcc _ _ (by simp)]; simp
  have q4 : w''.cell? ⟨w.heap.size, 4, none⟩ = some (.slice a4 W.logs.length c4) := by rw [hcc2 _ _ (Nat.lt_of_lt_of_le (by simp) hb'.size), hcc _ _ (by simp)]; simp
  have hBlt : w.heap.size < w''.heap.size := Nat.lt_of_lt_of_le (by simp) (Nat.le_trans hb'.size hb''.size)
  clear hcc hff hcc2 hff2 hb' hb''
  generalize w.heap.size = B at *
  unfold fracsB at hno
  cases g0 : W.values.all fracOk with
  | false =>
    clear hno
    go_wp2_with (fail)
    refine (allFrac W.values _ g0 _ _ _ hw2.s0).mono ?_
    rintro e v0 ⟨rfl, k0⟩
    have q0 := (k0.cell (p := ⟨B, 0, none⟩) hBlt).trans q0
    have q1 := (k0.cell (p := ⟨B, 1, none⟩) hBlt).trans q1
    have q2 := (k0.cell (p := ⟨B, 2, none⟩) hBlt).trans q2
    have q3 := (k0.cell (p := ⟨B, 3, none⟩) hBlt).trans q3
    have q4 := (k0.cell (p := ⟨B, 4, none⟩) hBlt).trans q4
    have hw2 := hw2.kept k0
    have hk2 := hk2.trans k0
    have hBlt := Nat.lt_of_lt_of_le hBlt k0.size
    go_wp2_with (fail)
    go_ret
    exact ⟨rfl, hk2⟩
  | true =>
    cases g1 : W.carries.all fracOk with
    | false =>
      clear hno
      go_wp2_with (fail)
      refine (allFrac W.values _ g0 _ _ _ hw2.s0).mono ?_
      rintro e v0 ⟨rfl, k0⟩
      have q0 := (k0.cell (p := ⟨B, 0, none⟩) hBlt).trans q0
      have q1 := (k0.cell (p := ⟨B, 1, none⟩) hBlt).trans q1
      have q2 := (k0.cell (p := ⟨B, 2, none⟩) hBlt).trans q2
      have q3 := (k0.cell (p := ⟨B, 3, none⟩) hBlt).trans q3
      have q4 := (k0.cell (p := ⟨B, 4, none⟩) hBlt).trans q4
      have hw2 := hw2.kept k0
      have hk2 := hk2.trans k0
      have hBlt := Nat.lt_of_lt_of_le hBlt k0.size
      go_wp2_with (fail)
      refine (allFrac W.carries _ g1 _ _ _ hw2.s1).mono ?_
      rintro e v1 ⟨rfl, k1⟩
      have q0 := (k1.cell (p := ⟨B, 0, none⟩) hBlt).trans q0
      have q1 := (k1.cell (p := ⟨B, 1, none⟩) hBlt).trans q1
      have q2 := (k1.cell (p := ⟨B, 2, none⟩) hBlt).trans q2
      have q3 := (k1.cell (p := ⟨B, 3, none⟩) hBlt).trans q3
      have q4 := (k1.cell (p := ⟨B, 4, none⟩) hBlt).trans q4
      have hw2 := hw2.kept k1
      have hk2 := hk2.trans k1
      have hBlt := Nat.lt_of_lt_of_le hBlt k1.size
      go_wp2_with (fail)
      go_ret
      exact ⟨rfl, hk2⟩
    | true =>
      cases g2 : W.factors.all fracOk with
      | false =>
        clear hno
        go_wp2_with (fail)
        refine (allFrac W.values _ g0 _ _ _ hw2.s0).mono ?_
        rintro e v0 ⟨rfl, k0⟩
        have q0 := (k0.cell (p := ⟨B, 0, none⟩) hBlt).trans q0
        have q1 := (k0.cell (p := ⟨B, 1, none⟩) hBlt).trans q1
        have q2 := (k0.cell (p := ⟨B, 2, none⟩) hBlt).trans q2
        have q3 := (k0.cell (p := ⟨B, 3, none⟩) hBlt).trans q3
        have q4 := (k0.cell (p := ⟨B, 4, none⟩) hBlt).trans q4
        have hw2 := hw2.kept k0
        have hk2 := hk2.trans k0
        have hBlt := Nat.lt_of_lt_of_le hBlt k0.size
        go_wp2_with (fail)
        refine (allFrac W.carries _ g1 _ _ _ hw2.s1).mono ?_
        rintro e v1 ⟨rfl, k1⟩
        have q0 := (k1.cell (p := ⟨B, 0, none⟩) hBlt).trans q0
        have q1 := (k1.cell (p := ⟨B, 1, none⟩) hBlt).trans q1
        have q2 := (k1.cell (p := ⟨B, 2, none⟩) hBlt).trans q2
        have q3 := (k1.cell (p := ⟨B, 3, none⟩) hBlt).trans q3
        have q4 := (k1.cell (p := ⟨B, 4, none⟩) hBlt).trans q4
        have hw2 := hw2.kept k1
        have hk2 := hk2.trans k1
        have hBlt := Nat.lt_of_lt_of_le hBlt k1.size
        go_wp2_with (fail)
        refine (allFrac W.factors _ g2 _ _ _ hw2.s2).mono ?_
        rintro e v2 ⟨rfl, k2⟩
        have q0 := (k2.cell (p := ⟨B, 0, none⟩) hBlt).trans q0
        have q1 := (k2.cell (p := ⟨B, 1, none⟩) hBlt).trans q1
        have q2 := (k2.cell (p := ⟨B, 2, none⟩) hBlt).trans q2
        have q3 := (k2.cell (p := ⟨B, 3, none⟩) hBlt).trans q3
        have q4 := (k2.cell (p := ⟨B, 4, none⟩) hBlt).trans q4
        have hw2 := hw2.kept k2
        have hk2 := hk2.trans k2
        have hBlt := Nat.lt_of_lt_of_le hBlt k2.size
        go_wp2_with (fail)
        go_ret
        exact ⟨rfl, hk2⟩
      | true =>
        cases g3 : W.values.all (fun f => decide (0 ≤ f.num)) with
        | false =>
          clear hno
          go_wp2_with (fail)
          refine (allFrac W.values _ g0 _ _ _ hw2.s0).mono ?_
          rintro e v0 ⟨rfl, k0⟩
          have q0 := (k0.cell (p := ⟨B, 0, none⟩) hBlt).trans q0
          have q1 := (k0.cell (p := ⟨B, 1, none⟩) hBlt).trans q1
          have q2 := (k0.cell (p := ⟨B, 2, none⟩) hBlt).trans q2
          have q3 := (k0.cell (p := ⟨B, 3, none⟩) hBlt).trans q3
          have q4 := (k0.cell (p := ⟨B, 4, none⟩) hBlt).trans q4
          have hw2 := hw2.kept k0
          have hk2 := hk2.trans k0
          have hBlt := Nat.lt_of_lt_of_le hBlt k0.size
          go_wp2_with (fail)
          refine (allFrac W.carries _ g1 _ _ _ hw2.s1).mono ?_
          rintro e v1 ⟨rfl, k1⟩
          have q0 := (k1.cell (p := ⟨B, 0, none⟩) hBlt).trans q0
          have q1 := (k1.cell (p := ⟨B, 1, none⟩) hBlt).trans q1
          have q2 := (k1.cell (p := ⟨B, 2, none⟩) hBlt).trans q2
          have q3 := (k1.cell (p := ⟨B, 3, none⟩) hBlt).trans q3
          have q4 := (k1.cell (p := ⟨B, 4, none⟩) hBlt).trans q4
          have hw2 := hw2.kept k1
          have hk2 := hk2.trans k1
          have hBlt := Nat.lt_of_lt_of_le hBlt k1.size
          go_wp2_with (fail)
          refine (allFrac W.factors _ g2 _ _ _ hw2.s2).mono ?_
          rintro e v2 ⟨rfl, k2⟩
          have q0 := (k2.cell (p := ⟨B, 0, none⟩) hBlt).trans q0
          have q1 := (k2.cell (p := ⟨B, 1, none⟩) hBlt).trans q1
          have q2 := (k2.cell (p := ⟨B, 2, none⟩) hBlt).trans q2
          have q3 := (k2.cell (p := ⟨B, 3, none⟩) hBlt).trans q3
          have q4 := (k2.cell (p := ⟨B, 4, none⟩) hBlt).trans q4
          have hw2 := hw2.kept k2
          have hk2 := hk2.trans k2
          have hBlt := Nat.lt_of_lt_of_le hBlt k2.size
          go_wp2_with (fail)
          refine (allNonneg W.values _ g3 _ _ _ hw2.s0).mono ?_
          rintro e v3 ⟨rfl, k3⟩
          have q0 := (k3.cell (p := ⟨B, 0, none⟩) hBlt).trans q0
          have q1 := (k3.cell (p := ⟨B, 1, none⟩) hBlt).trans q1
          have q2 := (k3.cell (p := ⟨B, 2, none⟩) hBlt).trans q2
          have q3 := (k3.cell (p := ⟨B, 3, none⟩) hBlt).trans q3
          have q4 := (k3.cell (p := ⟨B, 4, none⟩) hBlt).trans q4
          have hw2 := hw2.kept k3
          have hk2 := hk2.trans k3
          have hBlt := Nat.lt_of_lt_of_le hBlt k3.size
          go_wp2_with (fail)
          go_ret
          exact ⟨rfl, hk2⟩
        | true =>
          cases g4 : W.factors.all (fun f => decide (0 < f.num)) with
          | false =>
            clear hno
            go_wp2_with (fail)
            refine (allFrac W.values _ g0 _ _ _ hw2.s0).mono ?_
            rintro e v0 ⟨rfl, k0⟩
            have q0 := (k0.cell (p := ⟨B, 0, none⟩) hBlt).trans q0
            have q1 := (k0.cell (p := ⟨B, 1, none⟩) hBlt).trans q1
            have q2 := (k0.cell (p := ⟨B, 2, none⟩) hBlt).trans q2
            have q3 := (k0.cell (p := ⟨B, 3, none⟩) hBlt).trans q3
            have q4 := (k0.cell (p := ⟨B, 4, none⟩) hBlt).trans q4
            have hw2 := hw2.kept k0
            have hk2 := hk2.trans k0
            have hBlt := Nat.lt_of_lt_of_le hBlt k0.size
            go_wp2_with (fail)
            refine (allFrac W.carries _ g1 _ _ _ hw2.s1).mono ?_
            rintro e v1 ⟨rfl, k1⟩
            have q0 := (k1.cell (p := ⟨B, 0, none⟩) hBlt).trans q0
            have q1 := (k1.cell (p := ⟨B, 1, none⟩) hBlt).trans q1
            have q2 := (k1.cell (p := ⟨B, 2, none⟩) hBlt).trans q2
            have q3 := (k1.cell (p := ⟨B, 3, none⟩) hBlt).trans q3
            have q4 := (k1.cell (p := ⟨B, 4, none⟩) hBlt).trans q4
            have hw2 := hw2.kept k1
            have hk2 := hk2.trans k1
            have hBlt := Nat.lt_of_lt_of_le hBlt k1.size
            go_wp2_with (fail)
            refine (allFrac W.factors _ g2 _ _ _ hw2.s2).mono ?_
            rintro e v2 ⟨rfl, k2⟩
            have q0 := (k2.cell (p := ⟨B, 0, none⟩) hBlt).trans q0
            have q1 := (k2.cell (p := ⟨B, 1, none⟩) hBlt).trans q1
            have q2 := (k2.cell (p := ⟨B, 2, none⟩) hBlt).trans q2
            have q3 := (k2.cell (p := ⟨B, 3, none⟩) hBlt).trans q3
            have q4 := (k2.cell (p := ⟨B, 4, none⟩) hBlt).trans q4
            have hw2 := hw2.kept k2
            have hk2 := hk2.trans k2
            have hBlt := Nat.lt_of_lt_of_le hBlt k2.size
            go_wp2_with (fail)
            refine (allNonneg W.values _ g3 _ _ _ hw2.s0).mono ?_
            rintro e v3 ⟨rfl, k3⟩
            have q0 := (k3.cell (p := ⟨B, 0, none⟩) hBlt).trans q0
            have q1 := (k3.cell (p := ⟨B, 1, none⟩) hBlt).trans q1
            have q2 := (k3.cell (p := ⟨B, 2, none⟩) hBlt).trans q2
            have q3 := (k3.cell (p := ⟨B, 3, none⟩) hBlt).trans q3
            have q4 := (k3.cell (p := ⟨B, 4, none⟩) hBlt).trans q4
            have hw2 := hw2.kept k3
            have hk2 := hk2.trans k3
            have hBlt := Nat.lt_of_lt_of_le hBlt k3.size
            go_wp2_with (fail)
            refine (allPos W.factors _ g4 _ _ _ hw2.s2).mono ?_
            rintro e v4 ⟨rfl, k4⟩
            have q0 := (k4.cell (p := ⟨B, 0, none⟩) hBlt).trans q0
            have q1 := (k4.cell (p := ⟨B, 1, none⟩) hBlt).trans q1
            have q2 := (k4.cell (p := ⟨B, 2, none⟩) hBlt).trans q2
            have q3 := (k4.cell (p := ⟨B, 3, none⟩) hBlt).trans q3
            have q4 := (k4.cell (p := ⟨B, 4, none⟩) hBlt).trans q4
            have hw2 := hw2.kept k4
            have hk2 := hk2.trans k4
            have hBlt := Nat.lt_of_lt_of_le hBlt k4.size
            go_wp2_with (fail)
            go_ret
            exact ⟨rfl, hk2⟩
          | true =>
            rw [g0, g1, g2, g3, g4] at hno
            cases hno

theorem SlA.take {w : World} {k : Nat} {α : Type} {enc : α → List Value} {a : Option Addr} {xs : List α} (h : SlA w k enc a xs) (n : Nat) : SlA w k enc a (xs.take n) := by
  refine ⟨Nat.le_trans (by simp; omega) h.len, ?_⟩
  rcases h.lies with h | ⟨b, off, ha, hb, hc⟩
  · exact .inl (by simp [h])
  · refine .inr ⟨b, off, ha, hb, fun j hj i v hv => ?_⟩
    rw [List.getElem_take] at hv
    exact hc j (by simp at hj; omega) i v hv
theorem containsN (x : Int) (xs : List Int) (n : Nat) (b : Bool) (hn : n = xs.length) (hb : xs.any (fun y => decide (y = x)) = b) (a : Option Addr) (cap : Nat) (w : World) (hx : SlA w 1 encI a xs) :
    Calls Tryd.prog 61 #[.slice a n cap, .int .i64 x] w fun e w' => e = .returned (.bool b) ∧ w = w' := by
  subst hn hb; exact containsInt x xs a cap w hx
theorem primeN (n : Int) (b : Bool) (hb : primeB n = b) (hn : n ≤ 1000000) (w : World) : Calls Tryd.prog 60 #[.int .i64 n] w fun e w' => e = .returned (.bool b) ∧ w = w' := by
  subst hb; exact prime n hn w
theorem any_mem {xs : List Int} {x : Int} : xs.any (fun y => decide (y = x)) = true ↔ x ∈ xs := by simp
theorem any_not {xs : List Int} {x : Int} : xs.any (fun y => decide (y = x)) = false ↔ x ∉ xs := by
  rw [Bool.eq_false_iff, ne_eq, any_mem]

set_option maxHeartbeats 8000000 in
set_option maxRecDepth 100000 in
theorem validPrimes (ts : List Tile) (W : Wt) (hyes : tilesValid ts = true) (hlen : lensB ts W = true) (hf : fracsB W = true) (a : Option Addr) (cap : Nat) (a0 a1 a2 a3 a4 : Option Addr) (c0 c1 c2 c3 c4 : Nat) (hc3 : W.primes.length ≤ c3) (w : World) (hx : SlA w 4 encT a ts) (hW : WIs w a0 a1 a2 a3 a4 W) :
    Calls Tryd.prog 31 #[.slice a ts.length cap, .agg #[.slice a0 W.values.length c0, .slice a1 W.carries.length c1, .slice a2 W.factors.length c2, .slice a3 W.primes.length c3, .slice a4 W.logs.length c4]] w
      fun e w' => e = .returned (.bool (primesB W)) ∧ Kept w w' := by
  have t0 : ((W.values.length : Int) != needVTo ts) = false := by simp [lensB] at hlen; rw [bne_eq_false_iff_eq]; omega
  have t1 : ((W.carries.length : Int) != needCTo ts) = false := by simp [lensB] at hlen; rw [bne_eq_false_iff_eq]; omega
  have t2 : ((W.factors.length : Int) != (ts.length : Int)) = false := by simp [lensB] at hlen; rw [bne_eq_false_iff_eq]; omega
  have t3 : W.primes.length ≤ 12 := by simp [lensB] at hlen; omega
  have t4 : ((W.logs.length : Int) != (W.primes.length : Int)) = false := by simp [lensB] at hlen; rw [bne_eq_false_iff_eq]; omega
  have HL := Lib.hid hlen
  clear hlen
  simp only [fracsB, Bool.and_eq_true] at hf
  obtain ⟨⟨⟨⟨g0, g1⟩, g2⟩, g3⟩, g4⟩ := hf
  have hk0 : ∀ o, Kept w (w.alloc o) := fun o => (Kept.refl w).alloc (Nat.le_refl _) o
  have hall := Lib.hid (tv_all hyes).1
  have l0 := hW.s0.len
  have l1 := hW.s1.len
  have l2 := hW.s2.len
  have l3 := hW.s3.len
  have l4 := hW.s4.len
  have lt := hx.len
  go_enter Tryd.func31, Tryd.ntmps31
  go_upto_region 4 with (first
    | (go_at_call 22; refine (valid_b ts true hyes a cap _ (hx.kept (hk0 _))).mono ?_; rintro e w' ⟨rfl, hb'⟩; obtain ⟨hcc, hff⟩ := hb'.cells)
    | (go_at_call 56; go_must (refine (needed ts hall.out a cap _ (hx.kept ((hk0 _).trans (by assumption)))).mono ?_); rintro e w'' ⟨rfl, hb''⟩; obtain ⟨hcc2, hff2⟩ := hb''.cells))
  have hk2 : Kept w w'' := (hk0 _).trans (hb'.trans hb'')
  have hw2 := hW.kept hk2
  have q0 : w''.cell? ⟨w.heap.size, 0, none⟩ = some (.slice a0 W.values.length c0) := by rw [hcc2 _ _ (Nat.lt_of_lt_of_le (by simp) hb'.size), hcc _ _ (by simp)]; simp
  have q1 : w''.cell? ⟨w.heap.size, 1, none⟩ = some (.slice a1 W.carries.length c1) := by rw [hcc2 _ _ (Nat.lt_of_lt_of_le (by simp) hb'.size), hcc _ _ (by simp)]; simp
  have q2 : w''.cell? ⟨w.heap.size, 2, none⟩ = some (.slice a2 W.factors.length c2) := by rw [hcc2 _ _ (Nat.lt_of_lt_of_le (by simp) hb'.size), hcc _ _ (by simp)]; simp
  have q3 : w''.cell? ⟨w.heap.size, 3, none⟩ = some (.slice a3 W.primes.length c3) := by rw [hcc2 _ _ (Nat.lt_of_lt_of_le (by simp) hb'.size), hcc _ _ (by simp)]; simp
  have q4 : w''.cell? ⟨w.heap.size, 4, none⟩ = some (.slice a4 W.logs.length c4) := by rw [hcc2 _ _ (Nat.lt_of_lt_of_le (by simp) hb'.size), hcc _ _ (by simp)]; simp
  have hBlt : w.heap.size < w''.heap.size := Nat.lt_of_lt_of_le (by simp) (Nat.le_trans hb'.size hb''.size)
  clear hcc hff hcc2 hff2 hb' hb''
  generalize w.heap.size = B at *
  go_wp2_with (fail)
  refine (allFrac W.values _ g0 _ _ _ hw2.s0).mono ?_
  rintro e v0 ⟨rfl, k0⟩
  have q0 := (k0.cell (p := ⟨B, 0, none⟩) hBlt).trans q0
  have q1 := (k0.cell (p := ⟨B, 1, none⟩) hBlt).trans q1
  have q2 := (k0.cell (p := ⟨B, 2, none⟩) hBlt).trans q2
  have q3 := (k0.cell (p := ⟨B, 3, none⟩) hBlt).trans q3
  have q4 := (k0.cell (p := ⟨B, 4, none⟩) hBlt).trans q4
  have hw2 := hw2.kept k0
  have hk2 := hk2.trans k0
  have hBlt := Nat.lt_of_lt_of_le hBlt k0.size
  go_wp2_with (fail)
  refine (allFrac W.carries _ g1 _ _ _ hw2.s1).mono ?_
  rintro e v1 ⟨rfl, k1⟩
  have q0 := (k1.cell (p := ⟨B, 0, none⟩) hBlt).trans q0
  have q1 := (k1.cell (p := ⟨B, 1, none⟩) hBlt).trans q1
  have q2 := (k1.cell (p := ⟨B, 2, none⟩) hBlt).trans q2
  have q3 := (k1.cell (p := ⟨B, 3, none⟩) hBlt).trans q3
  have q4 := (k1.cell (p := ⟨B, 4, none⟩) hBlt).trans q4
  have hw2 := hw2.kept k1
  have hk2 := hk2.trans k1
  have hBlt := Nat.lt_of_lt_of_le hBlt k1.size
  go_wp2_with (fail)
  refine (allFrac W.factors _ g2 _ _ _ hw2.s2).mono ?_
  rintro e v2 ⟨rfl, k2⟩
  have q0 := (k2.cell (p := ⟨B, 0, none⟩) hBlt).trans q0
  have q1 := (k2.cell (p := ⟨B, 1, none⟩) hBlt).trans q1
  have q2 := (k2.cell (p := ⟨B, 2, none⟩) hBlt).trans q2
  have q3 := (k2.cell (p := ⟨B, 3, none⟩) hBlt).trans q3
  have q4 := (k2.cell (p := ⟨B, 4, none⟩) hBlt).trans q4
  have hw2 := hw2.kept k2
  have hk2 := hk2.trans k2
  have hBlt := Nat.lt_of_lt_of_le hBlt k2.size
  go_wp2_with (fail)
  refine (allNonneg W.values _ g3 _ _ _ hw2.s0).mono ?_
  rintro e v3 ⟨rfl, k3⟩
  have q0 := (k3.cell (p := ⟨B, 0, none⟩) hBlt).trans q0
  have q1 := (k3.cell (p := ⟨B, 1, none⟩) hBlt).trans q1
  have q2 := (k3.cell (p := ⟨B, 2, none⟩) hBlt).trans q2
  have q3 := (k3.cell (p := ⟨B, 3, none⟩) hBlt).trans q3
  have q4 := (k3.cell (p := ⟨B, 4, none⟩) hBlt).trans q4
  have hw2 := hw2.kept k3
  have hk2 := hk2.trans k3
  have hBlt := Nat.lt_of_lt_of_le hBlt k3.size
  go_wp2_with (fail)
  refine (allPos W.factors _ g4 _ _ _ hw2.s2).mono ?_
  rintro e v4 ⟨rfl, k4⟩
  have q0 := (k4.cell (p := ⟨B, 0, none⟩) hBlt).trans q0
  have q1 := (k4.cell (p := ⟨B, 1, none⟩) hBlt).trans q1
  have q2 := (k4.cell (p := ⟨B, 2, none⟩) hBlt).trans q2
  have q3 := (k4.cell (p := ⟨B, 3, none⟩) hBlt).trans q3
  have q4 := (k4.cell (p := ⟨B, 4, none⟩) hBlt).trans q4
  have hw2 := hw2.kept k4
  have hk2 := hk2.trans k4
  have hBlt := Nat.lt_of_lt_of_le hBlt k4.size
  go_wp2_with (fail)
  have hll := Lib.hid (show W.logs.length = W.primes.length by have := HL.out; simp [lensB] at this; omega)
  clear t0 t1 t2 t4 g0 g1 g2 g3 g4 hW
  go_loopg [7, 8, 81] W.primes.length (fun gg _ _ s81 wr => ∃ kk : Nat, kk ≤ W.primes.length ∧ W.primes.length - kk ≤ gg ∧ s81 = .int .i64 kk ∧ Aside (v4 = wr) ∧ Aside (PrimesTo W kk))
  case atStart => exact ⟨0, Nat.zero_le _, by omega, rfl, (rfl : v4 = v4), fun i _ h => absurd h (Nat.not_lt_zero _)⟩
  case round =>
    obtain ⟨kk, hkk, hg, rfl, rfl, A⟩ := hrel
    by_cases hlt : kk < W.primes.length
    · obtain ⟨b, off, rfl, hb, r0⟩ := hw2.s3.int hlt
      have hltl : kk < W.logs.length := by rw [hll.out]; exact hlt
      obtain ⟨b', off', rfl, hb', r1⟩ := hw2.s4.int hltl
      have HG := Lib.hid (show W.logs[kk]?.getD 0 = W.logs[kk] by simp [hltl])
      have HS := Lib.hid (hw2.s3.take kk)
      have HTL := Lib.hid (show kk = (W.primes.take kk).length by simp; omega)
      have HP := Lib.hid (rfl : W.primes[kk] = W.primes[kk])
      generalize hpp : W.primes[kk] = pp at r0
      generalize hlg : W.logs[kk] = lg at r1 HG
      have HPP := Lib.hid hpp
      clear hpp hlg HP
      have hcap : (kk : Int) ≤ (c3 : Int) := by omega
      by_cases p0 : pp < 2
      · have HF := Lib.hid (primesB_false kk hlt (by rw [HPP.out]; omega))
        go_wp2_with (fail)
        go_ret
        refine ⟨?_, hk2⟩
        rw [HF.out]
        rfl
      · by_cases p1 : 1000000 < pp
        · have HF := Lib.hid (primesB_false kk hlt (by rw [HPP.out]; omega))
          go_wp2_with (fail)
          go_ret
          refine ⟨?_, hk2⟩
          rw [HF.out]
          rfl
        · cases p2 : primeB pp with
          | false =>
            have HF := Lib.hid (primesB_false kk hlt (by rw [HPP.out]; exact fun h => primeB_false.1 p2 h.2.2.1))
            go_wp2_with (go_at_call 60; refine (primeN pp false p2 (by omega) _).mono ?_; rintro e w' ⟨rfl, rfl⟩)
            go_ret
            refine ⟨?_, hk2⟩
            rw [HF.out]
            rfl
          | true =>
            cases p3 : (W.primes.take kk).any (fun y => decide (y = pp)) with
            | true =>
              have HF := Lib.hid (primesB_false kk hlt (by rw [HPP.out]; exact fun h => h.2.2.2.1 (any_mem.1 p3)))
              have P3 := Lib.hid p3
              clear p3
              go_wp2_with (first
                | (go_at_call 60; refine (primeN pp true p2 (by omega) _).mono ?_; rintro e w' ⟨rfl, rfl⟩)
                | (go_at_call 61; go_must (refine (containsN pp (W.primes.take kk) kk true HTL.out P3.out _ _ _ HS.out).mono ?_); rintro e w' ⟨rfl, rfl⟩))
              go_ret
              refine ⟨?_, hk2⟩
              rw [HF.out]
              rfl
            | false =>
              have P3 := Lib.hid p3
              clear p3
              by_cases p4 : lg < -1000
              · have HF := Lib.hid (primesB_false kk hlt (by rw [HG.out]; omega))
                go_wp2_with (first
                  | (go_at_call 60; refine (primeN pp true p2 (by omega) _).mono ?_; rintro e w' ⟨rfl, rfl⟩)
                  | (go_at_call 61; go_must (refine (containsN pp (W.primes.take kk) kk false HTL.out P3.out _ _ _ HS.out).mono ?_); rintro e w' ⟨rfl, rfl⟩))
                go_ret
                refine ⟨?_, hk2⟩
                rw [HF.out]
                rfl
              · by_cases p5 : 1000 < lg
                · have HF := Lib.hid (primesB_false kk hlt (by rw [HG.out]; omega))
                  go_wp2_with (first
                    | (go_at_call 60; refine (primeN pp true p2 (by omega) _).mono ?_; rintro e w' ⟨rfl, rfl⟩)
                    | (go_at_call 61; go_must (refine (containsN pp (W.primes.take kk) kk false HTL.out P3.out _ _ _ HS.out).mono ?_); rintro e w' ⟨rfl, rfl⟩))
                  go_ret
                  refine ⟨?_, hk2⟩
                  rw [HF.out]
                  rfl
                · have HF := Lib.hid (primesTo_next hlt A.out (by rw [HPP.out, HG.out]; exact ⟨by omega, by omega, primeB_true.1 p2, any_not.1 P3.out, by omega, by omega⟩))
                  go_wp2_with (first
                    | (go_at_call 60; refine (primeN pp true p2 (by omega) _).mono ?_; rintro e w' ⟨rfl, rfl⟩)
                    | (go_at_call 61; go_must (refine (containsN pp (W.primes.take kk) kk false HTL.out P3.out _ _ _ HS.out).mono ?_); rintro e w' ⟨rfl, rfl⟩))
                  go_roundg (W.primes.length - (kk + 1))
                  case measure => omega
                  case rel => exact ⟨kk + 1, by omega, by omega, by go_num, rfl, HF.out⟩
    · obtain rfl : kk = W.primes.length := by omega
      have HF := Lib.hid (primesB_true.2 A.out)
      go_wp2_with (fail)
      go_ret
      refine ⟨?_, hk2⟩
      rw [HF.out]
      rfl

/-- weight.Valid -/
theorem validWCalls (ts : List Tile) (W : Wt) (a : Option Addr) (cap : Nat) (a0 a1 a2 a3 a4 : Option Addr) (c0 c1 c2 c3 c4 : Nat) (hc3 : W.primes.length ≤ c3) (w : World) (hx : SlA w 4 encT a ts) (hW : WIs w a0 a1 a2 a3 a4 W) :
    Calls Tryd.prog 31 #[.slice a ts.length cap, .agg #[.slice a0 W.values.length c0, .slice a1 W.carries.length c1, .slice a2 W.factors.length c2, .slice a3 W.primes.length c3, .slice a4 W.logs.length c4]] w
      fun e w' => e = .returned (.bool (validW ts W)) ∧ Kept w w' := by
  cases h0 : tilesValid ts with
  | false => simp only [validW, h0, Bool.false_and]; exact validTiles_no ts W h0 a cap a0 a1 a2 a3 a4 c0 c1 c2 c3 c4 w hx
  | true =>
    cases h1 : lensB ts W with
    | false => simp only [validW, h0, h1, Bool.false_and, Bool.and_false]; exact validLens_no ts W h0 h1 a cap a0 a1 a2 a3 a4 c0 c1 c2 c3 c4 w hx hW
    | true =>
      cases h2 : fracsB W with
      | false => simp only [validW, h0, h1, h2, Bool.false_and, Bool.and_false]; exact validFracs_no ts W h0 h1 h2 a cap a0 a1 a2 a3 a4 c0 c1 c2 c3 c4 w hx hW
      | true => simp only [validW, h0, h1, h2, Bool.true_and]; exact validPrimes ts W h0 h1 h2 a cap a0 a1 a2 a3 a4 c0 c1 c2 c3 c4 hc3 w hx hW
end Go.Proofs.YtlcbgcieedbggaaDoor
