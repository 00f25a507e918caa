/- Texts of this claim, one behind the other: Wk, Wl, Wm. -/
import Derived.Test.YtlcbgcieedbggaaDoorMn10
import Derived.Test.YtlcbgcieedbggaaDoorMn7
import Derived.Test.YtlcbgcieedbggaaDoorMn3
import Derived.Test.YtlcbgcieedbggaaDoorMn9
set_option linter.unusedVariables false
set_option linter.unusedSimpArgs false
namespace Go.Proofs.YtlcbgcieedbggaaDoor
open Go Go.RowKit

def zeroS (W : Wt) (t : Tile) : Bool := decide ((fr W.values t.S.toNat).num = 0)
def zers (W : Wt) (ts : List Tile) (k : Nat) : List Tile := (ts.take k).filter (zeroS W)
theorem zers_yes {W : Wt} {ts : List Tile} {k : Nat} {t : Tile} (hk : k < ts.length) (ht : ts[k] = t) (hz : zeroS W t = true) : zers W ts (k + 1) = zers W ts k ++ [t] := by
  unfold zers; rw [List.take_succ_eq_append_getElem hk, List.filter_append, ht]; simp [hz]
theorem zers_no {W : Wt} {ts : List Tile} {k : Nat} {t : Tile} (hk : k < ts.length) (ht : ts[k] = t) (hz : zeroS W t = false) : zers W ts (k + 1) = zers W ts k := by
  unfold zers; rw [List.take_succ_eq_append_getElem hk, List.filter_append, ht]; simp [hz]
theorem zers_le (W : Wt) (ts : List Tile) (k : Nat) : (zers W ts k).length ≤ ts.length := Nat.le_trans (List.length_filter_le ..) (by simp; omega)
theorem encs_snoc (xs : List Tile) (t : Tile) : encs (xs ++ [t]) = encs xs ++ encT t := by simp [encs]
def cond3 (ts : List Tile) (W : Wt) : Bool := acyclicB (ts.filter (zeroS W))

/-- l owns the row of xs among the blocks from base on. -/
def OwnL (w : World) (base : Nat) (v : Value) (xs : List Tile) : Prop := w.ownsRow base 44 4 v xs.length (encs xs)
theorem OwnL.form {w : World} {base : Nat} {v : Value} {xs : List Tile} (h : OwnL w base v xs) : ∃ a c, v = .slice a xs.length c := by
  rcases h.2 with ⟨h1, h2⟩ | ⟨g, cap, cur, h1, _⟩
  · exact ⟨none, 0, by rw [h1, h2]⟩
  · exact ⟨_, _, h1⟩

theorem acyclic_b (ts : List Tile) (q : Bool) (hq : acyclicB ts = q) (n : Nat) (hn : n = ts.length) (a : Option Addr) (cap : Nat) (w : World) (hl : ts.length ≤ 1000000) (hx : SlA w 4 encT a ts) :
    Calls Tryd.prog 37 #[.slice a n cap] w fun e w' => e = .returned (.bool q) ∧ Kept w w' := by
  subst hq; subst hn; exact acyclicCalls ts a cap w hl hx

set_option maxHeartbeats 4000000 in
set_option maxRecDepth 20000 in
theorem check3 (q : Bool) (ts : List Tile) (W : Wt) (hq : cond3 ts W = q) (hl : ts.length ≤ 1000000) (Bs Bw : Nat) (a : Option Addr) (cap : Nat) (a0 a1 a2 a3 a4 : Option Addr) (c0 c1 c2 c3 c4 : Nat) (w : World) (hC : Caps w Bs Bw ts W a cap a0 a1 a2 a3 a4 c0 c1 c2 c3 c4)
    (hin : ∀ t ∈ ts, TileIn t W) :
    Calls Tryd.prog 36 #[.pointer (some ⟨Bs, 0, none⟩), .pointer (some ⟨Bw, 0, none⟩)] w fun e w' => e = .returned (.bool q) ∧ Kept w w' := by
  have lt := hC.ts'.len
  have cs := hC.s
  have HQ := Lib.hid hq
  clear hq
  obtain ⟨i, hi, hz0, hz1, hz2⟩ := info_parts tileInfo
  go_enter Tryd.func36, Tryd.ntmps36
  go_wp2_with (fail)
  clear cs
  go_loopg [3, 5, 8] ts.length (fun gg s3 _ s8 wr => ∃ kk : Nat, kk ≤ ts.length ∧ ts.length - kk ≤ gg ∧ s8 = .int .i64 kk ∧ Aside (Kept w wr) ∧ Aside (OwnL wr w.heap.size s3 (zers W ts kk)))
  case atStart => exact ⟨0, Nat.zero_le _, by omega, rfl, Kept.refl w, World.ownsRow_nil _ _ _ _⟩
  case round =>
    obtain ⟨kk, hkk, hg, rfl, BW, HO⟩ := hrel
    by_cases hlt : kk < ts.length
    · have hCr := hC.kept BW.out
      have hTI := hin _ (List.getElem_mem hlt)
      obtain ⟨b, off, rfl, hb, p0, p1, p2, p3⟩ := hCr.ts'.tile hlt
      obtain ⟨b0, o0, rfl, hb0, v0, v1⟩ := hCr.W'.s0.fracAt hTI.s1
      obtain ⟨t, ht⟩ : ∃ t, ts[kk] = t := ⟨_, rfl⟩
      rw [ht] at p0 p1 p2 p3 v0 v1 hTI
      have HT := Lib.hid ht
      clear ht
      have q0 := hCr.w0
      have z1 := hTI.s0
      have z2 : t.S < (W.values.length : Int) := by have := hTI.s1; omega
      have y0 : Bw < wr.heap.size := hCr.lw
      have HZ := Lib.hid (show zeroS W t = decide ((fr W.values t.S.toNat).num = 0) from rfl)
      generalize fr W.values t.S.toNat = S at *
      have HK2 := Lib.hid ((Kept.refl wr).alloc (Nat.le_refl _) (.cells #[.int .i64 t.N, .int .i64 t.E, .int .i64 t.S, .int .i64 t.W] 44))
      by_cases hs : S.num = 0
      · have tz : (S.num == 0) = true := by simpa using hs
        have HZ2 := Lib.hid (show zeroS W t = true by rw [HZ.out]; simpa using hs)
        clear hs
        go_upto_region 6 with (fail)
        have HZ3 := Lib.hid (zers_yes hlt HT.out HZ2.out)
        have HO2 := Lib.hid (World.ownsRow.alloc (World.ownsRow.alloc HO.out (.cells #[.int .i64 t.N, .int .i64 t.E, .int .i64 t.S, .int .i64 t.W] 44)) (.cells #[.int .i64 t.N, .int .i64 t.E, .int .i64 t.S, .int .i64 t.W] 44))
        have hle := zers_le W ts kk
        have hszw := BW.out.size
        have HCE : Hid (∀ j u, (encT t)[j]? = some u → ((wr.alloc (.cells #[.int .i64 t.N, .int .i64 t.E, .int .i64 t.S, .int .i64 t.W] 44)).alloc (.cells #[.int .i64 t.N, .int .i64 t.E, .int .i64 t.S, .int .i64 t.W] 44)).cell? ((⟨wr.heap.size + 1, 0, none⟩ : Addr).add j) = some u) := by
          intro j u hu
          rw [Addr.add_lit, Nat.zero_add]
          match j, hu with
          | 0, hu => simp [encT] at hu; subst hu; simp
          | 1, hu => simp [encT] at hu; subst hu; simp
          | 2, hu => simp [encT] at hu; subst hu; simp
          | 3, hu => simp [encT] at hu; subst hu; simp
          | n + 4, hu => simp [encT] at hu
        have HE1 : Hid (∀ u ∈ encT t, u.oneCell' = true) := by
          intro u hu
          simp [encT] at hu
          rcases hu with rfl | rfl | rfl | rfl <;> rfl
        go_wp2_with (at_builtin; go_must (refine wpList_append_own _ rfl _ _ 22 rfl w.heap.size 44 i _ 4 32 Tryd.underlying22 hi hz0 hz1 hz2 rfl (by decide) _ (zers W ts kk).length (encs (zers W ts kk)) rfl HO2.out ⟨wr.heap.size + 1, 0, none⟩ 1 1 (encT t) rfl rfl HCE.out HE1.out (by simp only [maxLen]; omega) (by omega) (by simp; omega) ?_); intro v' w1 hown hgrow hnil)
        have HO3 := Lib.hid (show OwnL w1 w.heap.size v' (zers W ts (kk + 1)) by rw [HZ3.out]; unfold OwnL; rw [encs_snoc, List.length_append]; exact hown)
        have HK4 : Hid (Kept w w1) := (((BW.out.trans HK2.out).alloc (by simp; omega) (.cells #[.int .i64 t.N, .int .i64 t.E, .int .i64 t.S, .int .i64 t.W] 44))).grown hgrow (by simp; omega) (fun k hk => (HO2.out.lt k hk).1)
        clear hown hgrow hnil
        go_roundg (ts.length - (kk + 1))
        case measure => omega
        case rel => exact ⟨kk + 1, by omega, by omega, by go_num, HK4.out, HO3.out⟩
      · have tz : (S.num == 0) = false := by simpa using hs
        have HZ2 := Lib.hid (zers_no hlt HT.out (show zeroS W t = false by rw [HZ.out]; simpa using hs))
        clear hs
        go_wp2_with (fail)
        go_roundg (ts.length - (kk + 1))
        case measure => omega
        case rel => exact ⟨kk + 1, by omega, by omega, by go_num, BW.out.trans HK2.out, by rw [HZ2.out]; exact World.ownsRow.alloc HO.out _⟩
    · obtain rfl : kk = ts.length := by omega
      obtain ⟨la, lc, rfl⟩ := HO.out.form
      have HF := Lib.hid (show zers W ts ts.length = ts.filter (zeroS W) by simp [zers])
      have hle := zers_le W ts ts.length
      have HS := Lib.hid (sl_of_owns HO.out (by omega))
      clear HO
      rw [HF.out] at *
      go_wp2_with (go_at_call 37; refine (acyclic_b _ q HQ.out _ rfl la lc _ (by omega) HS.out).mono ?_; rintro e w' ⟨rfl, hb'⟩)
      go_ret
      exact ⟨rfl, BW.out.trans hb'⟩
end Go.Proofs.YtlcbgcieedbggaaDoor
namespace Go.Proofs.YtlcbgcieedbggaaDoor
open Go Go.RowKit

theorem wpList_lookupOk_is {P : Program} (w : World) {ops : Array Oper} {rest : List Oper} {o : Oper} {a : Act} {Q : Exit → Act → World → Prop}
    (hg : o.guard = none) (m x : Operand) (t : TypeId) (hop : o.op = Op.lookup t m x true)
    {κ β : Type} [DecidableEq κ] {enc : κ → Value} {encv : β → Value} {kvs : List (κ × β)} {r : Nat} (h : MapIs w r enc encv kvs) (kt et : TypeId) (K : KeyOK P kt enc) (ht : P.underlying t = some (.map kt et))
    (z : β) (hz : (zeroValue et).run P w = .ok (encv z) w) (k : κ) (v : β) (b : Bool) (hv : (aget k kvs).getD z = v) (hb : (aget k kvs).isSome = b) (hm : a.eval m = .map (some r)) (hx : a.eval x = enc k)
    (hK : wpList P ops Q rest (a.put o.dst (.tuple #[encv v, .bool b])) w) :
    wpList P ops Q (o :: rest) a w := by
  refine wpList_plain hg fun K' hK' => ?_
  have hrun := h.lookupOk K ht hz k
  rw [hv, hb] at hrun
  unfold Oper.wp
  simp [execOp, hop, hm, hx, hrun, Result.andThen]
  exact hK' _ _ hK

def encFr (f : Frac) : Value := .agg #[.int .i64 f.num, .int .i64 f.den]
/-- The factor of the last of the first k tiles whose W is c. -/
def lastF (W : Wt) (ts : List Tile) : Nat → Int → Option Frac
  | 0, _ => none
  | k + 1, c => if c = (ts[k]?.getD default).W then some (fr W.factors k) else lastF W ts k c
theorem lastF_ok {W : Wt} {ts : List Tile} (hfl : W.factors.length = ts.length) (hf : W.factors.all fracOk = true) : ∀ (k : Nat) (c : Int) (f : Frac), k ≤ ts.length → lastF W ts k c = some f → fracOk f = true := by
  intro k
  induction k with
  | zero => intro c f _ h; simp [lastF] at h
  | succ k ih =>
    intro c f hk h
    simp only [lastF] at h
    split at h
    · obtain rfl := Option.some.inj h
      exact fr_ok (by omega) hf
    · exact ih c f (by omega) h
def hasE (ts : List Tile) (c : Int) : Bool := ts.any fun u => decide (u.E = c)
def BehIs (w : World) (r : Nat) (W : Wt) (ts : List Tile) (k : Nat) : Prop := ∃ kvs : List (Int × Frac), MapIs w r encInt encFr kvs ∧ ∀ c, aget c kvs = lastF W ts k c
theorem BehIs.kept {w w' : World} {r : Nat} {W : Wt} {ts : List Tile} {k : Nat} (h : BehIs w r W ts k) (hk : Kept w w') : BehIs w' r W ts k := by
  obtain ⟨kvs, h1, h2⟩ := h; exact ⟨kvs, h1.kept hk, h2⟩
theorem lastF_next {W : Wt} {ts : List Tile} {k : Nat} {kvs : List (Int × Frac)} {t : Tile} (hk : k < ts.length) (ht : ts[k] = t) (h : ∀ c, aget c kvs = lastF W ts k c) : ∀ c, aget c (aput t.W (fr W.factors k) kvs) = lastF W ts (k + 1) c := by
  intro c
  rw [aget_aput, h]
  simp [lastF, hk, ht]
/-- the test: met, and not equal -/
def odd2 (o : Option Frac) (f : Frac) : Bool := o.isSome && !eqFrac (o.getD default) f
def bad1 (ts : List Tile) (W : Wt) (i : Nat) : Bool := odd2 (lastF W ts i (ts[i]?.getD default).W) (fr W.factors i) && hasE ts (ts[i]?.getD default).W
def bad2 (ts : List Tile) (W : Wt) (i : Nat) : Bool := odd2 (lastF W ts ts.length (ts[i]?.getD default).E) (fr W.factors i)
def cond2 (ts : List Tile) (W : Wt) : Bool := (List.range ts.length).all (fun i => !bad1 ts W i) && (List.range ts.length).all (fun i => !bad2 ts W i)
theorem cond2_no1 {ts : List Tile} {W : Wt} {k : Nat} (hk : k < ts.length) (h : bad1 ts W k = true) : cond2 ts W = false := by
  rw [cond2, Bool.and_eq_false_iff]; left
  rw [List.all_eq_false]; exact ⟨k, by simpa using hk, by simp [h]⟩
theorem cond2_no2 {ts : List Tile} {W : Wt} {k : Nat} (hk : k < ts.length) (h : bad2 ts W k = true) : cond2 ts W = false := by
  rw [cond2, Bool.and_eq_false_iff]; right
  rw [List.all_eq_false]; exact ⟨k, by simpa using hk, by simp [h]⟩
theorem cond2_yes {ts : List Tile} {W : Wt} (h1 : ∀ k, k < ts.length → bad1 ts W k = false) (h2 : ∀ k, k < ts.length → bad2 ts W k = false) : cond2 ts W = true := by
  rw [cond2, Bool.and_eq_true, List.all_eq_true, List.all_eq_true]
  exact ⟨fun k hk => by simp [h1 k (by simpa using hk)], fun k hk => by simp [h2 k (by simpa using hk)]⟩
theorem equal_b (a b : Frac) (q : Bool) (hq : eqFrac a b = q) (ha : fracOk a = true) (hb : fracOk b = true) (w : World) :
    Calls Tryd.prog 35 #[.agg #[.int .i64 a.num, .int .i64 a.den], .agg #[.int .i64 b.num, .int .i64 b.den]] w fun e w' => e = .returned (.bool q) ∧ Kept w w' := by
  subst hq; exact equal a b ha hb w

set_option maxHeartbeats 4000000 in
set_option maxRecDepth 100000 in
theorem check2 (ts : List Tile) (W : Wt) (Bs Bw : Nat) (a : Option Addr) (cap : Nat) (a0 a1 a2 a3 a4 : Option Addr) (c0 c1 c2 c3 c4 : Nat) (w : World) (hC : Caps w Bs Bw ts W a cap a0 a1 a2 a3 a4 c0 c1 c2 c3 c4)
    (hfl : W.factors.length = ts.length) (hf : W.factors.all fracOk = true) :
    Calls Tryd.prog 34 #[.pointer (some ⟨Bs, 0, none⟩), .pointer (some ⟨Bw, 0, none⟩)] w fun e w' => e = .returned (.bool (cond2 ts W)) ∧ Kept w w' := by
  have lt := hC.ts'.len
  have cs := hC.s
  have ls := hC.ls
  have HFL := Lib.hid hfl
  clear hfl
  have hmm := @run_makeMap Tryd.prog
  go_enter Tryd.func34, Tryd.ntmps34
  go_wp2_with (fail)
  clear cs hmm ls
  go_loopg [4, 5, 6, 7, 9, 17] ts.length (fun gg _ _ _ _ _ s17 wr => ∃ kk : Nat, kk ≤ ts.length ∧ ts.length - kk ≤ gg ∧ s17 = .int .i64 kk ∧ Aside (Kept w wr) ∧ Aside (BehIs wr w.heap.size W ts kk) ∧ Aside (∀ i, i < kk → bad1 ts W i = false))
  case atStart => exact ⟨0, Nat.zero_le _, by omega, rfl, (Kept.refl w).alloc (Nat.le_refl _) _, ⟨[], MapIs.made w _ _, by intro c; rfl⟩, fun i h => absurd h (Nat.not_lt_zero _)⟩
  case round =>
    obtain ⟨kk, hkk, hg, rfl, BW, HB, A⟩ := hrel
    by_cases hlt : kk < ts.length
    · have hCr := hC.kept BW.out
      obtain ⟨b, off, rfl, hb, p0, p1, p2, p3⟩ := hCr.ts'.tile hlt
      obtain ⟨b2, o2, rfl, hb2, f0, f1⟩ := hCr.W'.s2.fracAt (j := kk) (by rw [HFL.out]; exact hlt)
      obtain ⟨t, ht⟩ : ∃ t, ts[kk] = t := ⟨_, rfl⟩
      rw [ht] at p0 p1 p2 p3
      have HT := Lib.hid ht
      have HTD := Lib.hid (show ts[kk]?.getD default = t by simp [hlt, ht])
      clear ht
      have HFO := Lib.hid (fr_ok (l := W.factors) (i := kk) (by rw [HFL.out]; exact hlt) hf)
      obtain ⟨F, hF⟩ : ∃ F, fr W.factors kk = F := ⟨_, rfl⟩
      rw [hF] at f0 f1 HFO
      have HF := Lib.hid hF
      clear hF
      obtain ⟨kvs, hm, hget⟩ := HB.out
      have HM := Lib.hid hm
      have HGET := Lib.hid hget
      clear hm hget
      have q2 := hCr.w2
      have y0 : Bw < wr.heap.size := hCr.lw
      have z9 : (kk : Int) < (W.factors.length : Int) := by rw [HFL.out]; omega
      have HK1 := Lib.hid ((Kept.refl wr).alloc (Nat.le_refl _) (.cells #[.int .i64 t.N, .int .i64 t.E, .int .i64 t.S, .int .i64 t.W] 44))
      obtain ⟨f, hf1⟩ : ∃ f, (aget t.W kvs).getD default = f := ⟨_, rfl⟩
      obtain ⟨met, hf2⟩ : ∃ met, (aget t.W kvs).isSome = met := ⟨_, rfl⟩
      have HF1 := Lib.hid hf1
      have HF2 := Lib.hid hf2
      clear hf1 hf2
      have hEF : encFr f = .agg #[.int .i64 f.num, .int .i64 f.den] := rfl
      go_upto_region 6 with (at_lookup; go_must (refine wpList_lookupOk_is _ rfl _ _ _ rfl (HM.out.kept HK1.out) 3 79 (keyInt Tryd.prog 3 .i64 (by kernel_rfl)) (by kernel_rfl) default (by kernel_rfl) t.W f met HF1.out HF2.out rfl rfl ?_))
      clear hEF
      have HFK : Hid (met = true → fracOk f = true) := by
        intro h
        have h1 := HGET.out t.W
        have h2 := HF2.out
        have h3 := HF1.out
        rw [h1] at h2 h3
        cases h4 : lastF W ts kk t.W with
        | none => rw [h4, h] at h2; simp at h2
        | some f' =>
          rw [h4] at h3
          have : f' = f := by simpa using h3
          rw [← this]
          exact lastF_ok (by exact HFL.out) hf kk t.W f' hkk h4
      have HKx : Hid (Kept wr _) := HK1.out.alloc (by simp) (.cells #[.int .i64 f.num, .int .i64 f.den] 79)
      have x0 : ((wr.alloc (.cells #[.int .i64 t.N, .int .i64 t.E, .int .i64 t.S, .int .i64 t.W] 44)).alloc (.cells #[.int .i64 f.num, .int .i64 f.den] 79)).cell? ⟨wr.heap.size, 3, none⟩ = some (.int .i64 t.W) := by simp
      have g0 : ((wr.alloc (.cells #[.int .i64 t.N, .int .i64 t.E, .int .i64 t.S, .int .i64 t.W] 44)).alloc (.cells #[.int .i64 f.num, .int .i64 f.den] 79)).cell? ⟨wr.heap.size + 1, 0, none⟩ = some (.int .i64 f.num) := by simp
      have g1 : ((wr.alloc (.cells #[.int .i64 t.N, .int .i64 t.E, .int .i64 t.S, .int .i64 t.W] 44)).alloc (.cells #[.int .i64 f.num, .int .i64 f.den] 79)).cell? ⟨wr.heap.size + 1, 1, none⟩ = some (.int .i64 f.den) := by simp
      have ll : wr.heap.size + 1 < ((wr.alloc (.cells #[.int .i64 t.N, .int .i64 t.E, .int .i64 t.S, .int .i64 t.W] 44)).alloc (.cells #[.int .i64 f.num, .int .i64 f.den] 79)).heap.size := by simp
      have f0 := (HKx.out.cell (p := ⟨b2, o2 + kk * 2, none⟩) hb2).trans f0
      have f1 := (HKx.out.cell (p := ⟨b2, o2 + kk * 2 + 1, none⟩) hb2).trans f1
      have q2 := (HKx.out.cell (p := ⟨Bw, 2, none⟩) y0).trans q2
      have HM := Lib.hid (HM.out.kept HKx.out)
      have HCx := Lib.hid (hCr.kept HKx.out)
      have ly := Nat.lt_of_lt_of_le y0 HKx.out.size
      have lb := Nat.lt_of_lt_of_le hb2 HKx.out.size
      have HBWx := Lib.hid (BW.out.trans HKx.out)
      clear hCr hb hb2 y0 p0 p1 p2 p3 HK1 HKx
      generalize (wr.alloc (.cells #[.int .i64 t.N, .int .i64 t.E, .int .i64 t.S, .int .i64 t.W] 44)).alloc (.cells #[.int .i64 f.num, .int .i64 f.den] 79) = wx at x0 g0 g1 ll f0 f1 q2 HM HCx ly lb HBWx ⊢
      obtain ⟨T, hT⟩ : ∃ T, wr.heap.size = T := ⟨_, rfl⟩
      rw [hT] at x0 g0 g1 ll ⊢
      clear hT
      obtain ⟨eq, heq⟩ : ∃ eq, eqFrac f F = eq := ⟨_, rfl⟩
      have HEQ := Lib.hid heq
      clear heq
      go_cut [39] (fun s39 wq => s39 = .bool (met && !eq) ∧ Aside (Kept wx wq))
      case first =>
        cases met with
        | false =>
          go_quiet (fail)
          go_wp2_with (fail)
          go_meet
          exact ⟨rfl, Kept.drewN _ _⟩
        | true =>
          have HFK2 := Lib.hid (HFK.out rfl)
          go_region_held3 (fun w' => w'.cell? ⟨Bw, 2, none⟩ = some (.slice (some ⟨b2, o2, none⟩) W.factors.length c2) ∧ w'.cell? ⟨b2, o2 + kk * 2, none⟩ = some (.int .i64 F.num) ∧ w'.cell? ⟨b2, o2 + kk * 2 + 1, none⟩ = some (.int .i64 F.den) ∧
              w'.cell? ⟨T + 1, 0, none⟩ = some (.int .i64 f.num) ∧ w'.cell? ⟨T + 1, 1, none⟩ = some (.int .i64 f.den))
            (go_keep)
            ((go_at_call 35; refine (equal_b f F eq HEQ.out HFK2.out HFO.out _).mono ?_; rintro e w' ⟨rfl, hb'⟩; have hb' := Kept.trans (Kept.drewN wx 1) hb'; obtain ⟨hcc, hff⟩ := hb'.cells))
          clear hcc hff
          go_wp2_with (fail)
          go_meet
          exact ⟨rfl, hb'⟩
      case rest =>
        obtain ⟨rfl, HKq⟩ := hcut
        have HC := Lib.hid (HCx.out.kept HKq.out)
        have HMc := Lib.hid (HM.out.kept HKq.out)
        have x0 := (HKq.out.cell (p := ⟨T, 3, none⟩) (show T < wx.heap.size by omega)).trans x0
        have f0 := (HKq.out.cell (p := ⟨b2, o2 + kk * 2, none⟩) lb).trans f0
        have f1 := (HKq.out.cell (p := ⟨b2, o2 + kk * 2 + 1, none⟩) lb).trans f1
        have q2 := (HKq.out.cell (p := ⟨Bw, 2, none⟩) ly).trans q2
        have ll : T + 1 < wc.heap.size := Nat.lt_of_lt_of_le ll HKq.out.size
        have ly : Bw < wc.heap.size := Nat.lt_of_lt_of_le ly HKq.out.size
        have lb : b2 < wc.heap.size := Nat.lt_of_lt_of_le lb HKq.out.size
        have HBW := Lib.hid (HBWx.out.trans HKq.out)
        clear HBWx HM HCx HKq g0 g1
        have HODD : Hid (odd2 (lastF W ts kk t.W) (fr W.factors kk) = (met && !eq)) := by
          have h1 := HGET.out t.W
          have h2 := HF2.out
          have h3 := HF1.out
          rw [h1] at h2 h3
          unfold Hid
          rw [odd2, h2, h3, HF.out, HEQ.out]
        generalize (met && !eq) = odd at *
        go_upto_if 39 with (fail)
        have cs := HC.out.s
        have lS := HC.out.ls
        go_cut [9] (fun _ wq => Aside (Kept wc wq) ∧ (odd && hasE ts t.W) = false)
        case first =>
          cases odd with
          | false =>
            go_wp2_with (fail)
            go_meet
            exact ⟨Kept.refl wc, rfl⟩
          | true =>
            go_wp2_with (fail)
            clear cs
            go_loopg [9, 42] ts.length (fun gg _ s42 wr => ∃ j : Nat, j ≤ ts.length ∧ ts.length - j ≤ gg ∧ s42 = .int .i64 j ∧ Aside (Kept wc wr) ∧ Aside (∀ i (h : i < ts.length), i < j → ¬ ts[i].E = t.W))
            case atStart => exact ⟨0, Nat.zero_le _, by omega, rfl, Kept.refl wc, fun i _ h => absurd h (Nat.not_lt_zero _)⟩
            case round =>
              obtain ⟨j, hj, hg, rfl, HKj, HNo⟩ := hrel
              by_cases hlt2 : j < ts.length
              · obtain ⟨b', off', eb, hb', e0, e1, e2, e3⟩ := (HC.out.ts'.kept HKj.out).tile hlt2
                cases eb
                obtain ⟨u, hu⟩ : ∃ u, ts[j] = u := ⟨_, rfl⟩
                rw [hu] at e0 e1 e2 e3
                have HU := Lib.hid hu
                clear hu
                have x3 := (HKj.out.cell (p := ⟨T, 3, none⟩) (show T < wc.heap.size by omega)).trans x0
                have lT : T < wr.heap.size := Nat.lt_of_lt_of_le (show T < wc.heap.size by omega) HKj.out.size
                have HKa := Lib.hid (HKj.out.alloc HKj.out.size (.cells #[.int .i64 u.N, .int .i64 u.E, .int .i64 u.S, .int .i64 u.W] 44))
                by_cases he : u.E = t.W
                · have te : (u.E == t.W) = true := by simpa using he
                  have HBAD := Lib.hid (cond2_no1 hlt (show bad1 ts W kk = true by
                    rw [bad1, HTD.out, HODD.out, Bool.true_and, hasE, List.any_eq_true]
                    exact ⟨u, by rw [← HU.out]; exact List.getElem_mem hlt2, by simpa using he⟩))
                  clear he
                  go_wp2_with (fail)
                  go_ret
                  refine ⟨?_, HBW.out.trans HKa.out⟩
                  rw [HBAD.out]
                  rfl
                · have te : (u.E == t.W) = false := by simpa using he
                  have HNE := Lib.hid he
                  clear he
                  go_wp2_with (fail)
                  go_roundg (ts.length - (j + 1))
                  case measure => omega
                  case rel =>
                    refine ⟨j + 1, by omega, by omega, by go_num, HKa.out, (show Aside _ from fun i hi hij => ?_)⟩
                    by_cases e : i = j
                    · subst e; rw [HU.out]; exact HNE.out
                    · exact HNo.out i hi (by omega)
              · obtain rfl : j = ts.length := by omega
                have HE := Lib.hid (show (true && hasE ts t.W) = false by
                  rw [Bool.true_and, hasE, List.any_eq_false]
                  intro u hu
                  obtain ⟨i, hi, rfl⟩ := List.getElem_of_mem hu
                  simpa using HNo.out i hi hi)
                go_wp2_with (fail)
                go_meet
                exact ⟨HKj.out, HE.out⟩
        case rest =>
          obtain ⟨HKq2, hodd⟩ := hcut
          have HOD2 := Lib.hid hodd
          clear hodd
          have x3 := (HKq2.out.cell (p := ⟨T, 3, none⟩) (show T < _ by omega)).trans x0
          have f3 := (HKq2.out.cell (p := ⟨b2, o2 + kk * 2, none⟩) lb).trans f0
          have f4 := (HKq2.out.cell (p := ⟨b2, o2 + kk * 2 + 1, none⟩) lb).trans f1
          have q3 := (HKq2.out.cell (p := ⟨Bw, 2, none⟩) ly).trans q2
          have HM2 := Lib.hid (HMc.out.kept HKq2.out)
          have HBW2 := Lib.hid (HBW.out.trans HKq2.out)
          clear HKq2 HMc HBW x0 f0 f1 q2 cs lS HC
          go_upto_region 13 with (fail)
          go_still_tail 8, (by kernel_rfl)
          change wpList _ _ _ _ _ wc.drew
          have HKD := Lib.hid (Kept.drewN wc 1)
          go_wp2_with (at_mapUpdate; go_must (refine wpList_mapUpdate_is _ rfl _ _ _ _ rfl (HM2.out.kept HKD.out) 3 79 (keyInt Tryd.prog 3 .i64 (by kernel_rfl)) (by kernel_rfl) t.W F rfl rfl rfl ?_); intro w2 hm2 hg2)
          have HM3 := Lib.hid hm2
          have HG3 := Lib.hid hg2
          clear hm2 hg2
          have HNX := Lib.hid (lastF_next hlt HT.out HGET.out)
          rw [HF.out] at HNX
          go_roundg (ts.length - (kk + 1))
          case measure => omega
          case rel =>
            have hkw : Kept w wc.drew := HBW2.out.trans HKD.out
            refine ⟨kk + 1, by omega, by omega, by go_num, hkw.grown HG3.out hkw.size (fun k e => by cases e; exact Nat.le_refl _), ⟨_, HM3.out, HNX.out⟩, (show Aside _ from fun i hi => ?_)⟩
            by_cases e : i = kk
            · subst e
              rw [bad1, HTD.out, HODD.out]
              exact HOD2.out
            · exact A.out i (by omega)
    · obtain rfl : kk = ts.length := by omega
      have hCr := hC.kept BW.out
      have cs := hCr.s
      have ls := hCr.ls
      obtain ⟨kvs, hm, hget⟩ := HB.out
      have HM := Lib.hid hm
      have HGET := Lib.hid hget
      have HBW := Lib.hid BW.out
      have HA := Lib.hid A.out
      clear hm hget
      go_wp2_with (fail)
      clear cs ls
      have HC0 := Lib.hid hCr
      clear hCr
      go_loopg [10, 11, 12, 13, 63] ts.length (fun gg _ _ _ _ s63 wr2 => ∃ j : Nat, j ≤ ts.length ∧ ts.length - j ≤ gg ∧ s63 = .int .i64 j ∧ Aside (Kept wr wr2) ∧ Aside (∀ i, i < j → bad2 ts W i = false))
      case atStart => exact ⟨0, Nat.zero_le _, by omega, rfl, Kept.refl wr, fun i h => absurd h (Nat.not_lt_zero _)⟩
      case round =>
        obtain ⟨j, hj, hg2, rfl, HKj, A2⟩ := hrel
        have HBj := Lib.hid (HBW.out.trans HKj.out)
        by_cases hlt : j < ts.length
        · have hCr := HC0.out.kept HKj.out
          obtain ⟨b, off, rfl, hb, p0, p1, p2, p3⟩ := hCr.ts'.tile hlt
          obtain ⟨b2, o2, rfl, hb2, f0, f1⟩ := hCr.W'.s2.fracAt (j := j) (by rw [HFL.out]; exact hlt)
          obtain ⟨t, ht⟩ : ∃ t, ts[j] = t := ⟨_, rfl⟩
          rw [ht] at p0 p1 p2 p3
          have HT := Lib.hid ht
          have HTD := Lib.hid (show ts[j]?.getD default = t by simp [hlt, ht])
          clear ht
          have HFO := Lib.hid (fr_ok (l := W.factors) (i := j) (by rw [HFL.out]; exact hlt) hf)
          obtain ⟨F, hF⟩ : ∃ F, fr W.factors j = F := ⟨_, rfl⟩
          rw [hF] at f0 f1 HFO
          have HF := Lib.hid hF
          clear hF
          have q2 := hCr.w2
          have y0 : Bw < wr.heap.size := hCr.lw
          have z9 : (j : Int) < (W.factors.length : Int) := by rw [HFL.out]; omega
          have HMj := Lib.hid (HM.out.kept HKj.out)
          have HK1 := Lib.hid ((Kept.refl wr).alloc (Nat.le_refl _) (.cells #[.int .i64 t.N, .int .i64 t.E, .int .i64 t.S, .int .i64 t.W] 44))
          obtain ⟨f, hf1⟩ : ∃ f, (aget t.E kvs).getD default = f := ⟨_, rfl⟩
          obtain ⟨met, hf2⟩ : ∃ met, (aget t.E kvs).isSome = met := ⟨_, rfl⟩
          have HF1 := Lib.hid hf1
          have HF2 := Lib.hid hf2
          clear hf1 hf2
          have hEF : encFr f = .agg #[.int .i64 f.num, .int .i64 f.den] := rfl
          go_upto_region 19 with (at_lookup; go_must (refine wpList_lookupOk_is _ rfl _ _ _ rfl (HMj.out.kept HK1.out) 3 79 (keyInt Tryd.prog 3 .i64 (by kernel_rfl)) (by kernel_rfl) default (by kernel_rfl) t.E f met HF1.out HF2.out rfl rfl ?_))
          clear hEF
          have HFK : Hid (met = true → fracOk f = true) := by
            intro h
            have h1 := HGET.out t.E
            have h2 := HF2.out
            have h3 := HF1.out
            rw [h1] at h2 h3
            cases h4 : lastF W ts ts.length t.E with
            | none => rw [h4, h] at h2; simp at h2
            | some f' =>
              rw [h4] at h3
              have : f' = f := by simpa using h3
              rw [← this]
              exact lastF_ok (by exact HFL.out) hf ts.length t.E f' (Nat.le_refl _) h4
          have HKx : Hid (Kept wr _) := HK1.out.alloc (by simp) (.cells #[.int .i64 f.num, .int .i64 f.den] 79)
          have g0 : ((wr.alloc (.cells #[.int .i64 t.N, .int .i64 t.E, .int .i64 t.S, .int .i64 t.W] 44)).alloc (.cells #[.int .i64 f.num, .int .i64 f.den] 79)).cell? ⟨wr.heap.size + 1, 0, none⟩ = some (.int .i64 f.num) := by simp
          have g1 : ((wr.alloc (.cells #[.int .i64 t.N, .int .i64 t.E, .int .i64 t.S, .int .i64 t.W] 44)).alloc (.cells #[.int .i64 f.num, .int .i64 f.den] 79)).cell? ⟨wr.heap.size + 1, 1, none⟩ = some (.int .i64 f.den) := by simp
          have ll : wr.heap.size + 1 < ((wr.alloc (.cells #[.int .i64 t.N, .int .i64 t.E, .int .i64 t.S, .int .i64 t.W] 44)).alloc (.cells #[.int .i64 f.num, .int .i64 f.den] 79)).heap.size := by simp
          have f0 := (HKx.out.cell (p := ⟨b2, o2 + j * 2, none⟩) hb2).trans f0
          have f1 := (HKx.out.cell (p := ⟨b2, o2 + j * 2 + 1, none⟩) hb2).trans f1
          have q2 := (HKx.out.cell (p := ⟨Bw, 2, none⟩) y0).trans q2
          have ly := Nat.lt_of_lt_of_le y0 HKx.out.size
          have lb := Nat.lt_of_lt_of_le hb2 HKx.out.size
          have HBWx := Lib.hid (HBj.out.trans HKx.out)
          have HKjx := Lib.hid (HKj.out.trans HKx.out)
          clear hCr hb hb2 y0 p0 p1 p2 p3 HK1 HKx
          generalize (wr.alloc (.cells #[.int .i64 t.N, .int .i64 t.E, .int .i64 t.S, .int .i64 t.W] 44)).alloc (.cells #[.int .i64 f.num, .int .i64 f.den] 79) = wx at g0 g1 ll f0 f1 q2 ly lb HBWx HKjx ⊢
          obtain ⟨T, hT⟩ : ∃ T, wr.heap.size = T := ⟨_, rfl⟩
          rw [hT] at g0 g1 ll ⊢
          clear hT
          obtain ⟨eq, heq⟩ : ∃ eq, eqFrac f F = eq := ⟨_, rfl⟩
          have HEQ := Lib.hid heq
          clear heq
          have HODD : Hid (bad2 ts W j = (met && !eq)) := by
            have h1 := HGET.out t.E
            have h2 := HF2.out
            have h3 := HF1.out
            rw [h1] at h2 h3
            unfold Hid
            rw [bad2, HTD.out, odd2, h2, h3, HF.out, HEQ.out]
          go_cut [85] (fun s85 wq => s85 = .bool (met && !eq) ∧ Aside (Kept wx wq))
          case first =>
            cases met with
            | false =>
              go_quiet (fail)
              go_wp2_with (fail)
              go_meet
              exact ⟨rfl, Kept.drewN _ _⟩
            | true =>
              have HFK2 := Lib.hid (HFK.out rfl)
              go_region_held3 (fun w' => w'.cell? ⟨Bw, 2, none⟩ = some (.slice (some ⟨b2, o2, none⟩) W.factors.length c2) ∧ w'.cell? ⟨b2, o2 + j * 2, none⟩ = some (.int .i64 F.num) ∧ w'.cell? ⟨b2, o2 + j * 2 + 1, none⟩ = some (.int .i64 F.den) ∧
                  w'.cell? ⟨T + 1, 0, none⟩ = some (.int .i64 f.num) ∧ w'.cell? ⟨T + 1, 1, none⟩ = some (.int .i64 f.den))
                (go_keep)
                ((go_at_call 35; refine (equal_b f F eq HEQ.out HFK2.out HFO.out _).mono ?_; rintro e w' ⟨rfl, hb'⟩; have hb' := Kept.trans (Kept.drewN wx 1) hb'; obtain ⟨hcc, hff⟩ := hb'.cells))
              clear hcc hff
              go_wp2_with (fail)
              go_meet
              exact ⟨rfl, hb'⟩
          case rest =>
            obtain ⟨rfl, HKq⟩ := hcut
            have HF3 := Lib.hid (HBWx.out.trans HKq.out)
            have HF4 := Lib.hid (HKjx.out.trans HKq.out)
            clear HBWx HKjx HKq g0 g1 f0 f1 q2 ly lb ll
            generalize (met && !eq) = odd at *
            cases odd with
            | true =>
              have HBAD := Lib.hid (cond2_no2 hlt HODD.out)
              go_wp2_with (fail)
              go_ret
              refine ⟨?_, HF3.out⟩
              rw [HBAD.out]
              rfl
            | false =>
              go_wp2_with (fail)
              go_roundg (ts.length - (j + 1))
              case measure => omega
              case rel =>
                refine ⟨j + 1, by omega, by omega, by go_num, HF4.out, (show Aside _ from fun i hi => ?_)⟩
                by_cases e : i = j
                · subst e; exact HODD.out
                · exact A2.out i (by omega)
        · obtain rfl : j = ts.length := by omega
          have HY := Lib.hid (cond2_yes HA.out A2.out)
          go_wp2_with (fail)
          go_ret
          refine ⟨?_, HBj.out⟩
          rw [HY.out]
          rfl
end Go.Proofs.YtlcbgcieedbggaaDoor
namespace Go.Proofs.YtlcbgcieedbggaaDoor
open Go Go.RowKit

theorem foldl_max_ge {α : Type} (g : Int → α → Int) (hg : ∀ m t, m ≤ g m t) : ∀ (l : List α) (m : Int), m ≤ l.foldl g m := by
  intro l
  induction l with
  | nil => intro m; simp
  | cons t r ih => intro m; exact Int.le_trans (hg m t) (ih _)
theorem foldl_mem {α : Type} (g : Int → α → Int) (hg : ∀ m t, m ≤ g m t) (P : α → Int → Prop) (h1 : ∀ m t, P t (g m t)) (h2 : ∀ t a b, P t a → a ≤ b → P t b) : ∀ (l : List α) (m : Int) (t : α), t ∈ l → P t (l.foldl g m) := by
  intro l
  induction l with
  | nil => intro m t ht; cases ht
  | cons u r ih =>
    intro m t ht
    rcases List.mem_cons.1 ht with rfl | ht
    · exact h2 _ _ _ (h1 m t) (foldl_max_ge g hg r _)
    · exact ih _ t ht
theorem needVTo_mem {ts : List Tile} {t : Tile} (h : t ∈ ts) : t.N + 1 ≤ needVTo ts ∧ t.S + 1 ≤ needVTo ts :=
  foldl_mem (fun m t => max (max m (t.N + 1)) (t.S + 1)) (fun m t => by omega) (fun t v => t.N + 1 ≤ v ∧ t.S + 1 ≤ v) (fun m t => by omega) (fun t a b h hab => by omega) ts 0 t h
theorem needCTo_mem {ts : List Tile} {t : Tile} (h : t ∈ ts) : t.E + 1 ≤ needCTo ts ∧ t.W + 1 ≤ needCTo ts :=
  foldl_mem (fun m t => max (max m (t.E + 1)) (t.W + 1)) (fun m t => by omega) (fun t v => t.E + 1 ≤ v ∧ t.W + 1 ≤ v) (fun m t => by omega) (fun t a b h hab => by omega) ts 0 t h

/-- What weight.Valid's yes gives. -/
structure VW (ts : List Tile) (W : Wt) : Prop where
  tiles : tilesValid ts = true
  inn : ∀ t ∈ ts, TileIn t W
  fl : W.factors.length = ts.length
  v : W.values.all fracOk = true
  c : W.carries.all fracOk = true
  f : W.factors.all fracOk = true
  vn : W.values.all (fun f => decide (0 ≤ f.num)) = true
  fp : W.factors.all (fun f => decide (0 < f.num)) = true
  ll : W.logs.length = W.primes.length
  p12 : W.primes.length ≤ 12
  pr : PrimesTo W W.primes.length
theorem okTile_ge {t : Tile} (h : okTile t = true) : 0 ≤ t.N ∧ t.N < 1000 ∧ 0 ≤ t.E ∧ t.E < 1000 ∧ 0 ≤ t.S ∧ t.S < 1000 ∧ 0 ≤ t.W ∧ t.W < 1000 := by
  simp [okTile, badColour] at h; omega
theorem validW_yes {ts : List Tile} {W : Wt} (h : validW ts W = true) : VW ts W := by
  simp only [validW, Bool.and_eq_true] at h
  obtain ⟨⟨⟨h1, h2⟩, h3⟩, h4⟩ := h
  simp only [lensB, Bool.and_eq_true, decide_eq_true_eq] at h2
  obtain ⟨⟨⟨⟨l1, l2⟩, l3⟩, l4⟩, l5⟩ := h2
  simp only [fracsB, Bool.and_eq_true] at h3
  obtain ⟨⟨⟨⟨f1, f2⟩, f3⟩, f4⟩, f5⟩ := h3
  refine ⟨h1, fun t ht => ?_, l3, f1, f2, f3, f4, f5, l5, l4, primesB_true.1 h4⟩
  have ho := okTile_ge (List.all_eq_true.1 (tv_all h1).1 t ht)
  have hv := needVTo_mem ht
  have hc := needCTo_mem ht
  constructor <;> omega

def checkB (m0 m1 m2 : Nat) (ts : List Tile) (W : Wt) : Bool := cond1 m0 m1 m2 ts W && cond2 ts W && cond3 ts W && W.factors.all (growsB · W)

set_option maxHeartbeats 4000000 in
set_option maxRecDepth 100000 in
theorem check_no (ts : List Tile) (W : Wt) (a : Option Addr) (cap : Nat) (a0 a1 a2 a3 a4 : Option Addr) (c0 c1 c2 c3 c4 : Nat) (hc3 : W.primes.length ≤ c3) (w : World) (hx : SlA w 4 encT a ts) (hW : WIs w a0 a1 a2 a3 a4 W) (hno : validW ts W = false) :
    Calls Tryd.prog 12 #[.slice a ts.length cap, .agg #[.slice a0 W.values.length c0, .slice a1 W.carries.length c1, .slice a2 W.factors.length c2, .slice a3 W.primes.length c3, .slice a4 W.logs.length c4]] w
      fun e w' => e = .returned (.tuple #[.bool false, .int .i64 1]) ∧ Kept w w' := by
  have hk2 : Hid (∀ o o', Kept w ((w.alloc o).alloc o')) := fun o o' => ((Kept.refl w).alloc (Nat.le_refl _) o).alloc (by simp) o'
  have HV := Lib.hid (fun w (hx : SlA w 4 encT a ts) (hW : WIs w a0 a1 a2 a3 a4 W) => validWCalls ts W a cap a0 a1 a2 a3 a4 c0 c1 c2 c3 c4 hc3 w hx hW)
  rw [hno] at HV
  clear hno
  go_enter Tryd.func12, Tryd.ntmps12
  go_wp2_with (go_at_call 31; go_must (refine (HV.out _ (hx.kept (hk2.out _ _)) (hW.kept (hk2.out _ _))).mono ?_); rintro e w' ⟨rfl, hb'⟩)
  go_ret2
  exact ⟨rfl, (hk2.out _ _).trans hb'⟩

/-- A condition, as a function value that may be called in each world behind w. -/
def Cond (g : Nat) (lb : Array Value) (q : Bool) (w : World) : Prop := ∀ W', Kept w W' → Calls Tryd.prog g lb W' fun e w' => e = .returned (.bool q) ∧ Kept W' w'
theorem Cond.at {g : Nat} {lb : Array Value} {q : Bool} {w w' : World} (h : Cond g lb q w) (hk : Kept w w') : Calls Tryd.prog g lb w' fun e w'' => e = .returned (.bool q) ∧ Kept w' w'' := h w' hk

set_option maxHeartbeats 4000000 in
set_option maxRecDepth 100000 in
theorem check_yes (m0 m1 m2 : Nat) (ts : List Tile) (W : Wt) (a : Option Addr) (cap : Nat) (a0 a1 a2 a3 a4 : Option Addr) (c0 c1 c2 c3 c4 : Nat) (hc3 : W.primes.length ≤ c3) (w : World) (hx : SlA w 4 encT a ts) (hW : WIs w a0 a1 a2 a3 a4 W) (hM : Mods m0 m1 m2 w) (hyes : validW ts W = true) :
    Calls Tryd.prog 12 #[.slice a ts.length cap, .agg #[.slice a0 W.values.length c0, .slice a1 W.carries.length c1, .slice a2 W.factors.length c2, .slice a3 W.primes.length c3, .slice a4 W.logs.length c4]] w
      fun e w' => e = .returned (.tuple #[.bool (checkB m0 m1 m2 ts W), .int .i64 0]) ∧ Kept w w' := by
  have hk2 : Hid (∀ o o', Kept w ((w.alloc o).alloc o')) := fun o o' => ((Kept.refl w).alloc (Nat.le_refl _) o).alloc (by simp) o'
  have HV := Lib.hid (fun w (hx : SlA w 4 encT a ts) (hW : WIs w a0 a1 a2 a3 a4 W) => validWCalls ts W a cap a0 a1 a2 a3 a4 c0 c1 c2 c3 c4 hc3 w hx hW)
  have V := validW_yes hyes
  rw [hyes] at HV
  clear hyes
  have hlen : ts.length ≤ 1000 := (tv_all V.tiles).2.1
  have HC4 : ∀ w' Bs Bw, Caps w' Bs Bw ts W a cap a0 a1 a2 a3 a4 c0 c1 c2 c3 c4 → Cond 38 #[.pointer (some ⟨Bw, 0, none⟩)] (W.factors.all (growsB · W)) w' :=
    fun w' Bs Bw hC W' hk => check4 _ ts W rfl Bs Bw a cap a0 a1 a2 a3 a4 c0 c1 c2 c3 c4 W' (hC.kept hk) V.f V.fp V.ll V.p12 V.pr
  have HC3 : ∀ w' Bs Bw, Caps w' Bs Bw ts W a cap a0 a1 a2 a3 a4 c0 c1 c2 c3 c4 → Cond 36 #[.pointer (some ⟨Bs, 0, none⟩), .pointer (some ⟨Bw, 0, none⟩)] (cond3 ts W) w' :=
    fun w' Bs Bw hC W' hk => check3 _ ts W rfl (by omega) Bs Bw a cap a0 a1 a2 a3 a4 c0 c1 c2 c3 c4 W' (hC.kept hk) V.inn
  have HC2 : ∀ w' Bs Bw, Caps w' Bs Bw ts W a cap a0 a1 a2 a3 a4 c0 c1 c2 c3 c4 → Cond 34 #[.pointer (some ⟨Bs, 0, none⟩), .pointer (some ⟨Bw, 0, none⟩)] (cond2 ts W) w' :=
    fun w' Bs Bw hC W' hk => check2 ts W Bs Bw a cap a0 a1 a2 a3 a4 c0 c1 c2 c3 c4 W' (hC.kept hk) V.fl V.f
  have HC1 : ∀ w' Bs Bw, Mods m0 m1 m2 w' → Caps w' Bs Bw ts W a cap a0 a1 a2 a3 a4 c0 c1 c2 c3 c4 → Cond 32 #[.pointer (some ⟨Bs, 0, none⟩), .pointer (some ⟨Bw, 0, none⟩)] (cond1 m0 m1 m2 ts W) w' :=
    fun w' Bs Bw hM hC W' hk => check1 m0 m1 m2 ts W Bs Bw a cap a0 a1 a2 a3 a4 c0 c1 c2 c3 c4 W' (hC.kept hk) (hM.kept hk) V.inn V.fl V.v V.c V.f
  have e1 := enters_of Tryd.func32 (by kernel_rfl) rfl
  have e2 := enters_of Tryd.func34 (by kernel_rfl) rfl
  have e3 := enters_of Tryd.func36 (by kernel_rfl) rfl
  have e4 := enters_of Tryd.func38 (by kernel_rfl) rfl
  have HCK : checkB m0 m1 m2 ts W = (cond1 m0 m1 m2 ts W && cond2 ts W && cond3 ts W && W.factors.all (growsB · W)) := rfl
  generalize checkB m0 m1 m2 ts W = q at *
  generalize cond1 m0 m1 m2 ts W = q1 at *
  generalize cond2 ts W = q2 at *
  generalize cond3 ts W = q3 at *
  generalize W.factors.all (growsB · W) = q4 at *
  have hC0 : Caps ((w.alloc (.cells #[.slice a ts.length cap] 22)).alloc (.cells #[.slice a0 W.values.length c0, .slice a1 W.carries.length c1, .slice a2 W.factors.length c2, .slice a3 W.primes.length c3, .slice a4 W.logs.length c4] 38)) w.heap.size (w.heap.size + 1) ts W a cap a0 a1 a2 a3 a4 c0 c1 c2 c3 c4 :=
    ⟨by simp; omega, by simp, by simp, by simp, by simp, by simp, by simp, by simp, hx.kept (hk2.out _ _), hW.kept (hk2.out _ _)⟩
  have hM0 := hM.kept (hk2.out (.cells #[.slice a ts.length cap] 22) (.cells #[.slice a0 W.values.length c0, .slice a1 W.carries.length c1, .slice a2 W.factors.length c2, .slice a3 W.primes.length c3, .slice a4 W.logs.length c4] 38))
  have hK0 := hk2.out (.cells #[.slice a ts.length cap] 22) (.cells #[.slice a0 W.values.length c0, .slice a1 W.carries.length c1, .slice a2 W.factors.length c2, .slice a3 W.primes.length c3, .slice a4 W.logs.length c4] 38)
  have HH := Lib.hid (And.intro HC1 (And.intro HC2 (And.intro HC3 HC4)))
  have HE := Lib.hid (And.intro e1 (And.intro e2 (And.intro e3 e4)))
  have HI := Lib.hid (And.intro hC0 (And.intro hM0 hK0))
  have HQ := Lib.hid HCK
  clear HC1 HC2 HC3 HC4 e1 e2 e3 e4 hC0 hM0 hK0 HCK V hlen hx hW hM
  go_enter Tryd.func12, Tryd.ntmps12
  go_upto_region 3 with (go_at_call 31; go_must (refine (HV.out _ HI.out.1.ts' HI.out.1.W').mono ?_); rintro e w' ⟨rfl, hb'⟩)
  have HCp := Lib.hid (HI.out.1.kept hb')
  have HMp := Lib.hid (HI.out.2.1.kept hb')
  have HKp := Lib.hid (HI.out.2.2.trans hb')
  clear hb'
  have D1 := Lib.hid (HH.out.1 w' _ _ HMp.out HCp.out)
  have D2 := Lib.hid (HH.out.2.1 w' _ _ HCp.out)
  have D3 := Lib.hid (HH.out.2.2.1 w' _ _ HCp.out)
  have D4 := Lib.hid (HH.out.2.2.2 w' _ _ HCp.out)
  clear HH HI HCp HMp HV hk2
  generalize w.heap.size = Bs at *
  generalize Bs + 1 = Bw at *
  go_wp2_with (fail)
  have k0 : (w'.alloc (.cells #[.func (.func 32) #[] #[.pointer (some ⟨Bs, 0, none⟩), .pointer (some ⟨Bw, 0, none⟩)], .func (.func 34) #[] #[.pointer (some ⟨Bs, 0, none⟩), .pointer (some ⟨Bw, 0, none⟩)], .func (.func 36) #[] #[.pointer (some ⟨Bs, 0, none⟩), .pointer (some ⟨Bw, 0, none⟩)], .func (.func 38) #[] #[.pointer (some ⟨Bw, 0, none⟩)]] 24)).cell? ⟨w'.heap.size, 0, none⟩ = some (.func (.func 32) #[] #[.pointer (some ⟨Bs, 0, none⟩), .pointer (some ⟨Bw, 0, none⟩)]) := by simp
  have k1 : (w'.alloc (.cells #[.func (.func 32) #[] #[.pointer (some ⟨Bs, 0, none⟩), .pointer (some ⟨Bw, 0, none⟩)], .func (.func 34) #[] #[.pointer (some ⟨Bs, 0, none⟩), .pointer (some ⟨Bw, 0, none⟩)], .func (.func 36) #[] #[.pointer (some ⟨Bs, 0, none⟩), .pointer (some ⟨Bw, 0, none⟩)], .func (.func 38) #[] #[.pointer (some ⟨Bw, 0, none⟩)]] 24)).cell? ⟨w'.heap.size, 1, none⟩ = some (.func (.func 34) #[] #[.pointer (some ⟨Bs, 0, none⟩), .pointer (some ⟨Bw, 0, none⟩)]) := by simp
  have k2 : (w'.alloc (.cells #[.func (.func 32) #[] #[.pointer (some ⟨Bs, 0, none⟩), .pointer (some ⟨Bw, 0, none⟩)], .func (.func 34) #[] #[.pointer (some ⟨Bs, 0, none⟩), .pointer (some ⟨Bw, 0, none⟩)], .func (.func 36) #[] #[.pointer (some ⟨Bs, 0, none⟩), .pointer (some ⟨Bw, 0, none⟩)], .func (.func 38) #[] #[.pointer (some ⟨Bw, 0, none⟩)]] 24)).cell? ⟨w'.heap.size, 2, none⟩ = some (.func (.func 36) #[] #[.pointer (some ⟨Bs, 0, none⟩), .pointer (some ⟨Bw, 0, none⟩)]) := by simp
  have k3 : (w'.alloc (.cells #[.func (.func 32) #[] #[.pointer (some ⟨Bs, 0, none⟩), .pointer (some ⟨Bw, 0, none⟩)], .func (.func 34) #[] #[.pointer (some ⟨Bs, 0, none⟩), .pointer (some ⟨Bw, 0, none⟩)], .func (.func 36) #[] #[.pointer (some ⟨Bs, 0, none⟩), .pointer (some ⟨Bw, 0, none⟩)], .func (.func 38) #[] #[.pointer (some ⟨Bw, 0, none⟩)]] 24)).cell? ⟨w'.heap.size, 3, none⟩ = some (.func (.func 38) #[] #[.pointer (some ⟨Bw, 0, none⟩)]) := by simp
  have hk1 : Kept w' (w'.alloc (.cells #[.func (.func 32) #[] #[.pointer (some ⟨Bs, 0, none⟩), .pointer (some ⟨Bw, 0, none⟩)], .func (.func 34) #[] #[.pointer (some ⟨Bs, 0, none⟩), .pointer (some ⟨Bw, 0, none⟩)], .func (.func 36) #[] #[.pointer (some ⟨Bs, 0, none⟩), .pointer (some ⟨Bw, 0, none⟩)], .func (.func 38) #[] #[.pointer (some ⟨Bw, 0, none⟩)]] 24)) := (Kept.refl w').alloc (Nat.le_refl _) _
  have lF : w'.heap.size < (w'.alloc (.cells #[.func (.func 32) #[] #[.pointer (some ⟨Bs, 0, none⟩), .pointer (some ⟨Bw, 0, none⟩)], .func (.func 34) #[] #[.pointer (some ⟨Bs, 0, none⟩), .pointer (some ⟨Bw, 0, none⟩)], .func (.func 36) #[] #[.pointer (some ⟨Bs, 0, none⟩), .pointer (some ⟨Bw, 0, none⟩)], .func (.func 38) #[] #[.pointer (some ⟨Bw, 0, none⟩)]] 24)).heap.size := by simp
  generalize (w'.alloc (.cells #[.func (.func 32) #[] #[.pointer (some ⟨Bs, 0, none⟩), .pointer (some ⟨Bw, 0, none⟩)], .func (.func 34) #[] #[.pointer (some ⟨Bs, 0, none⟩), .pointer (some ⟨Bw, 0, none⟩)], .func (.func 36) #[] #[.pointer (some ⟨Bs, 0, none⟩), .pointer (some ⟨Bw, 0, none⟩)], .func (.func 38) #[] #[.pointer (some ⟨Bw, 0, none⟩)]] 24)) = w1 at k0 k1 k2 k3 hk1 lF ⊢
  generalize w'.heap.size = F at k0 k1 k2 k3 lF ⊢
  have HC := Lib.hid (And.intro k0 (And.intro k1 (And.intro k2 k3)))
  have HK1 := Lib.hid hk1
  clear k0 k1 k2 k3 hk1
  go_loopg [8, 20] 4 (fun gg _ s20 wr => ∃ j : Nat, j ≤ 4 ∧ 4 - j ≤ gg ∧ s20 = .int .i64 j ∧ Aside (Kept w1 wr) ∧ Aside ((1 ≤ j → q1 = true) ∧ (2 ≤ j → q2 = true) ∧ (3 ≤ j → q3 = true) ∧ (4 ≤ j → q4 = true)))
  case atStart => exact ⟨0, by omega, by omega, rfl, Kept.refl w1, by omega, by omega, by omega, by omega⟩
  case round =>
    obtain ⟨j, hj, hg, rfl, HKj, HY⟩ := hrel
    have HKr := Lib.hid (HK1.out.trans HKj.out)
    rcases (show j = 0 ∨ j = 1 ∨ j = 2 ∨ j = 3 ∨ j = 4 by omega) with rfl | rfl | rfl | rfl | rfl
    · have k := (HKj.out.cell (p := ⟨F, 0, none⟩) lF).trans HC.out.1
      have hd := Lib.hid (D1.out.at HKr.out)
      have eg := HE.out.1
      cases q1 with
      | false =>
        go_wp2_with (go_at_call 32; refine hd.out.mono ?_; rintro e w2 ⟨rfl, hb2⟩)
        go_ret2
        refine ⟨?_, HKp.out.trans (HKr.out.trans hb2)⟩
        have hq : q = false := by rw [HQ.out]; simp
        rw [hq]
        rfl
      | true =>
        go_wp2_with (go_at_call 32; refine hd.out.mono ?_; rintro e w2 ⟨rfl, hb2⟩)
        go_roundg 3
        case measure => omega
        case rel => exact ⟨1, by omega, by omega, by go_num, HKj.out.trans hb2, by simp, by omega, by omega, by omega⟩
    · have k := (HKj.out.cell (p := ⟨F, 1, none⟩) lF).trans HC.out.2.1
      have hd := Lib.hid (D2.out.at HKr.out)
      have eg := HE.out.2.1
      cases q2 with
      | false =>
        go_wp2_with (go_at_call 34; refine hd.out.mono ?_; rintro e w2 ⟨rfl, hb2⟩)
        go_ret2
        refine ⟨?_, HKp.out.trans (HKr.out.trans hb2)⟩
        have hq : q = false := by rw [HQ.out]; simp
        rw [hq]
        rfl
      | true =>
        go_wp2_with (go_at_call 34; refine hd.out.mono ?_; rintro e w2 ⟨rfl, hb2⟩)
        go_roundg 2
        case measure => omega
        case rel => exact ⟨2, by omega, by omega, by go_num, HKj.out.trans hb2, fun _ => HY.out.1 (by omega), by simp, by omega, by omega⟩
    · have k := (HKj.out.cell (p := ⟨F, 2, none⟩) lF).trans HC.out.2.2.1
      have hd := Lib.hid (D3.out.at HKr.out)
      have eg := HE.out.2.2.1
      cases q3 with
      | false =>
        go_wp2_with (go_at_call 36; refine hd.out.mono ?_; rintro e w2 ⟨rfl, hb2⟩)
        go_ret2
        refine ⟨?_, HKp.out.trans (HKr.out.trans hb2)⟩
        have hq : q = false := by rw [HQ.out]; simp
        rw [hq]
        rfl
      | true =>
        go_wp2_with (go_at_call 36; refine hd.out.mono ?_; rintro e w2 ⟨rfl, hb2⟩)
        go_roundg 1
        case measure => omega
        case rel => exact ⟨3, by omega, by omega, by go_num, HKj.out.trans hb2, fun _ => HY.out.1 (by omega), fun _ => HY.out.2.1 (by omega), by simp, by omega⟩
    · have k := (HKj.out.cell (p := ⟨F, 3, none⟩) lF).trans HC.out.2.2.2
      have hd := Lib.hid (D4.out.at HKr.out)
      have eg := HE.out.2.2.2
      cases q4 with
      | false =>
        go_wp2_with (go_at_call 38; refine hd.out.mono ?_; rintro e w2 ⟨rfl, hb2⟩)
        go_ret2
        refine ⟨?_, HKp.out.trans (HKr.out.trans hb2)⟩
        have hq : q = false := by rw [HQ.out]; simp
        rw [hq]
        rfl
      | true =>
        go_wp2_with (go_at_call 38; refine hd.out.mono ?_; rintro e w2 ⟨rfl, hb2⟩)
        go_roundg 0
        case measure => omega
        case rel => exact ⟨4, by omega, by omega, by go_num, HKj.out.trans hb2, fun _ => HY.out.1 (by omega), fun _ => HY.out.2.1 (by omega), fun _ => HY.out.2.2.1 (by omega), by simp⟩
    · have hq : q = true := by
        obtain ⟨y1, y2, y3, y4⟩ := HY.out
        rw [HQ.out, y1 (by omega), y2 (by omega), y3 (by omega), y4 (by omega)]
        rfl
      have HQ2 := Lib.hid hq
      clear hq
      go_wp2_with (fail)
      go_ret2
      refine ⟨?_, HKp.out.trans HKr.out⟩
      rw [HQ2.out]
      rfl

/-- weight.Check -/
theorem check (m0 m1 m2 : Nat) (ts : List Tile) (W : Wt) (a : Option Addr) (cap : Nat) (a0 a1 a2 a3 a4 : Option Addr) (c0 c1 c2 c3 c4 : Nat) (hc3 : W.primes.length ≤ c3) (w : World) (hx : SlA w 4 encT a ts) (hW : WIs w a0 a1 a2 a3 a4 W) (hM : Mods m0 m1 m2 w) :
    Calls Tryd.prog 12 #[.slice a ts.length cap, .agg #[.slice a0 W.values.length c0, .slice a1 W.carries.length c1, .slice a2 W.factors.length c2, .slice a3 W.primes.length c3, .slice a4 W.logs.length c4]] w
      fun e w' => e = .returned (.tuple #[.bool (validW ts W && checkB m0 m1 m2 ts W), .int .i64 (if validW ts W then 0 else 1)]) ∧ Kept w w' := by
  cases h : validW ts W with
  | false => exact check_no ts W a cap a0 a1 a2 a3 a4 c0 c1 c2 c3 c4 hc3 w hx hW h
  | true => exact check_yes m0 m1 m2 ts W a cap a0 a1 a2 a3 a4 c0 c1 c2 c3 c4 hc3 w hx hW hM h
end Go.Proofs.YtlcbgcieedbggaaDoor
