/- Texts of this claim, one behind the other: Nb, Nc. -/
import Derived.Test.YtlcbgcieedbggaaDoorMn19
import Derived.Test.YtlcbgcieedbggaaDoorMn11
import Derived.Test.YtlcbgcieedbggaaDoorMn13
set_option linter.unusedVariables false
set_option linter.unusedSimpArgs false
namespace Go.Proofs.YtlcbgcieedbggaaDoor
open Go Go.RowKit

/-! ### fractions -/
def Eqf (a b : Frac) : Prop := a.num * b.den = b.num * a.den
theorem Eqf.of {a b : Frac} (h : eqFrac a b = true) : Eqf a b := by unfold Eqf; simpa [eqFrac] using h
theorem Eqf.symm {a b : Frac} (h : Eqf a b) : Eqf b a := by unfold Eqf at *; omega
theorem Eqf.trans {a b c : Frac} (hb : 1 ≤ b.den) (h : Eqf a b) (k : Eqf b c) : Eqf a c := by
  unfold Eqf at *
  have : (a.num * c.den) * b.den = (c.num * a.den) * b.den := by grind
  exact Int.eq_of_mul_eq_mul_right (by omega) this
theorem fr_den {l : List Frac} {i : Nat} (h : i < l.length) (hl : l.all fracOk = true) : 1 ≤ (fr l i).den := (frac_bounds (fr_ok h hl)).1

/-! ### the second condition -/
theorem lastF_some {W : Wt} {ts : List Tile} {c : Int} : ∀ (k i : Nat), i < k → (ts[i]?.getD default).W = c → ∃ f, lastF W ts k c = some f := by
  intro k
  induction k with
  | zero => intro i h; omega
  | succ k ih =>
    intro i hi hc
    simp only [lastF]
    split
    · exact ⟨_, rfl⟩
    · rename_i hne
      refine ih i ?_ hc
      have : i ≠ k := fun e => hne (by rw [← e]; exact hc.symm)
      omega
theorem cond2_same {ts : List Tile} {W : Wt} (V : VW ts W) (h : cond2 ts W = true) {i j : Nat} (hi : i < ts.length) (hj : j < ts.length) (he : (ts[j]?.getD default).E = (ts[i]?.getD default).W) : Eqf (fr W.factors i) (fr W.factors j) := by
  rw [cond2, Bool.and_eq_true, List.all_eq_true, List.all_eq_true] at h
  obtain ⟨h1, h2⟩ := h
  have hE : hasE ts (ts[i]?.getD default).W = true := by
    rw [hasE, List.any_eq_true]
    exact ⟨_, List.getElem_mem hj, by simpa [hj] using he⟩
  have hden : ∀ k, k < ts.length → 1 ≤ (fr W.factors k).den := fun k hk => fr_den (by rw [V.fl]; exact hk) V.f
  obtain ⟨c, hci⟩ : ∃ c, (ts[i]?.getD default).W = c := ⟨_, rfl⟩
  rw [hci] at hE he
  have key : ∀ k, k ≤ ts.length → ∀ f, lastF W ts k c = some f → ∀ m, m < k → (ts[m]?.getD default).W = c → Eqf f (fr W.factors m) := by
    intro k
    induction k with
    | zero => intro _ f hf; simp [lastF] at hf
    | succ k ih =>
      intro hk f hf m hm hc
      simp only [lastF] at hf
      split at hf
      · rename_i hck
        obtain rfl := Option.some.inj hf
        by_cases e : m = k
        · subst e; rfl
        · obtain ⟨f', hf'⟩ := lastF_some (W := W) (ts := ts) (c := c) k m (by omega) hc
          have hf'' := ih (by omega) f' hf' m (by omega) hc
          have hb := h1 k (by simpa using (by omega : k < ts.length))
          rw [bad1, ← hck, hf', hE] at hb
          have hq : eqFrac f' (fr W.factors k) = true := by simpa [odd2] using hb
          exact Eqf.trans ((frac_bounds (lastF_ok V.fl V.f k c f' (by omega) hf')).1) (Eqf.of hq).symm hf''
      · rename_i hck
        have : m ≠ k := fun e => hck (by rw [← e]; exact hc.symm)
        exact ih (by omega) f hf m (by omega) hc
  obtain ⟨f, hf⟩ := lastF_some (W := W) (ts := ts) (c := c) ts.length i hi hci
  have k1 := key ts.length (Nat.le_refl _) f hf i hi hci
  have hb := h2 j (by simpa using hj)
  rw [bad2, he, hf] at hb
  have hq : eqFrac f (fr W.factors j) = true := by simpa [odd2] using hb
  exact Eqf.trans ((frac_bounds (lastF_ok V.fl V.f ts.length c f (Nat.le_refl _) hf)).1) k1.symm (Eqf.of hq)

/-! ### the third condition -/
theorem acyc_closed (Z : Tile → Prop) (hn : ∀ t, Z t → ∃ u, Z u ∧ u.W = t.E) (t0 : Tile) (h0 : Z t0) : ∀ (k : Nat) (xs : List Tile), (∀ t, Z t → t ∈ xs) → acycF k xs = false := by
  intro k
  induction k with
  | zero =>
    intro xs hs
    have := hs t0 h0
    cases xs with
    | nil => cases this
    | cons a r => rfl
  | succ k ih =>
    intro xs hs
    have hne : xs.isEmpty = false := by
      have := hs t0 h0
      cases xs with
      | nil => cases this
      | cons a r => rfl
    simp only [acycF, hne, Bool.false_eq_true, if_false]
    split
    · rfl
    · refine ih _ fun t ht => ?_
      obtain ⟨u, hu, he⟩ := hn t ht
      rw [stepA, List.mem_filter]
      exact ⟨hs t ht, by rw [hasW, List.any_eq_true]; exact ⟨u, hs u hu, by simpa using he⟩⟩

/-! ### sums and products -/
def sumN (g : Nat → Int) : Nat → Int
  | 0 => 0
  | k + 1 => sumN g k + g k
theorem sumN_congr {g h : Nat → Int} : ∀ k, (∀ i, i < k → g i = h i) → sumN g k = sumN h k := by
  intro k
  induction k with
  | zero => intro _; rfl
  | succ k ih => intro hh; simp only [sumN]; rw [ih (fun i hi => hh i (by omega)), hh k (by omega)]
theorem sumN_shift (g : Nat → Int) (P : Nat) (hP : 0 < P) : sumN (fun x => g ((x + 1) % P)) P = sumN g P := by
  have h : ∀ n, n < P → sumN (fun x => g ((x + 1) % P)) n = sumN g (n + 1) - g 0 := by
    intro n
    induction n with
    | zero => intro _; simp [sumN]
    | succ n ih =>
      intro hn
      have h1 := ih (by omega)
      simp only [sumN] at h1 ⊢
      rw [h1, Nat.mod_eq_of_lt (by omega)]
      omega
  obtain ⟨m, rfl⟩ : ∃ m, P = m + 1 := ⟨P - 1, by omega⟩
  have h1 := h m (by omega)
  simp only [sumN] at h1 ⊢
  rw [h1, Nat.mod_self]
  omega
theorem sumN_lin (a b : Int) (p q r s : Nat → Int) : ∀ k, (∀ i, i < k → a * p i + b * q i = b * r i + b * s i) → a * sumN p k + b * sumN q k = b * sumN r k + b * sumN s k := by
  intro k
  induction k with
  | zero => intro _; simp [sumN]
  | succ k ih =>
    intro h
    have h1 := ih (fun i hi => h i (by omega))
    have h2 := h k (by omega)
    simp only [sumN]
    grind
theorem sumN_zero {g : Nat → Int} : ∀ k, (∀ i, i < k → 0 ≤ g i) → sumN g k = 0 → ∀ i, i < k → g i = 0 := by
  have hn : ∀ k, (∀ i, i < k → 0 ≤ g i) → 0 ≤ sumN g k := by
    intro k
    induction k with
    | zero => intro _; simp [sumN]
    | succ k ih => intro h; have := ih (fun i hi => h i (by omega)); have := h k (by omega); simp only [sumN]; omega
  intro k
  induction k with
  | zero => intro _ _ i hi; omega
  | succ k ih =>
    intro h hs i hi
    have h1 := hn k (fun i hi => h i (by omega))
    have h2 := h k (by omega)
    simp only [sumN] at hs
    by_cases e : i = k
    · subst e; omega
    · exact ih (fun i hi => h i (by omega)) (by omega) i (by omega)
def prodN (g : Nat → Int) : Nat → Int
  | 0 => 1
  | k + 1 => prodN g k * g k
theorem prodN_pos {g : Nat → Int} : ∀ k, (∀ i, i < k → 1 ≤ g i) → 1 ≤ prodN g k := by
  intro k
  induction k with
  | zero => intro _; simp [prodN]
  | succ k ih => intro h; exact mul_pos1 (ih (fun i hi => h i (by omega))) (h k (by omega))

/-! ### a common denominator -/
def comDen (l : List Frac) : Int := l.foldr (fun f d => f.den * d) 1
theorem comDen_dvd {l : List Frac} {f : Frac} (h : f ∈ l) : f.den ∣ comDen l := by
  induction l with
  | nil => cases h
  | cons a r ih =>
    rcases List.mem_cons.1 h with rfl | h
    · exact Int.dvd_mul_right ..
    · exact Int.dvd_trans (ih h) (Int.dvd_mul_left ..)
theorem comDen_pos {l : List Frac} (h : l.all fracOk = true) : 1 ≤ comDen l := by
  induction l with
  | nil => simp [comDen]
  | cons a r ih =>
    simp only [List.all_cons, Bool.and_eq_true] at h
    exact mul_pos1 (frac_bounds h.1).1 (ih h.2)
def scaled (D : Int) (f : Frac) : Int := f.num * (D / f.den)
theorem scaled_bal {D : Int} {F S C N E : Frac} (hS : S.den ∣ D) (hC : C.den ∣ D) (hN : N.den ∣ D) (hE : E.den ∣ D) (s1 : 1 ≤ S.den) (c1 : 1 ≤ C.den) (n1 : 1 ≤ N.den) (e1 : 1 ≤ E.den) (h : balSum F S C N E = 0) :
    F.num * scaled D S + F.den * scaled D C = F.den * scaled D N + F.den * scaled D E := by
  have a1 : D = S.den * (D / S.den) := (Int.mul_ediv_cancel' hS).symm
  have a2 : D = C.den * (D / C.den) := (Int.mul_ediv_cancel' hC).symm
  have a3 : D = N.den * (D / N.den) := (Int.mul_ediv_cancel' hN).symm
  have a4 : D = E.den * (D / E.den) := (Int.mul_ediv_cancel' hE).symm
  unfold scaled
  simp only [balSum, prodL, List.foldl] at h
  generalize D / S.den = kS at *
  generalize D / C.den = kC at *
  generalize D / N.den = kN at *
  generalize D / E.den = kE at *
  have hpos : S.den * C.den * N.den * E.den ≠ 0 := by
    have := mul_pos1 (mul_pos1 (mul_pos1 s1 c1) n1) e1
    omega
  refine Int.eq_of_mul_eq_mul_right hpos ?_
  grind
end Go.Proofs.YtlcbgcieedbggaaDoor
namespace Go.Proofs.YtlcbgcieedbggaaDoor
open Go Go.RowKit

/-- Three moduli whose product is greater than what balanced sums: 0 modulo each is 0. -/
theorem zero_of_mods {z : Int} (h0 : z % 2305843009213693951 = 0) (h1 : z % 2305843009213693921 = 0) (h2 : z % 2305843009213693907 = 0) (hz : z.natAbs ≤ 4000000000000000000000000000000) : z = 0 := by
  have d0 : 2305843009213693951 ∣ z.natAbs := Int.natAbs_dvd_natAbs.2 (Int.dvd_of_emod_eq_zero h0)
  have d1 : 2305843009213693921 ∣ z.natAbs := Int.natAbs_dvd_natAbs.2 (Int.dvd_of_emod_eq_zero h1)
  have d2 : 2305843009213693907 ∣ z.natAbs := Int.natAbs_dvd_natAbs.2 (Int.dvd_of_emod_eq_zero h2)
  have c01 : Nat.Coprime 2305843009213693951 2305843009213693921 := by simp [Nat.coprime_iff_gcd_eq_one]
  have d01 := c01.mul_dvd_of_dvd_of_dvd d0 d1
  have hlt : z.natAbs < 2305843009213693951 * 2305843009213693921 := Nat.lt_of_le_of_lt hz (by simp)
  exact Int.natAbs_eq_zero.1 (Nat.eq_zero_of_dvd_of_lt d01 hlt)
theorem abs_mul_le {a b : Int} {m n : Nat} (ha : a.natAbs ≤ m) (hb : b.natAbs ≤ n) : (a * b).natAbs ≤ m * n := by
  rw [Int.natAbs_mul]; exact Nat.mul_le_mul ha hb
theorem balSum_le {f s w n e : Frac} (hf : fracOk f = true) (hs : fracOk s = true) (hw : fracOk w = true) (hn : fracOk n = true) (he : fracOk e = true) : (balSum f s w n e).natAbs ≤ 4000000000000000000000000000000 := by
  obtain ⟨f1, f2, f3, f4⟩ := frac_bounds hf
  obtain ⟨s1, s2, s3, s4⟩ := frac_bounds hs
  obtain ⟨w1, w2, w3, w4⟩ := frac_bounds hw
  obtain ⟨n1, n2, n3, n4⟩ := frac_bounds hn
  obtain ⟨e1, e2, e3, e4⟩ := frac_bounds he
  have key : ∀ a b c d g : Int, a.natAbs ≤ 1000000 → b.natAbs ≤ 1000000 → c.natAbs ≤ 1000000 → d.natAbs ≤ 1000000 → g.natAbs ≤ 1000000 → (prodL [a, b, c, d, g]).natAbs ≤ 1000000000000000000000000000000 := by
    intro a b c d g ha hb hc hd hg
    have h4 := abs_mul_le (abs_mul_le (abs_mul_le (abs_mul_le ha hb) hc) hd) hg
    have h5 : prodL [a, b, c, d, g] = a * b * c * d * g := by simp [prodL]
    rw [h5]
    exact Nat.le_trans h4 (by simp)
  have k1 := key f.num s.num w.den n.den e.den (by omega) (by omega) (by omega) (by omega) (by omega)
  have k2 := key w.num f.den s.den n.den e.den (by omega) (by omega) (by omega) (by omega) (by omega)
  have k3 := key n.num f.den s.den w.den e.den (by omega) (by omega) (by omega) (by omega) (by omega)
  have k4 := key e.num f.den s.den w.den n.den (by omega) (by omega) (by omega) (by omega) (by omega)
  unfold balSum
  omega

/-- One tile's balance, with a common denominator. -/
theorem tile_bal {ts : List Tile} {W : Wt} (V : VW ts W) (h : cond1 2305843009213693951 2305843009213693921 2305843009213693907 ts W = true) {i : Nat} (hi : i < ts.length) :
    (fr W.factors i).num * scaled (comDen (W.values ++ W.carries)) (fr W.values (ts[i]?.getD default).S.toNat) + (fr W.factors i).den * scaled (comDen (W.values ++ W.carries)) (fr W.carries (ts[i]?.getD default).W.toNat) =
      (fr W.factors i).den * scaled (comDen (W.values ++ W.carries)) (fr W.values (ts[i]?.getD default).N.toNat) + (fr W.factors i).den * scaled (comDen (W.values ++ W.carries)) (fr W.carries (ts[i]?.getD default).E.toNat) := by
  have ht : ts[i]?.getD default = ts[i] := by simp [hi]
  rw [ht]
  have hT := V.inn _ (List.getElem_mem hi)
  rw [cond1, List.all_eq_true] at h
  have hb := h i (by simpa using hi)
  rw [List.getElem?_eq_getElem hi] at hb
  simp only [balTile, Bool.and_eq_true, balB, decide_eq_true_eq] at hb
  obtain ⟨⟨b0, b1⟩, b2⟩ := hb
  have oF := fr_ok (l := W.factors) (i := i) (by rw [V.fl]; exact hi) V.f
  have oS := fr_ok hT.s1 V.v
  have oN := fr_ok hT.n1 V.v
  have oW := fr_ok hT.w1 V.c
  have oE := fr_ok hT.e1 V.c
  have hz := zero_of_mods b0 b1 b2 (balSum_le oF oS oW oN oE)
  have mem : ∀ {l : List Frac} {k : Nat}, k < l.length → fr l k ∈ l := fun {l k} hk => by rw [← fr_eq hk]; exact List.getElem_mem hk
  exact scaled_bal (comDen_dvd (List.mem_append.2 (.inl (mem hT.s1)))) (comDen_dvd (List.mem_append.2 (.inr (mem hT.w1)))) (comDen_dvd (List.mem_append.2 (.inl (mem hT.n1)))) (comDen_dvd (List.mem_append.2 (.inr (mem hT.e1))))
    (frac_bounds oS).1 (frac_bounds oW).1 (frac_bounds oN).1 (frac_bounds oE).1 hz

theorem wex_prod {W : Wt} (hP : PrimesTo W W.primes.length) (a b : Nat → Int) : ∀ k, (∀ i, i < k → 1 ≤ a i ∧ 1 ≤ b i ∧ wex W (b i) W.primes.length < wex W (a i) W.primes.length) →
    wex W (prodN b k) W.primes.length + k ≤ wex W (prodN a k) W.primes.length := by
  intro k
  induction k with
  | zero => intro _; simp [prodN]
  | succ k ih =>
    intro h
    have h1 := ih (fun i hi => h i (by omega))
    obtain ⟨g1, g2, g3⟩ := h k (by omega)
    have pa := prodN_pos (g := a) k (fun i hi => (h i (by omega)).1)
    have pb := prodN_pos (g := b) k (fun i hi => (h i (by omega)).2.1)
    simp only [prodN]
    rw [wex_mul hP pa g1 _ (Nat.le_refl _), wex_mul hP pb g2 _ (Nat.le_refl _)]
    omega

/-- WEIGHTS EXCLUDE ALL PERIODS. -/
theorem noPeriod {ts : List Tile} {W : Wt} (hv : validW ts W = true) (hc : checkB 2305843009213693951 2305843009213693921 2305843009213693907 ts W = true) {pw ph : Int} {cells : List Int} : ¬ Torus ts pw ph cells := by
  rintro ⟨P, H, rfl, rfl, hP, hH, hcl, hin, hfit⟩
  have V := validW_yes hv
  simp only [checkB, Bool.and_eq_true] at hc
  obtain ⟨⟨⟨c1, c2⟩, c3⟩, c4⟩ := hc
  -- the tile's number at row y, column x
  have hk : ∀ y x, y < H → x < P → (cells[y * P + x]?.getD 0).toNat < ts.length := fun y x hy hx => by
    have hlt : y * P + x < P * H := by
      have h1 : (y + 1) * P ≤ H * P := Nat.mul_le_mul_right _ hy
      rw [Nat.add_mul, Nat.one_mul] at h1
      rw [Nat.mul_comm P H]; omega
    have := hin (y * P + x) (by rw [hcl]; exact hlt)
    omega
  have hT : ∀ i, tileAt ts cells i = ts[(cells[i]?.getD 0).toNat]?.getD default := fun _ => rfl
  have hmem : ∀ y x, y < H → x < P → tileAt ts cells (y * P + x) ∈ ts := fun y x hy hx => by
    rw [hT, List.getElem?_eq_getElem (hk y x hy hx)]; exact List.getElem_mem _
  -- a row's factor
  have hfac : ∀ y x, y < H → x < P → Eqf (fr W.factors (cells[y * P + x]?.getD 0).toNat) (fr W.factors (cells[y * P]?.getD 0).toNat) := by
    intro y x hy
    induction x with
    | zero => intro _; rfl
    | succ x ih =>
      intro hx
      have h1 := ih (by omega)
      have h2 := (hfit y x hy (by omega)).1
      rw [Nat.mod_eq_of_lt hx, hT, hT] at h2
      have h3 := cond2_same V c2 (hk y (x + 1) hy hx) (hk y x hy (by omega)) h2
      exact Eqf.trans (fr_den (by rw [V.fl]; exact hk y x hy (by omega)) V.f) h3 h1
  have hden : ∀ i, i < ts.length → 1 ≤ (fr W.factors i).den := fun i hi => fr_den (by rw [V.fl]; exact hi) V.f
  have hnum : ∀ i, i < ts.length → 1 ≤ (fr W.factors i).num := fun i hi => by
    have h1 : i < W.factors.length := by rw [V.fl]; exact hi
    have := List.all_eq_true.1 V.fp _ (List.getElem_mem h1)
    rw [fr_eq h1] at this
    simp only [decide_eq_true_eq] at this
    omega
  obtain ⟨D, hD⟩ : ∃ D, comDen (W.values ++ W.carries) = D := ⟨_, rfl⟩
  obtain ⟨A, hA⟩ : ∃ A : Nat → Frac, ∀ y, A y = fr W.factors (cells[y * P]?.getD 0).toNat := ⟨fun y => fr W.factors (cells[y * P]?.getD 0).toNat, fun _ => rfl⟩
  obtain ⟨XS, hXS⟩ : ∃ XS : Nat → Nat → Int, ∀ y x, XS y x = scaled D (fr W.values (tileAt ts cells (y * P + x)).S.toNat) := ⟨fun y x => scaled D (fr W.values (tileAt ts cells (y * P + x)).S.toNat), fun _ _ => rfl⟩
  obtain ⟨XW, hXW⟩ : ∃ XW : Nat → Nat → Int, ∀ y x, XW y x = scaled D (fr W.carries (tileAt ts cells (y * P + x)).W.toNat) := ⟨fun y x => scaled D (fr W.carries (tileAt ts cells (y * P + x)).W.toNat), fun _ _ => rfl⟩
  -- one row's law
  have hrow : ∀ y, y < H → (A y).num * sumN (XS y) P = (A y).den * sumN (XS ((y + 1) % H)) P := by
    intro y hy
    have hk0 := hk y 0 hy hP
    rw [Nat.add_zero] at hk0
    have hbal : ∀ x, x < P → (A y).num * XS y x + (A y).den * XW y x = (A y).den * XS ((y + 1) % H) x + (A y).den * XW y ((x + 1) % P) := by
      intro x hx
      have h1 := tile_bal V c1 (hk y x hy hx)
      have h2 := hfit y x hy hx
      have h3 := hfac y x hy hx
      have h4 := hden _ (hk y x hy hx)
      have h5 := hden _ hk0
      rw [hD, ← hT, h2.1, h2.2, ← hXS, ← hXW, ← hXS, ← hXW] at h1
      rw [← hA] at h3 h5
      unfold Eqf at h3
      generalize fr W.factors (cells[y * P + x]?.getD 0).toNat = F at *
      refine Int.eq_of_mul_eq_mul_right (a := F.den) (by omega) ?_
      grind
    have hs := sumN_lin (A y).num (A y).den (XS y) (XW y) (XS ((y + 1) % H)) (fun x => XW y ((x + 1) % P)) P hbal
    rw [sumN_shift (XW y) P hP] at hs
    omega
  -- all rows together
  have hall : ∀ k, k ≤ H → prodN (fun j => (A j).num) k * sumN (XS 0) P = prodN (fun j => (A j).den) k * sumN (XS (k % H)) P := by
    intro k
    induction k with
    | zero => intro _; simp [prodN]
    | succ k ih =>
      intro hk1
      have h1 := ih (by omega)
      have h2 := hrow k (by omega)
      rw [Nat.mod_eq_of_lt (by omega)] at h1
      simp only [prodN]
      grind
  have hlast := hall H (Nat.le_refl _)
  rw [Nat.mod_self] at hlast
  have hg : ∀ i, i < H → 1 ≤ (A i).num ∧ 1 ≤ (A i).den ∧ wex W (A i).den W.primes.length < wex W (A i).num W.primes.length := by
    intro i hi
    have hk0 := hk i 0 hi hP
    rw [Nat.add_zero] at hk0
    rw [hA]
    have h1 : (cells[i * P]?.getD 0).toNat < W.factors.length := by rw [V.fl]; exact hk0
    have hm : fr W.factors (cells[i * P]?.getD 0).toNat ∈ W.factors := by rw [← fr_eq h1]; exact List.getElem_mem h1
    exact ⟨hnum _ hk0, hden _ hk0, grows_wex V.pr (fr_ok h1 V.f) (by have := hnum _ hk0; omega) (List.all_eq_true.1 c4 _ hm)⟩
  have hw := wex_prod V.pr (fun j => (A j).num) (fun j => (A j).den) H hg
  by_cases hz : sumN (XS 0) P = 0
  · -- the row of zeros
    have hge : ∀ x, x < P → 0 ≤ XS 0 x := by
      intro x hx
      rw [hXS, scaled]
      have hT1 := V.inn (tileAt ts cells (0 * P + x)) (hmem 0 x hH hx)
      have hm : fr W.values (tileAt ts cells (0 * P + x)).S.toNat ∈ W.values := by rw [← fr_eq hT1.s1]; exact List.getElem_mem hT1.s1
      have h0 : 0 ≤ (fr W.values (tileAt ts cells (0 * P + x)).S.toNat).num := by simpa using List.all_eq_true.1 V.vn _ hm
      have hd1 := fr_den hT1.s1 V.v
      have hDp : 1 ≤ D := by rw [← hD]; exact comDen_pos (by rw [List.all_append, V.v, V.c]; rfl)
      exact Int.mul_nonneg h0 (Int.ediv_nonneg (by omega) (by omega))
    have hzero := sumN_zero P hge hz
    have hzs : ∀ x, x < P → tileAt ts cells (0 * P + x) ∈ ts.filter (zeroS W) := by
      intro x hx
      have hmem := hmem 0 x hH hx
      have hT1 := V.inn _ hmem
      rw [List.mem_filter]
      refine ⟨hmem, ?_⟩
      have h0 := hzero x hx
      rw [hXS, scaled] at h0
      have hd1 := fr_den hT1.s1 V.v
      have hDp : 1 ≤ D := by rw [← hD]; exact comDen_pos (by rw [List.all_append, V.v, V.c]; rfl)
      have hdv : (fr W.values (tileAt ts cells (0 * P + x)).S.toNat).den ∣ D := by
        rw [← hD]; exact comDen_dvd (List.mem_append.2 (.inl (by rw [← fr_eq hT1.s1]; exact List.getElem_mem hT1.s1)))
      have hq : D / (fr W.values (tileAt ts cells (0 * P + x)).S.toNat).den ≠ 0 := by
        intro e
        have := Int.mul_ediv_cancel' hdv
        rw [e] at this; omega
      rw [zeroS, decide_eq_true_eq]
      rcases Int.mul_eq_zero.1 h0 with h | h
      · exact h
      · exact absurd h hq
    have hfalse := acyc_closed (fun t => ∃ x, x < P ∧ t = tileAt ts cells (0 * P + x))
      (by
        rintro t ⟨x, hx, rfl⟩
        exact ⟨_, ⟨(x + 1) % P, Nat.mod_lt _ hP, rfl⟩, (hfit 0 x hH hx).1.symm⟩)
      (tileAt ts cells (0 * P + 0)) ⟨0, hP, rfl⟩ (ts.filter (zeroS W)).length (ts.filter (zeroS W)) (by
        rintro t ⟨x, hx, rfl⟩
        exact hzs x hx)
    rw [cond3, acyclicB, hfalse] at c3
    cases c3
  · have := Int.eq_of_mul_eq_mul_right hz hlast
    rw [this] at hw
    omega
end Go.Proofs.YtlcbgcieedbggaaDoor
