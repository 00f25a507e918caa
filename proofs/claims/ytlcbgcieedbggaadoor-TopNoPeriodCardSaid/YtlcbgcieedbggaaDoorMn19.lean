/- Texts of this claim, one behind the other: Na. -/
import Derived.Test.YtlcbgcieedbggaaDoorMn8
set_option linter.unusedVariables false
set_option linter.unusedSimpArgs false
namespace Go.Proofs.YtlcbgcieedbggaaDoor
open Go Go.RowKit

theorem prime_div {q d : Int} (hq : PrimeP q) (hd : 2 ≤ d) (h : q % d = 0) : d = q := by
  have h1 : d * (q / d) = q := by have := Int.mul_ediv_add_emod q d; omega
  have hq2 := hq.1
  by_cases hh : q / d = 1
  · rw [hh] at h1; omega
  · exfalso
    have hpos : 0 < q / d := by
      refine Int.not_le.1 fun hn => ?_
      have := Int.mul_le_mul_of_nonneg_left hn (show 0 ≤ d by omega)
      omega
    have h2 : 2 ≤ q / d := by omega
    generalize q / d = e at *
    by_cases hde : d ≤ e
    · have := Int.mul_le_mul_of_nonneg_left hde (show 0 ≤ d by omega)
      exact hq.2 d hd (by omega) h
    · have := Int.mul_le_mul_of_nonneg_right (show e ≤ d by omega) (show 0 ≤ e by omega)
      refine hq.2 e h2 (by omega) ?_
      rw [← h1]; exact Int.mul_emod_left d e
theorem prime_mul {p a b : Int} (hp : PrimeP p) (h : a * b % p = 0) : a % p = 0 ∨ b % p = 0 := by
  have hp2 := hp.1
  have hg : (Int.gcd p a : Int) ∣ p := Int.gcd_dvd_left ..
  have hga : (Int.gcd p a : Int) ∣ a := Int.gcd_dvd_right ..
  have hpos : 0 < Int.gcd p a := Int.gcd_pos_of_ne_zero_left _ (by omega)
  by_cases h1 : Int.gcd p a = 1
  · right
    have hd : p ∣ a * b := Int.dvd_of_emod_eq_zero h
    have h2 : p.natAbs ∣ a.natAbs * b.natAbs := by rw [← Int.natAbs_mul]; exact Int.natAbs_dvd_natAbs.2 hd
    have h3 : Nat.Coprime p.natAbs a.natAbs := h1
    exact Int.emod_eq_zero_of_dvd (Int.natAbs_dvd_natAbs.1 (h3.dvd_of_dvd_mul_left h2))
  · left
    have := prime_div hp (d := (Int.gcd p a : Int)) (by omega) (Int.emod_eq_zero_of_dvd hg)
    rw [this] at hga
    exact Int.emod_eq_zero_of_dvd hga

def cnt (p n : Int) : Int := (dOut p n).2
theorem cnt_go {p n : Int} (hp : 2 ≤ p) (hn : 1 ≤ n) (h : n % p = 0) : cnt p n = cnt p (n / p) + 1 := by unfold cnt; rw [dOut_go hp hn h]
theorem cnt_stop {p n : Int} (h : ¬ n % p = 0) : cnt p n = 0 := by unfold cnt; rw [dOut_stop h]
theorem mul_pos1 {a b : Int} (ha : 1 ≤ a) (hb : 1 ≤ b) : 1 ≤ a * b := by
  have := Int.mul_le_mul ha hb (by omega) (by omega)
  omega
theorem cnt_mul {p : Int} (hp : PrimeP p) : ∀ (k : Nat) (a b : Int), 1 ≤ a → 1 ≤ b → a.toNat + b.toNat ≤ k → cnt p (a * b) = cnt p a + cnt p b := by
  have hp2 := hp.1
  intro k
  induction k with
  | zero => intro a b ha hb hk; omega
  | succ k ih =>
    intro a b ha hb hk
    have hab := mul_pos1 ha hb
    by_cases h1 : a % p = 0
    · obtain ⟨g1, g2⟩ := div_less hp2 ha h1
      have e1 : p * (a / p) = a := by have := Int.mul_ediv_add_emod a p; omega
      have e2 : a * b = p * (a / p * b) := by rw [← Int.mul_assoc, e1]
      have hm : a * b % p = 0 := by rw [e2]; exact Int.mul_emod_right p _
      have hd : a * b / p = a / p * b := by rw [e2]; exact Int.mul_ediv_cancel_left _ (by omega)
      rw [cnt_go hp2 hab hm, cnt_go hp2 ha h1, hd, ih (a / p) b g1 hb (by omega)]
      omega
    · by_cases h2 : b % p = 0
      · obtain ⟨g1, g2⟩ := div_less hp2 hb h2
        have e1 : p * (b / p) = b := by have := Int.mul_ediv_add_emod b p; omega
        have e2 : a * b = p * (a * (b / p)) := by rw [Int.mul_left_comm, e1]
        have hm : a * b % p = 0 := by rw [e2]; exact Int.mul_emod_right p _
        have hd : a * b / p = a * (b / p) := by rw [e2]; exact Int.mul_ediv_cancel_left _ (by omega)
        rw [cnt_go hp2 hab hm, cnt_go hp2 hb h2, hd, ih a (b / p) ha g1 (by omega)]
        omega
      · have hm : ¬ a * b % p = 0 := fun h => (prime_mul hp h).elim h1 h2
        rw [cnt_stop hm, cnt_stop h1, cnt_stop h2]
        rfl
theorem cnt_one {p : Int} (hp : 2 ≤ p) : cnt p 1 = 0 := cnt_stop (by rw [Int.emod_eq_of_lt (by omega) (by omega)]; omega)
theorem cnt_self {p : Int} (hp : 2 ≤ p) : cnt p p = 1 := by
  rw [cnt_go hp (by omega) (Int.emod_self), Int.ediv_self (by omega), cnt_one hp]; rfl
theorem cnt_other {p q : Int} (hp : 2 ≤ p) (hq : PrimeP q) (hne : p ≠ q) : cnt p q = 0 := cnt_stop fun h => hne (prime_div hq hp h)

/-- The weighted exponents of n at the first k primes. -/
def wex (W : Wt) (n : Int) : Nat → Int
  | 0 => 0
  | k + 1 => wex W n k + cnt (W.primes[k]?.getD 0) n * (W.logs[k]?.getD 0)
theorem getP {W : Wt} {k : Nat} (h : k < W.primes.length) : W.primes[k]?.getD 0 = W.primes[k] := by simp [h]
theorem wex_mul {W : Wt} (hP : PrimesTo W W.primes.length) {a b : Int} (ha : 1 ≤ a) (hb : 1 ≤ b) : ∀ k, k ≤ W.primes.length → wex W (a * b) k = wex W a k + wex W b k := by
  intro k
  induction k with
  | zero => intro _; rfl
  | succ k ih =>
    intro hk
    obtain ⟨h1, _, h2, _⟩ := hP k (by omega) (by omega)
    simp only [wex, getP (show k < W.primes.length by omega)]
    rw [ih (by omega), cnt_mul h2 _ a b ha hb (Nat.le_refl _), Int.add_mul]
    omega
theorem wex_one {W : Wt} (hP : PrimesTo W W.primes.length) : ∀ k, k ≤ W.primes.length → wex W 1 k = 0 := by
  intro k
  induction k with
  | zero => intro _; rfl
  | succ k ih =>
    intro hk
    obtain ⟨h1, _⟩ := hP k (by omega) (by omega)
    simp only [wex, getP (show k < W.primes.length by omega)]
    rw [ih (by omega), cnt_one h1]; simp
theorem wex_prime {W : Wt} (hP : PrimesTo W W.primes.length) {i : Nat} (hi : i < W.primes.length) : ∀ k, k ≤ W.primes.length → wex W W.primes[i] k = if i < k then W.logs[i]?.getD 0 else 0 := by
  intro k
  induction k with
  | zero => intro _; simp [wex]
  | succ k ih =>
    intro hk
    have hkl : k < W.primes.length := by omega
    obtain ⟨h1, _, h2, h3, _⟩ := hP k hkl (by omega)
    obtain ⟨i1, _, i2, i3, _⟩ := hP i hi (by omega)
    simp only [wex, getP hkl]
    rw [ih (by omega)]
    by_cases e : i = k
    · subst e
      rw [cnt_self h1]; simp
    · have hne : W.primes[k] ≠ W.primes[i] := by
        intro he
        rcases Nat.lt_or_ge i k with h | h
        · exact h3 (by rw [he]; exact List.mem_take_iff_getElem.2 ⟨i, by omega, rfl⟩)
        · exact i3 (by rw [← he]; exact List.mem_take_iff_getElem.2 ⟨k, by omega, rfl⟩)
      rw [cnt_other h1 i2 hne]
      by_cases hl : i < k
      · rw [if_pos hl, if_pos (by omega)]; simp
      · rw [if_neg hl, if_neg (by omega)]; simp
/-- Dividing a prime out. -/
theorem wex_out {W : Wt} (hP : PrimesTo W W.primes.length) {i : Nat} (hi : i < W.primes.length) : ∀ (k : Nat) (n : Int), 1 ≤ n → n.toNat ≤ k →
    1 ≤ (dOut W.primes[i] n).1 ∧ wex W n W.primes.length = (dOut W.primes[i] n).2 * (W.logs[i]?.getD 0) + wex W (dOut W.primes[i] n).1 W.primes.length := by
  obtain ⟨i1, _, i2, _⟩ := hP i hi (by omega)
  intro k
  induction k with
  | zero => intro n hn hk; omega
  | succ k ih =>
    intro n hn hk
    by_cases h : n % W.primes[i] = 0
    · obtain ⟨g1, g2⟩ := div_less i1 hn h
      obtain ⟨r1, r2⟩ := ih (n / W.primes[i]) g1 (by omega)
      rw [dOut_go i1 hn h]
      refine ⟨r1, ?_⟩
      have e1 : W.primes[i] * (n / W.primes[i]) = n := by have := Int.mul_ediv_add_emod n W.primes[i]; omega
      have e2 := wex_mul hP (a := W.primes[i]) (b := n / W.primes[i]) (by omega) g1 W.primes.length (Nat.le_refl _)
      rw [e1, wex_prime hP hi _ (Nat.le_refl _), if_pos hi, r2] at e2
      rw [e2]
      dsimp only
      rw [Int.add_mul, Int.one_mul]
      omega
    · rw [dOut_stop h]
      exact ⟨hn, by simp⟩
theorem gTo_wex {W : Wt} (hP : PrimesTo W W.primes.length) {f : Frac} (h1 : 1 ≤ (lowest f).num) (h2 : 1 ≤ (lowest f).den) : ∀ k, k ≤ W.primes.length →
    1 ≤ (gTo f W k).num ∧ 1 ≤ (gTo f W k).den ∧ (gTo f W k).sum = wex W (lowest f).num W.primes.length - wex W (gTo f W k).num W.primes.length - (wex W (lowest f).den W.primes.length - wex W (gTo f W k).den W.primes.length) := by
  intro k
  induction k with
  | zero => intro _; refine ⟨h1, h2, ?_⟩; simp [gTo]
  | succ k ih =>
    intro hk
    have hkl : k < W.primes.length := by omega
    obtain ⟨a1, a2, a3⟩ := ih (by omega)
    obtain ⟨n1, n2⟩ := wex_out hP hkl _ (gTo f W k).num a1 (Nat.le_refl _)
    obtain ⟨d1, d2⟩ := wex_out hP hkl _ (gTo f W k).den a2 (Nat.le_refl _)
    simp only [gTo, gStep, getP hkl]
    refine ⟨n1, d1, ?_⟩
    rw [a3, n2, d2]
    omega
/-- A factor that grows: its weighted exponents have a positive sum. -/
theorem grows_wex {W : Wt} (hP : PrimesTo W W.primes.length) {f : Frac} (hf : fracOk f = true) (hp : 0 < f.num) (hg : growsB f W = true) : wex W f.den W.primes.length < wex W f.num W.primes.length := by
  obtain ⟨m1, _, m3, _⟩ := lowest_pos hf hp
  obtain ⟨_, _, g3⟩ := gTo_wex hP m1 m3 _ (Nat.le_refl _)
  simp only [growsB, Bool.and_eq_true, decide_eq_true_eq] at hg
  obtain ⟨⟨e1, e2⟩, e3⟩ := hg
  rw [e1, e2, wex_one hP _ (Nat.le_refl _)] at g3
  obtain ⟨b1, _⟩ := frac_bounds hf
  -- f.num = g * num0, f.den = g * den0
  have hgp : 1 ≤ (Int.gcd f.num f.den : Int) := by
    have : 0 < Int.gcd f.num f.den := Int.gcd_pos_of_ne_zero_right _ (by omega)
    omega
  have hn : f.num = (Int.gcd f.num f.den : Int) * (lowest f).num := (Int.mul_tdiv_cancel' (Int.gcd_dvd_left ..)).symm
  have hd : f.den = (Int.gcd f.num f.den : Int) * (lowest f).den := (Int.mul_tdiv_cancel' (Int.gcd_dvd_right ..)).symm
  have w1 := wex_mul hP hgp m1 W.primes.length (Nat.le_refl _)
  have w2 := wex_mul hP hgp m3 W.primes.length (Nat.le_refl _)
  rw [← hn] at w1
  rw [← hd] at w2
  omega
end Go.Proofs.YtlcbgcieedbggaaDoor
