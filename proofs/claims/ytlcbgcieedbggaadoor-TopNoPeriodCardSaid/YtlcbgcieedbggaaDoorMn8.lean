/- Texts of this claim, one behind the other: Wg. -/
import Derived.Test.YtlcbgcieedbggaaDoorMn3
set_option linter.unusedVariables false
set_option linter.unusedSimpArgs false
namespace Go.Proofs.YtlcbgcieedbggaaDoor
open Go Go.RowKit

/-- n without its factors p, and how many there were. -/
def divOut (p : Int) : Nat → Int → Int × Int
  | 0, n => (n, 0)
  | k + 1, n => if n % p = 0 then ((divOut p k (n / p)).1, (divOut p k (n / p)).2 + 1) else (n, 0)
theorem div_less {p n : Int} (hp : 2 ≤ p) (hn : 1 ≤ n) (h : n % p = 0) : 1 ≤ n / p ∧ n / p < n := by
  have h1 : p * (n / p) = n := by have := Int.mul_ediv_add_emod n p; omega
  have h2 : 1 ≤ n / p := by
    refine Int.not_lt.1 fun h2 => ?_
    have h3 : n / p ≤ 0 := by omega
    have h4 := Int.mul_le_mul_of_nonneg_left h3 (show 0 ≤ p by omega)
    rw [h1] at h4; omega
  have h3 := Int.mul_le_mul_of_nonneg_right hp (show 0 ≤ n / p by omega)
  rw [h1] at h3
  omega
theorem divOut_stop {p n : Int} {k : Nat} (h : ¬ n % p = 0) : divOut p k n = (n, 0) := by cases k <;> simp [divOut, h]
/-- more fuel than n does not matter -/
theorem divOut_fuel {p : Int} (hp : 2 ≤ p) : ∀ (k j : Nat) (n : Int), 1 ≤ n → n.toNat ≤ k → n.toNat ≤ j → divOut p k n = divOut p j n := by
  intro k
  induction k with
  | zero => intro j n h1 h2; omega
  | succ k ih =>
    intro j n h1 h2 h3
    cases j with
    | zero => omega
    | succ j =>
      by_cases h : n % p = 0
      · obtain ⟨g1, g2⟩ := div_less hp h1 h
        simp only [divOut, h, if_true]
        rw [ih j (n / p) g1 (by omega) (by omega)]
      · rw [divOut_stop h, divOut_stop h]
def dOut (p n : Int) : Int × Int := divOut p n.toNat n
theorem dOut_stop {p n : Int} (h : ¬ n % p = 0) : dOut p n = (n, 0) := divOut_stop h
theorem dOut_go {p n : Int} (hp : 2 ≤ p) (hn : 1 ≤ n) (h : n % p = 0) : dOut p n = ((dOut p (n / p)).1, (dOut p (n / p)).2 + 1) := by
  obtain ⟨g1, g2⟩ := div_less hp hn h
  unfold dOut
  obtain ⟨k, hk⟩ : ∃ k, n.toNat = k + 1 := ⟨n.toNat - 1, by omega⟩
  rw [hk]
  simp only [divOut, h, if_true]
  rw [divOut_fuel hp k (n / p).toNat (n / p) g1 (by omega) (Nat.le_refl _)]

structure GS where
  num : Int
  den : Int
  sum : Int
/-- one prime -/
def gStep (g : GS) (p lg : Int) : GS := ⟨(dOut p g.num).1, (dOut p g.den).1, g.sum + (dOut p g.num).2 * lg - (dOut p g.den).2 * lg⟩
def gTo (f : Frac) (W : Wt) : Nat → GS
  | 0 => ⟨(lowest f).num, (lowest f).den, 0⟩
  | k + 1 => gStep (gTo f W k) (W.primes[k]?.getD 0) (W.logs[k]?.getD 0)
def growsB (f : Frac) (W : Wt) : Bool := decide ((gTo f W W.primes.length).num = 1) && decide ((gTo f W W.primes.length).den = 1) && decide (0 < (gTo f W W.primes.length).sum)

/-- What weight.grows holds while it runs: x in block Bx, the weights in block B1. -/
structure GI (w : World) (B1 Bx : Nat) (a3 a4 : Option Addr) (n3 c3 n4 c4 : Nat) (x y : Int) (wr : World) : Prop where
  kept : Kept w wr
  q3 : wr.cell? ⟨B1, 3, none⟩ = some (.slice a3 n3 c3)
  q4 : wr.cell? ⟨B1, 4, none⟩ = some (.slice a4 n4 c4)
  x0 : wr.cell? ⟨Bx, 0, none⟩ = some (.int .i64 x)
  x1 : wr.cell? ⟨Bx, 1, none⟩ = some (.int .i64 y)
  f0 : wr.frozen? ⟨Bx, 0, none⟩ = false
  f1 : wr.frozen? ⟨Bx, 1, none⟩ = false
theorem frozen_set (w : World) (a b : Addr) (v : Value) : (w.setCell a v).frozen? b = w.frozen? b := World.frozen?_setCell ..
theorem GI.set0 {w : World} {B1 Bx : Nat} {a3 a4 : Option Addr} {n3 c3 n4 c4 : Nat} {x y : Int} {wr : World} (h : GI w B1 Bx a3 a4 n3 c3 n4 c4 x y wr) (hne : B1 ≠ Bx) (hB : w.heap.size ≤ Bx) (z : Int) :
    GI w B1 Bx a3 a4 n3 c3 n4 c4 z y (wr.setCell ⟨Bx, 0, none⟩ (.int .i64 z)) :=
  ⟨h.kept.setCell hB _, (World.cell?_setCell_other _ _ _ _ (fun e => hne (congrArg Addr.block e).symm)).trans h.q3, (World.cell?_setCell_other _ _ _ _ (fun e => hne (congrArg Addr.block e).symm)).trans h.q4,
    World.cell?_setCell_same _ _ _ h.x0, (World.cell?_setCell_other _ _ _ _ (fun e => by cases e)).trans h.x1, (frozen_set ..).trans h.f0, (frozen_set ..).trans h.f1⟩
theorem GI.set1 {w : World} {B1 Bx : Nat} {a3 a4 : Option Addr} {n3 c3 n4 c4 : Nat} {x y : Int} {wr : World} (h : GI w B1 Bx a3 a4 n3 c3 n4 c4 x y wr) (hne : B1 ≠ Bx) (hB : w.heap.size ≤ Bx) (z : Int) :
    GI w B1 Bx a3 a4 n3 c3 n4 c4 x z (wr.setCell ⟨Bx, 1, none⟩ (.int .i64 z)) :=
  ⟨h.kept.setCell hB _, (World.cell?_setCell_other _ _ _ _ (fun e => hne (congrArg Addr.block e).symm)).trans h.q3, (World.cell?_setCell_other _ _ _ _ (fun e => hne (congrArg Addr.block e).symm)).trans h.q4,
    (World.cell?_setCell_other _ _ _ _ (fun e => by cases e)).trans h.x0, World.cell?_setCell_same _ _ _ h.x1, (frozen_set ..).trans h.f0, (frozen_set ..).trans h.f1⟩

theorem lowest_pos {f : Frac} (hf : fracOk f = true) (hp : 0 < f.num) : 1 ≤ (lowest f).num ∧ (lowest f).num ≤ 1000000 ∧ 1 ≤ (lowest f).den ∧ (lowest f).den ≤ 1000000 := by
  obtain ⟨h1, h2, h3, h4⟩ := frac_bounds hf
  have hg : 1 ≤ (Int.gcd f.num f.den : Int) := by
    have : 0 < Int.gcd f.num f.den := Int.gcd_pos_of_ne_zero_right _ (by omega)
    omega
  have hd : ∀ n : Int, 1 ≤ n → n ≤ 1000000 → ((Int.gcd f.num f.den : Nat) : Int) ∣ n → 1 ≤ n.tdiv (Int.gcd f.num f.den : Int) ∧ n.tdiv (Int.gcd f.num f.den : Int) ≤ 1000000 := by
    intro n hn1 hn2 hdv
    obtain ⟨c, hc⟩ := hdv
    generalize ((Int.gcd f.num f.den : Nat) : Int) = g at *
    subst hc
    rw [Int.mul_tdiv_cancel_left _ (by omega)]
    have h5 : 1 ≤ c := by
      refine Int.not_lt.1 fun h => ?_
      have := Int.mul_le_mul_of_nonneg_left (show c ≤ 0 by omega) (show 0 ≤ g by omega)
      omega
    have h6 := Int.mul_le_mul_of_nonneg_right hg (show 0 ≤ c by omega)
    omega
  exact ⟨(hd f.num (by omega) h4 (Int.gcd_dvd_left _ _)).1, (hd f.num (by omega) h4 (Int.gcd_dvd_left _ _)).2, (hd f.den h1 h2 (Int.gcd_dvd_right _ _)).1, (hd f.den h1 h2 (Int.gcd_dvd_right _ _)).2⟩

set_option maxHeartbeats 4000000 in
set_option maxRecDepth 100000 in
theorem growsCalls (f : Frac) (W : Wt) (hf : fracOk f = true) (hp : 0 < f.num) (hl : W.logs.length = W.primes.length) (h12 : W.primes.length ≤ 12) (hP : PrimesTo W W.primes.length) (a0 a1 a2 a3 a4 : Option Addr) (n0 n1 n2 c0 c1 c2 c3 c4 : Nat) (w : World)
    (h3 : SlA w 1 encI a3 W.primes) (h4 : SlA w 1 encI a4 W.logs) :
    Calls Tryd.prog 41 #[.agg #[.int .i64 f.num, .int .i64 f.den], .agg #[.slice a0 n0 c0, .slice a1 n1 c1, .slice a2 n2 c2, .slice a3 W.primes.length c3, .slice a4 W.logs.length c4]] w
      fun e w' => e = .returned (.bool (growsB f W)) ∧ Kept w w' := by
  have hk0 : ∀ o o', Kept w ((w.alloc o).alloc o') := fun o o' => ((Kept.refl w).alloc (Nat.le_refl _) o).alloc (by simp) o'
  obtain ⟨m1, m2, m3, m4⟩ := lowest_pos hf hp
  have HL := Lib.hid hl
  clear hl
  have l3 := h3.len
  go_enter Tryd.func41, Tryd.ntmps41
  go_upto_region 2 with (go_at_call 68; refine (lowestCalls f hf _).mono ?_; rintro e w' ⟨rfl, hb'⟩)
  have hs1 : w.heap.size + 1 < w'.heap.size := by have := hb'.size; simp at this; omega
  have hk1 : Kept w w' := (hk0 _ _).trans hb'
  have HG : GI w (w.heap.size + 1) w'.heap.size a3 a4 W.primes.length c3 W.logs.length c4 (lowest f).num (lowest f).den (w'.alloc (.cells #[.int .i64 (lowest f).num, .int .i64 (lowest f).den] 87)) := by
    refine ⟨hk1.trans ((Kept.refl w').alloc (Nat.le_refl _) _), ?_, ?_, by simp, by simp, by simp, by simp⟩
    · rw [World.cell?_alloc_lt _ _ _ hs1, (hb'.cells).1 _ _ (by simp)]; simp
    · rw [World.cell?_alloc_lt _ _ _ hs1, (hb'.cells).1 _ _ (by simp)]; simp
  have hBx : w.heap.size ≤ w'.heap.size := by omega
  have hne : w.heap.size + 1 ≠ w'.heap.size := by omega
  have HNE := Lib.hid hne
  clear hne hb' hs1 hk1
  generalize (w'.alloc (.cells #[.int .i64 (lowest f).num, .int .i64 (lowest f).den] 87)) = wx at HG ⊢
  generalize w'.heap.size = Bx at *
  obtain ⟨B1, hB1⟩ : ∃ B1, w.heap.size + 1 = B1 := ⟨_, rfl⟩
  rw [hB1] at HG HNE
  rw [hB1]
  clear hB1
  have q3 := HG.q3
  go_wp2_with (fail)
  clear q3
  have L0 := Lib.hid m1
  have L1 := Lib.hid m3
  clear m1 m3
  go_loopg [6, 7, 8, 14] W.primes.length (fun gg s6 _ _ s14 wr => ∃ (kk : Nat) (sum x y : Int), kk ≤ W.primes.length ∧ W.primes.length - kk ≤ gg ∧ s6 = .int .i64 sum ∧ s14 = .int .i64 kk ∧ 1 ≤ x ∧ 1 ≤ y ∧
    1000 * (x + y) - 2000000000 ≤ sum ∧ sum ≤ 2000000000 - 1000 * (x + y) ∧ Aside (GI w B1 Bx a3 a4 W.primes.length c3 W.logs.length c4 x y wr) ∧ Aside (gTo f W kk = ⟨x, y, sum⟩))
  case atStart => exact ⟨0, 0, (lowest f).num, (lowest f).den, Nat.zero_le _, by omega, rfl, rfl, L0.out, L1.out, by omega, by omega, HG, rfl⟩
  case round =>
    obtain ⟨kk, sum, x, y, hkk, hg, rfl, rfl, hx1, hy1, hb1, hb2, HG1, HT⟩ := hrel
    have HG1 := HG1.out
    by_cases hlt : kk < W.primes.length
    · obtain ⟨b, off, rfl, hb, r0⟩ := (h3.kept HG1.kept).int hlt
      have hltl : kk < W.logs.length := by rw [HL.out]; exact hlt
      obtain ⟨b', off', rfl, hb', r1⟩ := h4.int hltl
      have HLL := Lib.hid (show W.logs[kk]?.getD 0 = W.logs[kk] by simp [hltl])
      have HPK := Lib.hid (hP kk hlt hlt)
      have hp2 := HPK.out.1
      have hp6 := HPK.out.2.1
      have hl1 := HPK.out.2.2.2.2.1
      have hl2 := HPK.out.2.2.2.2.2
      have HPG := Lib.hid (show W.primes[kk]?.getD 0 = W.primes[kk] by simp [hlt])
      generalize hpp : W.primes[kk] = pp at r0 hp2 hp6 HPG
      generalize hlg : W.logs[kk]?.getD 0 = lg at hl1 hl2
      have HPP := Lib.hid hpp
      have HLG := Lib.hid hlg
      have R1 := Lib.hid (show w.cell? ⟨b', off' + kk, none⟩ = some (.int .i64 lg) by rw [← HLG.out, HLL.out]; exact r1)
      clear hpp hlg HPK r1
      have hpne : (pp == 0) = false := by simp; omega
      go_wp2_with (fail)
      go_loopg [6] x.toNat (fun gg s6 wr => ∃ s1 x1 : Int, 1 ≤ x1 ∧ x1.toNat ≤ gg ∧ s6 = .int .i64 s1 ∧ 1000 * (x1 + y) - 2000000000 ≤ s1 ∧ s1 ≤ 2000000000 - 1000 * (x1 + y) ∧
        Aside (GI w B1 Bx (some ⟨b, off, none⟩) (some ⟨b', off', none⟩) W.primes.length c3 W.logs.length c4 x1 y wr) ∧ Aside ((dOut pp x).1 = (dOut pp x1).1 ∧ sum + (dOut pp x).2 * lg = s1 + (dOut pp x1).2 * lg))
      case atStart => exact ⟨sum, x, hx1, Nat.le_refl _, rfl, hb1, hb2, HG1, rfl, rfl⟩
      case round =>
        clear hb1 hb2 hx1
        obtain ⟨s1, x1, hx1, hg1, rfl, hb1, hb2, HG2, HD⟩ := hrel
        have HG2 := HG2.out
        have q0 := HG2.x0
        have q1 := HG2.x1
        have q4 := HG2.q4
        have z0 := HG2.f0
        by_cases hm : x1 % pp = 0
        · obtain ⟨d1, d2⟩ := div_less hp2 hx1 hm
          have hmt : (x1 % pp == 0) = true := by simpa using hm
          have HGO := Lib.hid (dOut_go hp2 hx1 hm)
          clear hm
          go_upto_region 7 with (fail)
          go_upto_region 8 with (fail)
          have HG3 := HG2.set0 HNE.out hBx (x1 / pp)
          generalize wr.setCell ⟨Bx, 0, none⟩ (.int .i64 (x1 / pp)) = ws at HG3 ⊢
          have q4s := HG3.q4
          have R1s : ws.cell? ⟨b', off' + kk, none⟩ = some (.int .i64 lg) := (HG3.kept.cell hb').trans R1.out
          go_wp2_with (fail)
          go_roundg (x1 / pp).toNat
          case measure => omega
          case rel => exact ⟨s1 + lg, x1 / pp, d1, Nat.le_refl _, rfl, by omega, by omega, HG3, by rw [HD.out.1, HGO.out], by rw [HD.out.2, HGO.out]; simp only [Int.add_mul, Int.one_mul]; omega⟩
        · have hmt : (x1 % pp == 0) = false := by simpa using hm
          have HGS := Lib.hid (dOut_stop hm)
          clear hm
          have HDX := Lib.hid (show (dOut pp x).1 = x1 ∧ sum + (dOut pp x).2 * lg = s1 by rw [HD.out.1, HD.out.2, HGS.out]; simp)
          clear HD
          go_wp2_with (fail)
          clear hmt q0 q1 q4 z0
          go_loopg [6] y.toNat (fun gg s6 wr => ∃ s2 y1 : Int, 1 ≤ y1 ∧ y1.toNat ≤ gg ∧ s6 = .int .i64 s2 ∧ 1000 * (x1 + y1) - 2000000000 ≤ s2 ∧ s2 ≤ 2000000000 - 1000 * (x1 + y1) ∧
            Aside (GI w B1 Bx (some ⟨b, off, none⟩) (some ⟨b', off', none⟩) W.primes.length c3 W.logs.length c4 x1 y1 wr) ∧ Aside ((dOut pp y).1 = (dOut pp y1).1 ∧ s1 - (dOut pp y).2 * lg = s2 - (dOut pp y1).2 * lg))
          case atStart => exact ⟨s1, y, hy1, Nat.le_refl _, rfl, hb1, hb2, HG2, rfl, rfl⟩
          case round =>
            clear hb1 hb2 hy1
            obtain ⟨s2, y1, hy1, hg2, rfl, hb1, hb2, HG3, HD⟩ := hrel
            have HG3 := HG3.out
            have q0 := HG3.x0
            have q1 := HG3.x1
            have q4 := HG3.q4
            have z1 := HG3.f1
            by_cases hm : y1 % pp = 0
            · obtain ⟨d1, d2⟩ := div_less hp2 hy1 hm
              have hmt : (y1 % pp == 0) = true := by simpa using hm
              have HGO := Lib.hid (dOut_go hp2 hy1 hm)
              clear hm
              go_upto_region 10 with (fail)
              go_upto_region 11 with (fail)
              have HG4 := HG3.set1 HNE.out hBx (y1 / pp)
              generalize wr.setCell ⟨Bx, 1, none⟩ (.int .i64 (y1 / pp)) = ws at HG4 ⊢
              have q4s := HG4.q4
              have R1s : ws.cell? ⟨b', off' + kk, none⟩ = some (.int .i64 lg) := (HG4.kept.cell hb').trans R1.out
              go_wp2_with (fail)
              go_roundg (y1 / pp).toNat
              case measure => omega
              case rel => exact ⟨s2 - lg, y1 / pp, d1, Nat.le_refl _, rfl, by omega, by omega, HG4, by rw [HD.out.1, HGO.out], by rw [HD.out.2, HGO.out]; simp only [Int.add_mul, Int.one_mul]; omega⟩
            · have hmt : (y1 % pp == 0) = false := by simpa using hm
              have HGS := Lib.hid (dOut_stop hm)
              clear hm
              have HDY := Lib.hid (show (dOut pp y).1 = y1 ∧ s1 - (dOut pp y).2 * lg = s2 by rw [HD.out.1, HD.out.2, HGS.out]; simp)
              clear HD
              go_wp2_with (fail)
              go_roundg (W.primes.length - (kk + 1))
              case measure => omega
              case rel =>
                refine ⟨kk + 1, s2, x1, y1, by omega, by omega, rfl, by go_num, hx1, hy1, hb1, hb2, HG3, ?_⟩
                show gTo f W (kk + 1) = _
                simp only [gTo, gStep, HT.out, HPG.out, HLG.out, HDX.out.1, HDY.out.1, ← HDY.out.2, ← HDX.out.2]
    · obtain rfl : kk = W.primes.length := by omega
      have q0 := HG1.x0
      have q1 := HG1.x1
      have hk := HG1.kept
      have HR0 : growsB f W = (decide (x = 1) && decide (y = 1) && decide (0 < sum)) := by simp [growsB, HT.out]
      have HR := Lib.hid HR0
      clear HT HG1 HR0
      by_cases e1 : x = 1
      · subst e1
        by_cases e2 : y = 1
        · subst e2
          by_cases e3 : 0 < sum
          · have t3 : decide (0 < sum) = true := by simpa using e3
            go_wp2_with (fail)
            go_ret
            refine ⟨?_, hk⟩
            rw [HR.out]
            simp only [t3]; rfl
          · have t3 : decide (0 < sum) = false := by simpa using e3
            go_wp2_with (fail)
            go_ret
            refine ⟨?_, hk⟩
            rw [HR.out]
            simp only [t3]; rfl
        · have t2 : (y == 1) = false := by simpa using e2
          have t2' : decide (y = 1) = false := by simpa using e2
          go_wp2_with (fail)
          go_ret
          refine ⟨?_, hk⟩
          rw [HR.out]
          simp only [t2']; rfl
      · have t1 : (x == 1) = false := by simpa using e1
        have t1' : decide (x = 1) = false := by simpa using e1
        go_wp2_with (fail)
        go_ret
        refine ⟨?_, hk⟩
        rw [HR.out]
        simp only [t1']; rfl
end Go.Proofs.YtlcbgcieedbggaaDoor
