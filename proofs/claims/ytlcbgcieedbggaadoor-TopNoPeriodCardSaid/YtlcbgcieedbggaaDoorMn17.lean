/- Texts of this claim, one behind the other: Nd. -/
import Derived.Test.YtlcbgcieedbggaaDoorMn11
set_option linter.unusedVariables false
set_option linter.unusedSimpArgs false
namespace Go.Proofs.YtlcbgcieedbggaaDoor
open Go Go.RowKit

def dblTs : List Tile := [⟨2, 0, 1, 0⟩]
def dblW : Wt := ⟨[⟨0, 1⟩, ⟨1, 1⟩, ⟨2, 1⟩], [⟨0, 1⟩], [⟨2, 1⟩], [2], [1]⟩
theorem dbl_primes : PrimesTo dblW dblW.primes.length := by
  intro i hi _
  have h0 : i = 0 := by simp [dblW] at hi; omega
  subst h0
  have e : dblW.primes[0] = 2 := rfl
  refine ⟨by rw [e]; decide, by rw [e]; decide, ⟨by rw [e]; decide, fun d hd hdd => ?_⟩, by simp, by decide, by decide⟩
  exfalso
  rw [e] at hdd
  have := Int.mul_le_mul hd hd (by omega) (by omega)
  omega
theorem dbl_valid : validW dblTs dblW = true := by
  have h1 : tilesValid dblTs = true := by decide
  have h2 : lensB dblTs dblW = true := by decide
  have h3 : fracsB dblW = true := by decide
  simp only [validW, h1, h2, h3, primesB_true.2 dbl_primes, Bool.and_self]
theorem dbl_check : checkB 2305843009213693951 2305843009213693921 2305843009213693907 dblTs dblW = true := by
  have h1 : cond1 2305843009213693951 2305843009213693921 2305843009213693907 dblTs dblW = true := by kernel_rfl
  have h2 : cond2 dblTs dblW = true := by kernel_rfl
  have h3 : cond3 dblTs dblW = true := by kernel_rfl
  have h4 : dblW.factors.all (growsB · dblW) = true := by kernel_rfl
  simp only [checkB, h1, h2, h3, h4, Bool.and_self]
end Go.Proofs.YtlcbgcieedbggaaDoor
