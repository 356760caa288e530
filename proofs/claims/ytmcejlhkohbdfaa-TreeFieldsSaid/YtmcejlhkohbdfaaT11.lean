/- Which of two numbers is the greater one; nodes alike. -/
import Derived.Test.YtmcejlhkohbdfaaT10
import Derived.Test.YtmcejlhkohbdfaaW1
set_option linter.unusedVariables false
set_option linter.unusedSimpArgs false
namespace Go.Proofs.Ytmcejlhkohbdfaa
open Go Go.Ab Go.Num

theorem getD_w {a : List Nat} {i : Nat} (h : i < a.length) (d : AV) : (a.map fun x : Nat => AV.int .u32 (x : Int)).getD i d = .int .u32 (a.getD i 0 : Nat) := by simp [List.getD, h]

theorem trim_take_of {a : List Nat} {n : Nat} (hn : n ≤ a.length) (hz : ∀ k, n ≤ k → a.getD k 0 = 0) (h0 : 0 < n → a.getD (n - 1) 0 ≠ 0) : trim a = a.take n := by
  obtain ⟨m, h1, h2, h3, h4⟩ := trim_take a
  have : m = n := by
    rcases Nat.lt_trichotomy m n with h | h | h
    · exact absurd (h3 (n - 1) (by omega)) (h0 (by omega))
    · exact h
    · exact absurd (hz (m - 1) (by omega)) (h4 (by omega))
  rw [h2, this]

set_option maxHeartbeats 1000000 in
theorem c_trim (a : List Nat) (hl : a.length < 1000000) : PCalls Try.prog 36 [encW a] (encW (trim a)) := by
  refine pcalls_of_AW (pa := []) (fn := Try.f36) (ts := [2]) follows_mixed Try.func36 rfl rfl (by kernel_rfl) (by kernel_rfl) (by rw [Try.ntmps36]; simp) ?_
  simp only [go_sem, Nat.reduceAdd, Nat.reduceMul, Nat.reduceSub, Nat.reduceBEq, Nat.reduceEqDiff, Nat.reduceLeDiff, Nat.reduceLT, Int.reduceLT, Int.reduceLE, Int.reduceGE, Int.reduceGT, Int.reduceEq, Int.reduceBEq, Int.reduceNeg, Int.reduceToNat, reduceCtorEq, Nat.reducePow, Int.reducePow, ↓reduceIte, encW]
  refine AW_while (fun m st => m ≤ a.length ∧ (∀ k, m ≤ k → a.getD k 0 = 0) ∧ st.τ 0 = encW a ∧ st.τ 3 = .int .i64 m) a.length ?_ ?_
  · exact ⟨by omega, fun k hk => by simp [List.getD, List.getElem?_eq_none hk], by simp only [go_sem, Nat.reduceAdd, Nat.reduceMul, Nat.reduceSub, Nat.reduceBEq, Nat.reduceEqDiff, Nat.reduceLeDiff, Nat.reduceLT, Int.reduceLT, Int.reduceLE, Int.reduceGE, Int.reduceGT, Int.reduceEq, Int.reduceBEq, Int.reduceNeg, Int.reduceToNat, reduceCtorEq, Nat.reducePow, Int.reducePow, ↓reduceIte, encW], by simp only [go_sem, Nat.reduceAdd, Nat.reduceMul, Nat.reduceSub, Nat.reduceBEq, Nat.reduceEqDiff, Nat.reduceLeDiff, Nat.reduceLT, Int.reduceLT, Int.reduceLE, Int.reduceGE, Int.reduceGT, Int.reduceEq, Int.reduceBEq, Int.reduceNeg, Int.reduceToNat, reduceCtorEq, Nat.reducePow, Int.reducePow, ↓reduceIte]⟩
  · rintro m st ⟨hm, hz, h0, h3⟩ next
    by_cases hp : 0 < m
    · have hp' : ((0 : Int) < (m : Int)) := by omega
      have w1 : IntKind.i64.wrap ((m : Int) - 1) = ((m - 1 : Nat) : Int) := by rw [wrap64_id (by omega) (by omega)]; omega
      have hlt : ((m - 1 : Nat) : Int) < (a.length : Nat) := by omega
      have hg := getD_w (a := a) (i := m - 1) (by omega) .undef
      by_cases hw : a.getD (m - 1) 0 = 0
      · rw [hw] at hg
        simp only [go_sem, Nat.reduceAdd, Nat.reduceMul, Nat.reduceSub, Nat.reduceBEq, Nat.reduceEqDiff, Nat.reduceLeDiff, Nat.reduceLT, Int.reduceLT, Int.reduceLE, Int.reduceGE, Int.reduceGT, Int.reduceEq, Int.reduceBEq, Int.reduceNeg, Int.reduceToNat, reduceCtorEq, Nat.reducePow, Int.reducePow, ↓reduceIte, h0, h3, hp', encW, w1, hlt, hg, cast0]
        refine next (m - 1) _ (by omega) ⟨by omega, fun k hk => ?_, by simp only [go_sem, Nat.reduceAdd, Nat.reduceMul, Nat.reduceSub, Nat.reduceBEq, Nat.reduceEqDiff, Nat.reduceLeDiff, Nat.reduceLT, Int.reduceLT, Int.reduceLE, Int.reduceGE, Int.reduceGT, Int.reduceEq, Int.reduceBEq, Int.reduceNeg, Int.reduceToNat, reduceCtorEq, Nat.reducePow, Int.reducePow, ↓reduceIte, h0, encW], by simp only [go_sem, Nat.reduceAdd, Nat.reduceMul, Nat.reduceSub, Nat.reduceBEq, Nat.reduceEqDiff, Nat.reduceLeDiff, Nat.reduceLT, Int.reduceLT, Int.reduceLE, Int.reduceGE, Int.reduceGT, Int.reduceEq, Int.reduceBEq, Int.reduceNeg, Int.reduceToNat, reduceCtorEq, Nat.reducePow, Int.reducePow, ↓reduceIte, w1]⟩
        by_cases hkm : k = m - 1
        · rw [hkm]; exact hw
        · exact hz k (by omega)
      · have hne := beq_false_of (show ((a.getD (m - 1) 0 : Nat) : Int) ≠ 0 by omega)
        have hle : ((m : Nat) : Int) ≤ (a.length : Nat) := by omega
        simp only [go_sem, Nat.reduceAdd, Nat.reduceMul, Nat.reduceSub, Nat.reduceBEq, Nat.reduceEqDiff, Nat.reduceLeDiff, Nat.reduceLT, Int.reduceLT, Int.reduceLE, Int.reduceGE, Int.reduceGT, Int.reduceEq, Int.reduceBEq, Int.reduceNeg, Int.reduceToNat, reduceCtorEq, Nat.reducePow, Int.reducePow, ↓reduceIte, h0, h3, hp', encW, w1, hlt, hg, hne, hle]
        exact .mk (by simp only [go_sem, Nat.reduceAdd, Nat.reduceMul, Nat.reduceSub, Nat.reduceBEq, Nat.reduceEqDiff, Nat.reduceLeDiff, Nat.reduceLT, Int.reduceLT, Int.reduceLE, Int.reduceGE, Int.reduceGT, Int.reduceEq, Int.reduceBEq, Int.reduceNeg, Int.reduceToNat, reduceCtorEq, Nat.reducePow, Int.reducePow, ↓reduceIte, trim_take_of hm hz (fun _ => hw), List.map_take])
    · have hm0 : m = 0 := by omega
      subst hm0
      simp only [go_sem, Nat.reduceAdd, Nat.reduceMul, Nat.reduceSub, Nat.reduceBEq, Nat.reduceEqDiff, Nat.reduceLeDiff, Nat.reduceLT, Int.reduceLT, Int.reduceLE, Int.reduceGE, Int.reduceGT, Int.reduceEq, Int.reduceBEq, Int.reduceNeg, Int.reduceToNat, reduceCtorEq, Nat.reducePow, Int.reducePow, ↓reduceIte, h0, h3, cast0, encW, Int.natCast_nonneg]
      exact .mk (by simp only [go_sem, Nat.reduceAdd, Nat.reduceMul, Nat.reduceSub, Nat.reduceBEq, Nat.reduceEqDiff, Nat.reduceLeDiff, Nat.reduceLT, Int.reduceLT, Int.reduceLE, Int.reduceGE, Int.reduceGT, Int.reduceEq, Int.reduceBEq, Int.reduceNeg, Int.reduceToNat, reduceCtorEq, Nat.reducePow, Int.reducePow, ↓reduceIte, trim_take_of hm hz (fun h => absurd h hp), List.map_take])

end Go.Proofs.Ytmcejlhkohbdfaa
