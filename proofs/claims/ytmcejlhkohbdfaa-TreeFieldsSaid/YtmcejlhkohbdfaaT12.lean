/- Which of two numbers is the greater one: both ways. -/
import Derived.Test.YtmcejlhkohbdfaaT11
set_option linter.unusedVariables false
set_option linter.unusedSimpArgs false
namespace Go.Proofs.Ytmcejlhkohbdfaa
open Go Go.Ab Go.Num

theorem c_at (a : List Nat) (i : Nat) (hi : i < 1000000) : PCalls Try.prog 35 [encW a, .int .i64 i] (.int .u32 (a.getD i 0 : Nat)) := by
  refine pcalls_of_AW (pa := []) (fn := Try.f35) (ts := [4]) follows_mixed Try.func35 rfl rfl (by kernel_rfl) (by kernel_rfl) (by rw [Try.ntmps35]; simp) ?_
  by_cases h : i < a.length
  · have hlt : ((i : Nat) : Int) < (a.length : Nat) := by omega
    simp only [go_sem, Nat.reduceAdd, Nat.reduceMul, Nat.reduceSub, Nat.reduceBEq, Nat.reduceEqDiff, Nat.reduceLeDiff, Nat.reduceLT, Int.reduceLT, Int.reduceLE, Int.reduceGE, Int.reduceGT, Int.reduceEq, Int.reduceBEq, Int.reduceNeg, Int.reduceToNat, reduceCtorEq, Nat.reducePow, Int.reducePow, ↓reduceIte, encW, hlt, getD_w h]
    exact .mk (by simp only [go_sem, Nat.reduceAdd, Nat.reduceMul, Nat.reduceSub, Nat.reduceBEq, Nat.reduceEqDiff, Nat.reduceLeDiff, Nat.reduceLT, Int.reduceLT, Int.reduceLE, Int.reduceGE, Int.reduceGT, Int.reduceEq, Int.reduceBEq, Int.reduceNeg, Int.reduceToNat, reduceCtorEq, Nat.reducePow, Int.reducePow, ↓reduceIte])
  · have hlt := dec_false (show ¬ ((i : Nat) : Int) < (a.length : Nat) by omega)
    simp only [go_sem, Nat.reduceAdd, Nat.reduceMul, Nat.reduceSub, Nat.reduceBEq, Nat.reduceEqDiff, Nat.reduceLeDiff, Nat.reduceLT, Int.reduceLT, Int.reduceLE, Int.reduceGE, Int.reduceGT, Int.reduceEq, Int.reduceBEq, Int.reduceNeg, Int.reduceToNat, reduceCtorEq, Nat.reducePow, Int.reducePow, ↓reduceIte, encW, hlt]
    exact .mk (by simp only [go_sem, Nat.reduceAdd, Nat.reduceMul, Nat.reduceSub, Nat.reduceBEq, Nat.reduceEqDiff, Nat.reduceLeDiff, Nat.reduceLT, Int.reduceLT, Int.reduceLE, Int.reduceGE, Int.reduceGT, Int.reduceEq, Int.reduceBEq, Int.reduceNeg, Int.reduceToNat, reduceCtorEq, Nat.reducePow, Int.reducePow, ↓reduceIte, List.getD, List.getElem?_eq_none (Nat.le_of_not_lt h), Option.getD_none]; rfl)

set_option maxHeartbeats 1000000 in
theorem c_ncmp (a b : List Nat) (ha : Wd a) (hb : Wd b) (hla : a.length < 1000000) (hlb : b.length < 1000000) : PCalls Try.prog 34 [encW a, encW b] (.int .i64 (cmpN (val a) (val b))) := by
  rw [← val_trim a, ← val_trim b]
  refine pcalls_of_AW (pa := []) (fn := Try.f34) (ts := [4]) follows_mixed Try.func34 rfl rfl (by kernel_rfl) (by kernel_rfl) (by rw [Try.ntmps34]; simp) ?_
  simp only [go_sem, Nat.reduceAdd, Nat.reduceMul, Nat.reduceSub, Nat.reduceBEq, Nat.reduceEqDiff, Nat.reduceLeDiff, Nat.reduceLT, Int.reduceLT, Int.reduceLE, Int.reduceGE, Int.reduceGT, Int.reduceEq, Int.reduceBEq, Int.reduceNeg, Int.reduceToNat, reduceCtorEq, Nat.reducePow, Int.reducePow, ↓reduceIte]
  refine callS_p (c_trim a hla) ?_
  simp only [go_sem, Nat.reduceAdd, Nat.reduceMul, Nat.reduceSub, Nat.reduceBEq, Nat.reduceEqDiff, Nat.reduceLeDiff, Nat.reduceLT, Int.reduceLT, Int.reduceLE, Int.reduceGE, Int.reduceGT, Int.reduceEq, Int.reduceBEq, Int.reduceNeg, Int.reduceToNat, reduceCtorEq, Nat.reducePow, Int.reducePow, ↓reduceIte]
  refine callS_p (c_trim b hlb) ?_
  have hxa : (trim a).length < 1000000 := by obtain ⟨n, h1, h2, _⟩ := trim_take a; rw [h2]; simp; omega
  have hxb : (trim b).length < 1000000 := by obtain ⟨n, h1, h2, _⟩ := trim_take b; rw [h2]; simp; omega
  have na := nrm_trim ha
  have nb := nrm_trim hb
  generalize trim a = x at *
  generalize trim b = y at *
  rcases Nat.lt_trichotomy x.length y.length with hl | hl | hl
  · have h1 := dec_true (show ((x.length : Nat) : Int) < (y.length : Nat) by omega)
    simp only [go_sem, Nat.reduceAdd, Nat.reduceMul, Nat.reduceSub, Nat.reduceBEq, Nat.reduceEqDiff, Nat.reduceLeDiff, Nat.reduceLT, Int.reduceLT, Int.reduceLE, Int.reduceGE, Int.reduceGT, Int.reduceEq, Int.reduceBEq, Int.reduceNeg, Int.reduceToNat, reduceCtorEq, Nat.reducePow, Int.reducePow, ↓reduceIte, encW, h1]
    exact .mk (by simp only [go_sem, Nat.reduceAdd, Nat.reduceMul, Nat.reduceSub, Nat.reduceBEq, Nat.reduceEqDiff, Nat.reduceLeDiff, Nat.reduceLT, Int.reduceLT, Int.reduceLE, Int.reduceGE, Int.reduceGT, Int.reduceEq, Int.reduceBEq, Int.reduceNeg, Int.reduceToNat, reduceCtorEq, Nat.reducePow, Int.reducePow, ↓reduceIte, cmpN_lt (nrm_lt na nb hl)])
  · have h1 := dec_false (show ¬ ((x.length : Nat) : Int) < (y.length : Nat) by omega)
    have h2 := dec_false (show ¬ ((y.length : Nat) : Int) < (x.length : Nat) by omega)
    have w1 : IntKind.i64.wrap ((x.length : Int) - 1) = (x.length : Int) - 1 := wrap64_id (by omega) (by omega)
    simp only [go_sem, Nat.reduceAdd, Nat.reduceMul, Nat.reduceSub, Nat.reduceBEq, Nat.reduceEqDiff, Nat.reduceLeDiff, Nat.reduceLT, Int.reduceLT, Int.reduceLE, Int.reduceGE, Int.reduceGT, Int.reduceEq, Int.reduceBEq, Int.reduceNeg, Int.reduceToNat, reduceCtorEq, Nat.reducePow, Int.reducePow, ↓reduceIte, encW, h1, h2, w1]
    refine AW_while (fun m st => m ≤ x.length ∧ (∀ k, m ≤ k → x.getD k 0 = y.getD k 0) ∧ st.τ 0 = encW x ∧ st.τ 1 = encW y ∧ st.τ 5 = .int .i64 ((m : Int) - 1)) x.length ?_ ?_
    · refine ⟨by omega, fun k hk => ?_, by simp only [go_sem, Nat.reduceAdd, Nat.reduceMul, Nat.reduceSub, Nat.reduceBEq, Nat.reduceEqDiff, Nat.reduceLeDiff, Nat.reduceLT, Int.reduceLT, Int.reduceLE, Int.reduceGE, Int.reduceGT, Int.reduceEq, Int.reduceBEq, Int.reduceNeg, Int.reduceToNat, reduceCtorEq, Nat.reducePow, Int.reducePow, ↓reduceIte, encW], by simp only [go_sem, Nat.reduceAdd, Nat.reduceMul, Nat.reduceSub, Nat.reduceBEq, Nat.reduceEqDiff, Nat.reduceLeDiff, Nat.reduceLT, Int.reduceLT, Int.reduceLE, Int.reduceGE, Int.reduceGT, Int.reduceEq, Int.reduceBEq, Int.reduceNeg, Int.reduceToNat, reduceCtorEq, Nat.reducePow, Int.reducePow, ↓reduceIte, encW], by simp only [go_sem, Nat.reduceAdd, Nat.reduceMul, Nat.reduceSub, Nat.reduceBEq, Nat.reduceEqDiff, Nat.reduceLeDiff, Nat.reduceLT, Int.reduceLT, Int.reduceLE, Int.reduceGE, Int.reduceGT, Int.reduceEq, Int.reduceBEq, Int.reduceNeg, Int.reduceToNat, reduceCtorEq, Nat.reducePow, Int.reducePow, ↓reduceIte]⟩
      simp [List.getD, List.getElem?_eq_none hk, List.getElem?_eq_none (show y.length ≤ k by omega)]
    · rintro m st ⟨hm, hz, h0, h1, h5⟩ next
      by_cases hp : 0 < m
      · have hp' : ((0 : Int) ≤ (m : Int) - 1) := by omega
        have e1 : ((m : Int) - 1) = ((m - 1 : Nat) : Int) := by omega
        have hltx : ((m - 1 : Nat) : Int) < (x.length : Nat) := by omega
        have hlty : ((m - 1 : Nat) : Int) < (y.length : Nat) := by omega
        have hgx := getD_w (a := x) (i := m - 1) (by omega) .undef
        have hgy := getD_w (a := y) (i := m - 1) (by omega) .undef
        have tail : ∀ k, m - 1 < k → x.getD k 0 = y.getD k 0 := fun k hk => hz k (by omega)
        rw [e1] at h5
        rcases Nat.lt_trichotomy (x.getD (m - 1) 0) (y.getD (m - 1) 0) with hc | hc | hc
        · have g1 := dec_true (show ((x.getD (m - 1) 0 : Nat) : Int) < (y.getD (m - 1) 0 : Nat) by omega)
          have hlt := val_lt_of na.1 (m - 1) hc x.length (by omega) fun k hk _ => tail k hk
          rw [List.take_length, List.take_of_length_le (by omega)] at hlt
          simp only [go_sem, Nat.reduceAdd, Nat.reduceMul, Nat.reduceSub, Nat.reduceBEq, Nat.reduceEqDiff, Nat.reduceLeDiff, Nat.reduceLT, Int.reduceLT, Int.reduceLE, Int.reduceGE, Int.reduceGT, Int.reduceEq, Int.reduceBEq, Int.reduceNeg, Int.reduceToNat, reduceCtorEq, Nat.reducePow, Int.reducePow, ↓reduceIte, h0, h1, h5, encW, hltx, hlty, hgx, hgy, g1]
          exact .mk (by simp only [go_sem, Nat.reduceAdd, Nat.reduceMul, Nat.reduceSub, Nat.reduceBEq, Nat.reduceEqDiff, Nat.reduceLeDiff, Nat.reduceLT, Int.reduceLT, Int.reduceLE, Int.reduceGE, Int.reduceGT, Int.reduceEq, Int.reduceBEq, Int.reduceNeg, Int.reduceToNat, reduceCtorEq, Nat.reducePow, Int.reducePow, ↓reduceIte, cmpN_lt hlt])
        · have g1 := dec_false (show ¬ ((x.getD (m - 1) 0 : Nat) : Int) < (y.getD (m - 1) 0 : Nat) by omega)
          have g2 := dec_false (show ¬ ((y.getD (m - 1) 0 : Nat) : Int) < (x.getD (m - 1) 0 : Nat) by omega)
          simp only [go_sem, Nat.reduceAdd, Nat.reduceMul, Nat.reduceSub, Nat.reduceBEq, Nat.reduceEqDiff, Nat.reduceLeDiff, Nat.reduceLT, Int.reduceLT, Int.reduceLE, Int.reduceGE, Int.reduceGT, Int.reduceEq, Int.reduceBEq, Int.reduceNeg, Int.reduceToNat, reduceCtorEq, Nat.reducePow, Int.reducePow, ↓reduceIte, h0, h1, h5, encW, hltx, hlty, hgx, hgy, g1, g2]
          refine next (m - 1) _ (by omega) ⟨by omega, fun k hk => ?_, by simp only [go_sem, Nat.reduceAdd, Nat.reduceMul, Nat.reduceSub, Nat.reduceBEq, Nat.reduceEqDiff, Nat.reduceLeDiff, Nat.reduceLT, Int.reduceLT, Int.reduceLE, Int.reduceGE, Int.reduceGT, Int.reduceEq, Int.reduceBEq, Int.reduceNeg, Int.reduceToNat, reduceCtorEq, Nat.reducePow, Int.reducePow, ↓reduceIte, h0, encW], by simp only [go_sem, Nat.reduceAdd, Nat.reduceMul, Nat.reduceSub, Nat.reduceBEq, Nat.reduceEqDiff, Nat.reduceLeDiff, Nat.reduceLT, Int.reduceLT, Int.reduceLE, Int.reduceGE, Int.reduceGT, Int.reduceEq, Int.reduceBEq, Int.reduceNeg, Int.reduceToNat, reduceCtorEq, Nat.reducePow, Int.reducePow, ↓reduceIte, h1, encW], by simp only [go_sem, Nat.reduceAdd, Nat.reduceMul, Nat.reduceSub, Nat.reduceBEq, Nat.reduceEqDiff, Nat.reduceLeDiff, Nat.reduceLT, Int.reduceLT, Int.reduceLE, Int.reduceGE, Int.reduceGT, Int.reduceEq, Int.reduceBEq, Int.reduceNeg, Int.reduceToNat, reduceCtorEq, Nat.reducePow, Int.reducePow, ↓reduceIte]; rw [wrap64_id (by omega) (by omega)]⟩
          by_cases hk2 : k = m - 1
          · rw [hk2]; exact hc
          · exact tail k (by omega)
        · have g1 := dec_false (show ¬ ((x.getD (m - 1) 0 : Nat) : Int) < (y.getD (m - 1) 0 : Nat) by omega)
          have g2 := dec_true (show ((y.getD (m - 1) 0 : Nat) : Int) < (x.getD (m - 1) 0 : Nat) by omega)
          have hlt := val_lt_of nb.1 (m - 1) hc x.length (by omega) fun k hk _ => (tail k hk).symm
          rw [List.take_length, List.take_of_length_le (by omega)] at hlt
          simp only [go_sem, Nat.reduceAdd, Nat.reduceMul, Nat.reduceSub, Nat.reduceBEq, Nat.reduceEqDiff, Nat.reduceLeDiff, Nat.reduceLT, Int.reduceLT, Int.reduceLE, Int.reduceGE, Int.reduceGT, Int.reduceEq, Int.reduceBEq, Int.reduceNeg, Int.reduceToNat, reduceCtorEq, Nat.reducePow, Int.reducePow, ↓reduceIte, h0, h1, h5, encW, hltx, hlty, hgx, hgy, g1, g2]
          exact .mk (by simp only [go_sem, Nat.reduceAdd, Nat.reduceMul, Nat.reduceSub, Nat.reduceBEq, Nat.reduceEqDiff, Nat.reduceLeDiff, Nat.reduceLT, Int.reduceLT, Int.reduceLE, Int.reduceGE, Int.reduceGT, Int.reduceEq, Int.reduceBEq, Int.reduceNeg, Int.reduceToNat, reduceCtorEq, Nat.reducePow, Int.reducePow, ↓reduceIte, cmpN_gt hlt])
      · have hm0 : m = 0 := by omega
        subst hm0
        have g0 := dec_false (show ¬ (0 : Int) ≤ ((0 : Nat) : Int) - 1 by omega)
        have hv := val_eq_of (a := x) (b := y) x.length fun k _ => hz k (by omega)
        rw [List.take_length, List.take_of_length_le (by omega)] at hv
        simp only [go_sem, Nat.reduceAdd, Nat.reduceMul, Nat.reduceSub, Nat.reduceBEq, Nat.reduceEqDiff, Nat.reduceLeDiff, Nat.reduceLT, Int.reduceLT, Int.reduceLE, Int.reduceGE, Int.reduceGT, Int.reduceEq, Int.reduceBEq, Int.reduceNeg, Int.reduceToNat, reduceCtorEq, Nat.reducePow, Int.reducePow, ↓reduceIte, h0, h1, h5, g0]
        exact .mk (by simp only [go_sem, Nat.reduceAdd, Nat.reduceMul, Nat.reduceSub, Nat.reduceBEq, Nat.reduceEqDiff, Nat.reduceLeDiff, Nat.reduceLT, Int.reduceLT, Int.reduceLE, Int.reduceGE, Int.reduceGT, Int.reduceEq, Int.reduceBEq, Int.reduceNeg, Int.reduceToNat, reduceCtorEq, Nat.reducePow, Int.reducePow, ↓reduceIte, cmpN_eq hv])
  · have h1 := dec_false (show ¬ ((x.length : Nat) : Int) < (y.length : Nat) by omega)
    have h2 := dec_true (show ((y.length : Nat) : Int) < (x.length : Nat) by omega)
    simp only [go_sem, Nat.reduceAdd, Nat.reduceMul, Nat.reduceSub, Nat.reduceBEq, Nat.reduceEqDiff, Nat.reduceLeDiff, Nat.reduceLT, Int.reduceLT, Int.reduceLE, Int.reduceGE, Int.reduceGT, Int.reduceEq, Int.reduceBEq, Int.reduceNeg, Int.reduceToNat, reduceCtorEq, Nat.reducePow, Int.reducePow, ↓reduceIte, encW, h1, h2]
    exact .mk (by simp only [go_sem, Nat.reduceAdd, Nat.reduceMul, Nat.reduceSub, Nat.reduceBEq, Nat.reduceEqDiff, Nat.reduceLeDiff, Nat.reduceLT, Int.reduceLT, Int.reduceLE, Int.reduceGE, Int.reduceGT, Int.reduceEq, Int.reduceBEq, Int.reduceNeg, Int.reduceToNat, reduceCtorEq, Nat.reducePow, Int.reducePow, ↓reduceIte, cmpN_gt (nrm_lt nb na hl)])

set_option maxHeartbeats 1000000 in
theorem c_rcmp (a b : List Nat) (ha : Wd a) (hb : Wd b) (hla : a.length < 1000000) (hlb : b.length < 1000000) : PCalls Try.prog 33 [encW a, encW b] (.int .i64 (cmpN (val a) (val b))) := by
  refine pcalls_of_AW (pa := []) (fn := Try.f33) (ts := [4]) follows_mixed Try.func33 rfl rfl (by kernel_rfl) (by kernel_rfl) (by rw [Try.ntmps33]; simp) ?_
  have hmx : (if (a.length : Int) < (b.length : Int) then (b.length : Int) else (a.length : Int)) = ((max a.length b.length : Nat) : Int) := by split <;> omega
  have w1 : IntKind.i64.wrap (((max a.length b.length : Nat) : Int) - 1) = ((max a.length b.length : Nat) : Int) - 1 := wrap64_id (by omega) (by omega)
  simp only [go_sem, Nat.reduceAdd, Nat.reduceMul, Nat.reduceSub, Nat.reduceBEq, Nat.reduceEqDiff, Nat.reduceLeDiff, Nat.reduceLT, Int.reduceLT, Int.reduceLE, Int.reduceGE, Int.reduceGT, Int.reduceEq, Int.reduceBEq, Int.reduceNeg, Int.reduceToNat, reduceCtorEq, Nat.reducePow, Int.reducePow, ↓reduceIte, encW, hmx, w1]
  have ea : val a = val (a.take (max a.length b.length)) := by rw [List.take_of_length_le (by omega)]
  have eb : val b = val (b.take (max a.length b.length)) := by rw [List.take_of_length_le (by omega)]
  refine AW_while (fun m st => m ≤ max a.length b.length ∧ (∀ k, m ≤ k → a.getD k 0 = b.getD k 0) ∧ st.τ 0 = encW a ∧ st.τ 1 = encW b ∧ st.τ 5 = .int .i64 ((m : Int) - 1)) (max a.length b.length) ?_ ?_
  · refine ⟨by omega, fun k hk => ?_, by simp only [go_sem, Nat.reduceAdd, Nat.reduceMul, Nat.reduceSub, Nat.reduceBEq, Nat.reduceEqDiff, Nat.reduceLeDiff, Nat.reduceLT, Int.reduceLT, Int.reduceLE, Int.reduceGE, Int.reduceGT, Int.reduceEq, Int.reduceBEq, Int.reduceNeg, Int.reduceToNat, reduceCtorEq, Nat.reducePow, Int.reducePow, ↓reduceIte, encW], by simp only [go_sem, Nat.reduceAdd, Nat.reduceMul, Nat.reduceSub, Nat.reduceBEq, Nat.reduceEqDiff, Nat.reduceLeDiff, Nat.reduceLT, Int.reduceLT, Int.reduceLE, Int.reduceGE, Int.reduceGT, Int.reduceEq, Int.reduceBEq, Int.reduceNeg, Int.reduceToNat, reduceCtorEq, Nat.reducePow, Int.reducePow, ↓reduceIte, encW], by simp only [go_sem, Nat.reduceAdd, Nat.reduceMul, Nat.reduceSub, Nat.reduceBEq, Nat.reduceEqDiff, Nat.reduceLeDiff, Nat.reduceLT, Int.reduceLT, Int.reduceLE, Int.reduceGE, Int.reduceGT, Int.reduceEq, Int.reduceBEq, Int.reduceNeg, Int.reduceToNat, reduceCtorEq, Nat.reducePow, Int.reducePow, ↓reduceIte]⟩
    simp [List.getD, List.getElem?_eq_none (show a.length ≤ k by omega), List.getElem?_eq_none (show b.length ≤ k by omega)]
  · rintro m st ⟨hm, hz, h0, h1, h5⟩ next
    by_cases hp : 0 < m
    · have hp' : ((0 : Int) ≤ (m : Int) - 1) := by omega
      have e1 : ((m : Int) - 1) = ((m - 1 : Nat) : Int) := by omega
      have tail : ∀ k, m - 1 < k → a.getD k 0 = b.getD k 0 := fun k hk => hz k (by omega)
      rw [e1] at h5
      simp only [go_sem, Nat.reduceAdd, Nat.reduceMul, Nat.reduceSub, Nat.reduceBEq, Nat.reduceEqDiff, Nat.reduceLeDiff, Nat.reduceLT, Int.reduceLT, Int.reduceLE, Int.reduceGE, Int.reduceGT, Int.reduceEq, Int.reduceBEq, Int.reduceNeg, Int.reduceToNat, reduceCtorEq, Nat.reducePow, Int.reducePow, ↓reduceIte, h0, h1, h5, encW]
      refine callS_p (c_at a (m - 1) (by omega)) ?_
      simp only [go_sem, Nat.reduceAdd, Nat.reduceMul, Nat.reduceSub, Nat.reduceBEq, Nat.reduceEqDiff, Nat.reduceLeDiff, Nat.reduceLT, Int.reduceLT, Int.reduceLE, Int.reduceGE, Int.reduceGT, Int.reduceEq, Int.reduceBEq, Int.reduceNeg, Int.reduceToNat, reduceCtorEq, Nat.reducePow, Int.reducePow, ↓reduceIte, h0, h1, h5, encW]
      refine callS_p (c_at b (m - 1) (by omega)) ?_
      rcases Nat.lt_trichotomy (a.getD (m - 1) 0) (b.getD (m - 1) 0) with hc | hc | hc
      · have g1 := dec_true (show ((a.getD (m - 1) 0 : Nat) : Int) < (b.getD (m - 1) 0 : Nat) by omega)
        have hlt := val_lt_of ha (m - 1) hc (max a.length b.length) (by omega) fun k hk _ => tail k hk
        rw [← ea, ← eb] at hlt
        simp only [go_sem, Nat.reduceAdd, Nat.reduceMul, Nat.reduceSub, Nat.reduceBEq, Nat.reduceEqDiff, Nat.reduceLeDiff, Nat.reduceLT, Int.reduceLT, Int.reduceLE, Int.reduceGE, Int.reduceGT, Int.reduceEq, Int.reduceBEq, Int.reduceNeg, Int.reduceToNat, reduceCtorEq, Nat.reducePow, Int.reducePow, ↓reduceIte, h0, h1, h5, g1]
        exact .mk (by simp only [go_sem, Nat.reduceAdd, Nat.reduceMul, Nat.reduceSub, Nat.reduceBEq, Nat.reduceEqDiff, Nat.reduceLeDiff, Nat.reduceLT, Int.reduceLT, Int.reduceLE, Int.reduceGE, Int.reduceGT, Int.reduceEq, Int.reduceBEq, Int.reduceNeg, Int.reduceToNat, reduceCtorEq, Nat.reducePow, Int.reducePow, ↓reduceIte, cmpN_lt hlt])
      · have g1 := dec_false (show ¬ ((a.getD (m - 1) 0 : Nat) : Int) < (b.getD (m - 1) 0 : Nat) by omega)
        have g2 := dec_false (show ¬ ((b.getD (m - 1) 0 : Nat) : Int) < (a.getD (m - 1) 0 : Nat) by omega)
        simp only [go_sem, Nat.reduceAdd, Nat.reduceMul, Nat.reduceSub, Nat.reduceBEq, Nat.reduceEqDiff, Nat.reduceLeDiff, Nat.reduceLT, Int.reduceLT, Int.reduceLE, Int.reduceGE, Int.reduceGT, Int.reduceEq, Int.reduceBEq, Int.reduceNeg, Int.reduceToNat, reduceCtorEq, Nat.reducePow, Int.reducePow, ↓reduceIte, h0, h1, h5, g1, g2]
        refine next (m - 1) _ (by omega) ⟨by omega, fun k hk => ?_, by simp only [go_sem, Nat.reduceAdd, Nat.reduceMul, Nat.reduceSub, Nat.reduceBEq, Nat.reduceEqDiff, Nat.reduceLeDiff, Nat.reduceLT, Int.reduceLT, Int.reduceLE, Int.reduceGE, Int.reduceGT, Int.reduceEq, Int.reduceBEq, Int.reduceNeg, Int.reduceToNat, reduceCtorEq, Nat.reducePow, Int.reducePow, ↓reduceIte, h0, encW], by simp only [go_sem, Nat.reduceAdd, Nat.reduceMul, Nat.reduceSub, Nat.reduceBEq, Nat.reduceEqDiff, Nat.reduceLeDiff, Nat.reduceLT, Int.reduceLT, Int.reduceLE, Int.reduceGE, Int.reduceGT, Int.reduceEq, Int.reduceBEq, Int.reduceNeg, Int.reduceToNat, reduceCtorEq, Nat.reducePow, Int.reducePow, ↓reduceIte, h1, encW], by simp only [go_sem, Nat.reduceAdd, Nat.reduceMul, Nat.reduceSub, Nat.reduceBEq, Nat.reduceEqDiff, Nat.reduceLeDiff, Nat.reduceLT, Int.reduceLT, Int.reduceLE, Int.reduceGE, Int.reduceGT, Int.reduceEq, Int.reduceBEq, Int.reduceNeg, Int.reduceToNat, reduceCtorEq, Nat.reducePow, Int.reducePow, ↓reduceIte]; rw [wrap64_id (by omega) (by omega)]⟩
        by_cases hk2 : k = m - 1
        · rw [hk2]; exact hc
        · exact tail k (by omega)
      · have g1 := dec_false (show ¬ ((a.getD (m - 1) 0 : Nat) : Int) < (b.getD (m - 1) 0 : Nat) by omega)
        have g2 := dec_true (show ((b.getD (m - 1) 0 : Nat) : Int) < (a.getD (m - 1) 0 : Nat) by omega)
        have hlt := val_lt_of hb (m - 1) hc (max a.length b.length) (by omega) fun k hk _ => (tail k hk).symm
        rw [← ea, ← eb] at hlt
        simp only [go_sem, Nat.reduceAdd, Nat.reduceMul, Nat.reduceSub, Nat.reduceBEq, Nat.reduceEqDiff, Nat.reduceLeDiff, Nat.reduceLT, Int.reduceLT, Int.reduceLE, Int.reduceGE, Int.reduceGT, Int.reduceEq, Int.reduceBEq, Int.reduceNeg, Int.reduceToNat, reduceCtorEq, Nat.reducePow, Int.reducePow, ↓reduceIte, h0, h1, h5, g1, g2]
        exact .mk (by simp only [go_sem, Nat.reduceAdd, Nat.reduceMul, Nat.reduceSub, Nat.reduceBEq, Nat.reduceEqDiff, Nat.reduceLeDiff, Nat.reduceLT, Int.reduceLT, Int.reduceLE, Int.reduceGE, Int.reduceGT, Int.reduceEq, Int.reduceBEq, Int.reduceNeg, Int.reduceToNat, reduceCtorEq, Nat.reducePow, Int.reducePow, ↓reduceIte, cmpN_gt hlt])
    · have hm0 : m = 0 := by omega
      subst hm0
      have g0 := dec_false (show ¬ (0 : Int) ≤ ((0 : Nat) : Int) - 1 by omega)
      have hv := val_eq_of (a := a) (b := b) (max a.length b.length) fun k _ => hz k (by omega)
      rw [← ea, ← eb] at hv
      simp only [go_sem, Nat.reduceAdd, Nat.reduceMul, Nat.reduceSub, Nat.reduceBEq, Nat.reduceEqDiff, Nat.reduceLeDiff, Nat.reduceLT, Int.reduceLT, Int.reduceLE, Int.reduceGE, Int.reduceGT, Int.reduceEq, Int.reduceBEq, Int.reduceNeg, Int.reduceToNat, reduceCtorEq, Nat.reducePow, Int.reducePow, ↓reduceIte, h0, h1, h5, g0]
      exact .mk (by simp only [go_sem, Nat.reduceAdd, Nat.reduceMul, Nat.reduceSub, Nat.reduceBEq, Nat.reduceEqDiff, Nat.reduceLeDiff, Nat.reduceLT, Int.reduceLT, Int.reduceLE, Int.reduceGE, Int.reduceGT, Int.reduceEq, Int.reduceBEq, Int.reduceNeg, Int.reduceToNat, reduceCtorEq, Nat.reducePow, Int.reducePow, ↓reduceIte, cmpN_eq hv])

end Go.Proofs.Ytmcejlhkohbdfaa
