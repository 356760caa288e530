/- The reference's depth; where an operand begins. -/
import Derived.Test.YtmcejlhkohbdfaaT7
set_option linter.unusedVariables false
set_option linter.unusedSimpArgs false
namespace Go.Proofs.Ytmcejlhkohbdfaa
open Go Go.Ab

theorem c_rdepth (t : Tr) (ht : t.ok) (hl : t.flat.length < 1000000) : PCalls Try.prog 15 [encC t.flat] (.int .i64 t.depth) := by
  refine pcalls_of_AW (pa := []) (fn := Try.f15) (ts := [2]) follows_mixed Try.func15 rfl rfl (by kernel_rfl) (by kernel_rfl) (by rw [Try.ntmps15]; simp) ?_
  simp only [go_sem, Nat.reduceAdd, Nat.reduceMul, Nat.reduceSub, Nat.reduceBEq, Nat.reduceEqDiff, Nat.reduceLeDiff, Nat.reduceLT, Int.reduceLT, Int.reduceLE, Int.reduceGE, Int.reduceGT, Int.reduceEq, Int.reduceBEq, Int.reduceNeg, Int.reduceToNat, reduceCtorEq, Nat.reducePow, Int.reducePow, ↓reduceIte]
  refine callS_p (c_rwrong _ hl) ?_
  simp only [go_sem, Nat.reduceAdd, Nat.reduceMul, Nat.reduceSub, Nat.reduceBEq, Nat.reduceEqDiff, Nat.reduceLeDiff, Nat.reduceLT, Int.reduceLT, Int.reduceLE, Int.reduceGE, Int.reduceGT, Int.reduceEq, Int.reduceBEq, Int.reduceNeg, Int.reduceToNat, reduceCtorEq, Nat.reducePow, Int.reducePow, ↓reduceIte, wrong_flat ht, encC]
  have h := c_deep t ht [] [] (t.front.length) (by simp) (by simpa using hl)
  rw [List.nil_append, List.append_nil] at h
  refine callS_p (by
    have := len_flat t
    rw [wrap64_id (by omega) (by omega), show ((t.flat.length : Nat) : Int) - 1 = t.front.length by omega]; exact h) ?_
  simp only [go_sem, Nat.reduceAdd, Nat.reduceMul, Nat.reduceSub, Nat.reduceBEq, Nat.reduceEqDiff, Nat.reduceLeDiff, Nat.reduceLT, Int.reduceLT, Int.reduceLE, Int.reduceGE, Int.reduceGT, Int.reduceEq, Int.reduceBEq, Int.reduceNeg, Int.reduceToNat, reduceCtorEq, Nat.reducePow, Int.reducePow, ↓reduceIte]
  exact .mk (by simp only [go_sem, Nat.reduceAdd, Nat.reduceMul, Nat.reduceSub, Nat.reduceBEq, Nat.reduceEqDiff, Nat.reduceLeDiff, Nat.reduceLT, Int.reduceLT, Int.reduceLE, Int.reduceGE, Int.reduceGT, Int.reduceEq, Int.reduceBEq, Int.reduceNeg, Int.reduceToNat, reduceCtorEq, Nat.reducePow, Int.reducePow, ↓reduceIte])

theorem c_rdepth0 (c : List Nd) (hc : ¬ wrong c < 0) (hl : c.length < 1000000) : PCalls Try.prog 15 [encC c] (.int .i64 0) := by
  refine pcalls_of_AW (pa := []) (fn := Try.f15) (ts := [2]) follows_mixed Try.func15 rfl rfl (by kernel_rfl) (by kernel_rfl) (by rw [Try.ntmps15]; simp) ?_
  simp only [go_sem, Nat.reduceAdd, Nat.reduceMul, Nat.reduceSub, Nat.reduceBEq, Nat.reduceEqDiff, Nat.reduceLeDiff, Nat.reduceLT, Int.reduceLT, Int.reduceLE, Int.reduceGE, Int.reduceGT, Int.reduceEq, Int.reduceBEq, Int.reduceNeg, Int.reduceToNat, reduceCtorEq, Nat.reducePow, Int.reducePow, ↓reduceIte]
  refine callS_p (c_rwrong _ hl) ?_
  simp only [go_sem, Nat.reduceAdd, Nat.reduceMul, Nat.reduceSub, Nat.reduceBEq, Nat.reduceEqDiff, Nat.reduceLeDiff, Nat.reduceLT, Int.reduceLT, Int.reduceLE, Int.reduceGE, Int.reduceGT, Int.reduceEq, Int.reduceBEq, Int.reduceNeg, Int.reduceToNat, reduceCtorEq, Nat.reducePow, Int.reducePow, ↓reduceIte, dec_true (show 0 ≤ wrong c by omega), encC]
  exact .mk (by simp only [go_sem, Nat.reduceAdd, Nat.reduceMul, Nat.reduceSub, Nat.reduceBEq, Nat.reduceEqDiff, Nat.reduceLeDiff, Nat.reduceLT, Int.reduceLT, Int.reduceLE, Int.reduceGE, Int.reduceGT, Int.reduceEq, Int.reduceBEq, Int.reduceNeg, Int.reduceToNat, reduceCtorEq, Nat.reducePow, Int.reducePow, ↓reduceIte])

theorem c_depth0 (c : List Nd) (hc : ¬ wrong c < 0) (hl : c.length < 1000000) : PCalls Try.prog 14 [encC c] (.int .i64 0) := by
  refine pcalls_of_AW (pa := []) (fn := Try.f14) (ts := [2]) follows_mixed Try.func14 rfl rfl (by kernel_rfl) (by kernel_rfl) (by rw [Try.ntmps14]; simp) ?_
  simp only [go_sem, Nat.reduceAdd, Nat.reduceMul, Nat.reduceSub, Nat.reduceBEq, Nat.reduceEqDiff, Nat.reduceLeDiff, Nat.reduceLT, Int.reduceLT, Int.reduceLE, Int.reduceGE, Int.reduceGT, Int.reduceEq, Int.reduceBEq, Int.reduceNeg, Int.reduceToNat, reduceCtorEq, Nat.reducePow, Int.reducePow, ↓reduceIte]
  refine callS_p (c_right _ hl) ?_
  simp only [go_sem, Nat.reduceAdd, Nat.reduceMul, Nat.reduceSub, Nat.reduceBEq, Nat.reduceEqDiff, Nat.reduceLeDiff, Nat.reduceLT, Int.reduceLT, Int.reduceLE, Int.reduceGE, Int.reduceGT, Int.reduceEq, Int.reduceBEq, Int.reduceNeg, Int.reduceToNat, reduceCtorEq, Nat.reducePow, Int.reducePow, ↓reduceIte, dec_false hc, encC]
  exact .mk (by simp only [go_sem, Nat.reduceAdd, Nat.reduceMul, Nat.reduceSub, Nat.reduceBEq, Nat.reduceEqDiff, Nat.reduceLeDiff, Nat.reduceLT, Int.reduceLT, Int.reduceLE, Int.reduceGE, Int.reduceGT, Int.reduceEq, Int.reduceBEq, Int.reduceNeg, Int.reduceToNat, reduceCtorEq, Nat.reducePow, Int.reducePow, ↓reduceIte])

theorem flatS_append (a b : List Tr) : flatS (a ++ b) = flatS b ++ flatS a := by simp [flatS]
theorem flatS_kids (u : Tr) : flatS u.kids.reverse = u.front := by simp [flatS, Tr.front_kids]

set_option maxHeartbeats 1000000 in
theorem c_begin (t : Tr) (ht : t.ok) (p q : List Nd) (hl : (p ++ t.flat ++ q).length < 1000000) : PCalls Try.prog 30 [encC (p ++ t.flat ++ q), .int .i64 (p ++ t.flat).length] (.int .i64 p.length) := by
  refine pcalls_of_AW (pa := []) (fn := Try.f30) (ts := [4]) follows_mixed Try.func30 rfl rfl (by kernel_rfl) (by kernel_rfl) (by rw [Try.ntmps30]; simp) ?_
  simp only [go_sem, Nat.reduceAdd, Nat.reduceMul, Nat.reduceSub, Nat.reduceBEq, Nat.reduceEqDiff, Nat.reduceLeDiff, Nat.reduceLT, Int.reduceLT, Int.reduceLE, Int.reduceGE, Int.reduceGT, Int.reduceEq, Int.reduceBEq, Int.reduceNeg, Int.reduceToNat, reduceCtorEq, Nat.reducePow, Int.reducePow, ↓reduceIte, encC]
  generalize hcc : p ++ t.flat ++ q = c at *
  refine AW_while (fun m st => ∃ (s : List Tr) (r : List Nd), m = (flatS s).length ∧ (∀ x ∈ s, x.ok) ∧ s.length ≤ (flatS s).length ∧ p ++ flatS s ++ r = c ∧ st.τ 0 = encC c ∧ st.τ 1 = .int .i64 (p ++ flatS s).length ∧ st.τ 5 = .int .i64 s.length) (flatS [t]).length ?_ ?_
  · exact ⟨[t], q, rfl, by simpa using ht, by simp [flatS]; exact t.flat_pos, by simpa [flatS] using hcc, by simp only [go_sem, Nat.reduceAdd, Nat.reduceMul, Nat.reduceSub, Nat.reduceBEq, Nat.reduceEqDiff, Nat.reduceLeDiff, Nat.reduceLT, Int.reduceLT, Int.reduceLE, Int.reduceGE, Int.reduceGT, Int.reduceEq, Int.reduceBEq, Int.reduceNeg, Int.reduceToNat, reduceCtorEq, Nat.reducePow, Int.reducePow, ↓reduceIte, encC], by simp [flatS, st0, putT], by simp only [go_sem, Nat.reduceAdd, Nat.reduceMul, Nat.reduceSub, Nat.reduceBEq, Nat.reduceEqDiff, Nat.reduceLeDiff, Nat.reduceLT, Int.reduceLT, Int.reduceLE, Int.reduceGE, Int.reduceGT, Int.reduceEq, Int.reduceBEq, Int.reduceNeg, Int.reduceToNat, reduceCtorEq, Nat.reducePow, Int.reducePow, ↓reduceIte]; rfl⟩
  · rintro m st ⟨s, r, hm, hok, hsl, hc, h0, h1, h5⟩ next
    match s with
    | [] =>
      simp only [flatS, List.reverse_nil, List.flatMap_nil, List.append_nil] at h1
      simp only [go_sem, Nat.reduceAdd, Nat.reduceMul, Nat.reduceSub, Nat.reduceBEq, Nat.reduceEqDiff, Nat.reduceLeDiff, Nat.reduceLT, Int.reduceLT, Int.reduceLE, Int.reduceGE, Int.reduceGT, Int.reduceEq, Int.reduceBEq, Int.reduceNeg, Int.reduceToNat, reduceCtorEq, Nat.reducePow, Int.reducePow, ↓reduceIte, h0, h1, h5, cast0]
      exact .mk (by simp only [go_sem, Nat.reduceAdd, Nat.reduceMul, Nat.reduceSub, Nat.reduceBEq, Nat.reduceEqDiff, Nat.reduceLeDiff, Nat.reduceLT, Int.reduceLT, Int.reduceLE, Int.reduceGE, Int.reduceGT, Int.reduceEq, Int.reduceBEq, Int.reduceNeg, Int.reduceToNat, reduceCtorEq, Nat.reducePow, Int.reducePow, ↓reduceIte])
    | u :: s =>
      have hlen : (p ++ flatS (u :: s)).length < 1000000 := by rw [← hc, List.length_append] at hl; omega
      have hfs : p ++ flatS (u :: s) = p ++ flatS s ++ u.front ++ [u.root] := by rw [flatS_cons, u.flat_eq]; simp only [List.append_assoc]
      have hc2 : c = (p ++ flatS s ++ u.front) ++ (u.root :: r) := by rw [← hc, hfs]; simp
      have hg := get_mid (p ++ flatS s ++ u.front) u.root r rfl
      rw [← hc2] at hg
      have hlt : (((p ++ flatS s ++ u.front).length : Nat) : Int) < ((c.length : Nat) : Int) := by rw [hc2]; simp; omega
      have w1 : IntKind.i64.wrap (((p ++ flatS (u :: s)).length : Nat) - 1 : Int) = ((p ++ flatS s ++ u.front).length : Nat) := by
        rw [wrap64_id (by omega) (by omega), hfs]; simp; omega
      have hpos : ((0 : Int) < ((s.length + 1 : Nat) : Int)) := by omega
      simp only [List.length_cons] at h5 hsl
      have hsl1 : s.length + 1 ≤ 1000000 := by rw [List.length_append] at hlen; omega
      simp only [go_sem, Nat.reduceAdd, Nat.reduceMul, Nat.reduceSub, Nat.reduceBEq, Nat.reduceEqDiff, Nat.reduceLeDiff, Nat.reduceLT, Int.reduceLT, Int.reduceLE, Int.reduceGE, Int.reduceGT, Int.reduceEq, Int.reduceBEq, Int.reduceNeg, Int.reduceToNat, reduceCtorEq, Nat.reducePow, Int.reducePow, ↓reduceIte, h0, h1, h5, hpos, w1, encC, hg, hlt, encN]
      refine callS_p (c_arity _) ?_
      have hk := Tr.arity_root (hok u (by simp))
      obtain ⟨b1, b2⟩ := arity_bd u.root.op
      have hs1 : ((s.length + 1 : Nat) : Int) = (s.length : Int) + 1 := by omega
      have w2 : IntKind.i64.wrap (((s.length + 1 : Nat) : Int) + IntKind.i64.wrap (arity u.root.op - 1)) = ((u.kids.reverse ++ s).length : Nat) := by
        rw [wrap64_id (x := arity u.root.op - 1) (by omega) (by omega), wrap64_id (by omega) (by omega), hk, hs1]
        simp only [List.length_append, List.length_reverse]; omega
      simp only [go_sem, Nat.reduceAdd, Nat.reduceMul, Nat.reduceSub, Nat.reduceBEq, Nat.reduceEqDiff, Nat.reduceLeDiff, Nat.reduceLT, Int.reduceLT, Int.reduceLE, Int.reduceGE, Int.reduceGT, Int.reduceEq, Int.reduceBEq, Int.reduceNeg, Int.reduceToNat, reduceCtorEq, Nat.reducePow, Int.reducePow, ↓reduceIte, h0, h1, h5]
      refine next (m - 1) _ ?_ ⟨u.kids.reverse ++ s, u.root :: r, ?_, ?_, ?_, ?_, by simp only [go_sem, Nat.reduceAdd, Nat.reduceMul, Nat.reduceSub, Nat.reduceBEq, Nat.reduceEqDiff, Nat.reduceLeDiff, Nat.reduceLT, Int.reduceLT, Int.reduceLE, Int.reduceGE, Int.reduceGT, Int.reduceEq, Int.reduceBEq, Int.reduceNeg, Int.reduceToNat, reduceCtorEq, Nat.reducePow, Int.reducePow, ↓reduceIte, h0, encC], ?_, ?_⟩
      · rw [hm, flatS_cons]; have := u.flat_pos; simp only [List.length_append]; omega
      · rw [hm, flatS_append, flatS_kids, flatS_cons]; have := len_flat u; simp only [List.length_append]; omega
      · intro x hx
        rcases List.mem_append.1 hx with hx | hx
        · exact Tr.kids_ok (hok u (by simp)) x (by simpa using hx)
        · exact hok x (by simp [hx])
      · rw [flatS_append, flatS_kids]
        have h1 : u.kids.length ≤ u.front.length := by
          cases u with
          | leaf x => simp [Tr.kids]
          | un x a => have := a.flat_pos; simp [Tr.kids, Tr.front]; omega
          | bin x a b => have := a.flat_pos; have := b.flat_pos; simp [Tr.kids, Tr.front]; omega
        have h2 : ∀ s : List Tr, s.length ≤ (flatS s).length := fun s => by
          induction s with
          | nil => simp
          | cons a s ih => rw [flatS_cons]; have := a.flat_pos; simp only [List.length_append, List.length_cons]; omega
        have := h2 s
        simp only [List.length_append, List.length_reverse]; omega
      · rw [flatS_append, flatS_kids, hc2]; simp
      · simp only [go_sem, Nat.reduceAdd, Nat.reduceMul, Nat.reduceSub, Nat.reduceBEq, Nat.reduceEqDiff, Nat.reduceLeDiff, Nat.reduceLT, Int.reduceLT, Int.reduceLE, Int.reduceGE, Int.reduceGT, Int.reduceEq, Int.reduceBEq, Int.reduceNeg, Int.reduceToNat, reduceCtorEq, Nat.reducePow, Int.reducePow, ↓reduceIte, flatS_append, flatS_kids, ← List.append_assoc]
      · simp only [go_sem, Nat.reduceAdd, Nat.reduceMul, Nat.reduceSub, Nat.reduceBEq, Nat.reduceEqDiff, Nat.reduceLeDiff, Nat.reduceLT, Int.reduceLT, Int.reduceLE, Int.reduceGE, Int.reduceGT, Int.reduceEq, Int.reduceBEq, Int.reduceNeg, Int.reduceToNat, reduceCtorEq, Nat.reducePow, Int.reducePow, ↓reduceIte, w2]

end Go.Proofs.Ytmcejlhkohbdfaa
