/- How deep an expression is, and where its operands begin. -/
import Derived.Test.YtmcejlhkohbdfaaT6
set_option linter.unusedVariables false
set_option linter.unusedSimpArgs false
namespace Go.Proofs.Ytmcejlhkohbdfaa
open Go Go.Ab

theorem w10 : IntKind.i64.wrap (1 - 1) = 0 := by rw [wrap64_id (by omega) (by omega)]; rfl
theorem w21 : IntKind.i64.wrap (2 - 1) = 1 := by rw [wrap64_id (by omega) (by omega)]; rfl
/-- A node of a list that is put together. -/
theorem get_mid (p : List Nd) (x : Nd) (q : List Nd) {i : Nat} (h : i = p.length) : ((p ++ (x :: q)).map encN).getD i .undef = encN x := by
  subst h; simp [List.getD]

theorem len_flat (t : Tr) : t.flat.length = t.front.length + 1 := by rw [t.flat_eq]; simp

set_option maxHeartbeats 2000000 in
theorem c_deep (t : Tr) : ∀ (ht : t.ok) (p q : List Nd) (at' : Int) (hat : at' = p.length + t.front.length) (hl : (p ++ t.flat ++ q).length < 1000000), PCalls Try.prog 32 [encC (p ++ t.flat ++ q), .int .i64 at'] (.tup [.int .i64 t.depth, .int .i64 p.length]) := by
  induction t with
  | leaf x =>
    intro ht p q at' hat hl
    simp only [Tr.front, List.length_nil, cast0, Int.add_zero] at hat
    subst hat
    refine pcalls_of_AW (pa := []) (fn := Try.f32) (ts := [4, 5]) follows_mixed Try.func32 rfl rfl (by kernel_rfl) (by kernel_rfl) (by rw [Try.ntmps32]; simp) ?_
    have hg : ((p ++ (Tr.leaf x).flat ++ q).map encN).getD p.length .undef = encN x := by
      rw [show p ++ (Tr.leaf x).flat ++ q = p ++ (x :: q) by simp [Tr.flat]]; exact get_mid _ _ _ rfl
    have hlt : ((p.length : Nat) : Int) < ((p ++ (Tr.leaf x).flat ++ q).length : Nat) := by simp only [List.length_append, Tr.flat, List.length_singleton]; omega
    simp only [go_sem, Nat.reduceAdd, Nat.reduceMul, Nat.reduceSub, Nat.reduceBEq, Nat.reduceEqDiff, Nat.reduceLeDiff, Nat.reduceLT, Int.reduceLT, Int.reduceLE, Int.reduceGE, Int.reduceGT, Int.reduceEq, Int.reduceBEq, Int.reduceNeg, Int.reduceToNat, reduceCtorEq, Nat.reducePow, Int.reducePow, ↓reduceIte, encC, hg, hlt, encN]
    refine callS_p (c_rarity _) ?_
    simp only [Tr.ok] at ht
    simp only [go_sem, Nat.reduceAdd, Nat.reduceMul, Nat.reduceSub, Nat.reduceBEq, Nat.reduceEqDiff, Nat.reduceLeDiff, Nat.reduceLT, Int.reduceLT, Int.reduceLE, Int.reduceGE, Int.reduceGT, Int.reduceEq, Int.reduceBEq, Int.reduceNeg, Int.reduceToNat, reduceCtorEq, Nat.reducePow, Int.reducePow, ↓reduceIte, ht, AW_loop]
    exact .mk (by simp only [go_sem, Nat.reduceAdd, Nat.reduceMul, Nat.reduceSub, Nat.reduceBEq, Nat.reduceEqDiff, Nat.reduceLeDiff, Nat.reduceLT, Int.reduceLT, Int.reduceLE, Int.reduceGE, Int.reduceGT, Int.reduceEq, Int.reduceBEq, Int.reduceNeg, Int.reduceToNat, reduceCtorEq, Nat.reducePow, Int.reducePow, ↓reduceIte, Tr.depth, w01, cast1])
  | un x a ih =>
    intro ht p q at' hat hl
    simp only [Tr.front] at hat
    refine pcalls_of_AW (pa := []) (fn := Try.f32) (ts := [4, 5]) follows_mixed Try.func32 rfl rfl (by kernel_rfl) (by kernel_rfl) (by rw [Try.ntmps32]; simp) ?_
    have e0 : p ++ (Tr.un x a).flat ++ q = (p ++ a.flat) ++ (x :: q) := by simp [Tr.flat]
    have e1 : p ++ (Tr.un x a).flat ++ q = p ++ a.flat ++ (x :: q) := by simp [Tr.flat]
    have hatn : at' = ((p ++ a.flat).length : Nat) := by simp only [List.length_append]; omega
    have hda := a.depth_le
    have hpa := a.depth_pos
    have hll := hl
    rw [e0] at hl ⊢
    have hg := get_mid (p ++ a.flat) x q rfl
    have hlt : (((p ++ a.flat).length : Nat) : Int) < (((p ++ a.flat) ++ (x :: q)).length : Nat) := by simp only [List.length_append, List.length_cons]; omega
    subst hatn
    simp only [go_sem, Nat.reduceAdd, Nat.reduceMul, Nat.reduceSub, Nat.reduceBEq, Nat.reduceEqDiff, Nat.reduceLeDiff, Nat.reduceLT, Int.reduceLT, Int.reduceLE, Int.reduceGE, Int.reduceGT, Int.reduceEq, Int.reduceBEq, Int.reduceNeg, Int.reduceToNat, reduceCtorEq, Nat.reducePow, Int.reducePow, ↓reduceIte, encC, hg, hlt, encN]
    refine callS_p (c_rarity _) ?_
    simp only [Tr.ok] at ht
    simp only [go_sem, Nat.reduceAdd, Nat.reduceMul, Nat.reduceSub, Nat.reduceBEq, Nat.reduceEqDiff, Nat.reduceLeDiff, Nat.reduceLT, Int.reduceLT, Int.reduceLE, Int.reduceGE, Int.reduceGT, Int.reduceEq, Int.reduceBEq, Int.reduceNeg, Int.reduceToNat, reduceCtorEq, Nat.reducePow, Int.reducePow, ↓reduceIte, ht.1, AW_loop, encC]
    refine callS_p (ih ht.2 p (x :: q) _ ?_ ?_) ?_
    · rw [wrap64_id (by omega) (by omega)]; have := len_flat a; omega
    · exact hl
    have hd0 : ((0 : Int) < (a.depth : Int)) := by omega
    have hdl : a.depth < 1000000 := by simp only [List.length_append] at hl; omega
    have w2 : IntKind.i64.wrap ((a.depth : Int) + 1) = ((a.depth + 1 : Nat) : Int) := by rw [wrap64_id (by omega) (by omega)]; omega
    simp only [go_sem, Nat.reduceAdd, Nat.reduceMul, Nat.reduceSub, Nat.reduceBEq, Nat.reduceEqDiff, Nat.reduceLeDiff, Nat.reduceLT, Int.reduceLT, Int.reduceLE, Int.reduceGE, Int.reduceGT, Int.reduceEq, Int.reduceBEq, Int.reduceNeg, Int.reduceToNat, reduceCtorEq, Nat.reducePow, Int.reducePow, ↓reduceIte, ht.1, hd0]
    rw [AW_inLoop]
    simp only [go_sem, Nat.reduceAdd, Nat.reduceMul, Nat.reduceSub, Nat.reduceBEq, Nat.reduceEqDiff, Nat.reduceLeDiff, Nat.reduceLT, Int.reduceLT, Int.reduceLE, Int.reduceGE, Int.reduceGT, Int.reduceEq, Int.reduceBEq, Int.reduceNeg, Int.reduceToNat, reduceCtorEq, Nat.reducePow, Int.reducePow, ↓reduceIte, ht.1, w10]
    exact .mk (by simp only [go_sem, Nat.reduceAdd, Nat.reduceMul, Nat.reduceSub, Nat.reduceBEq, Nat.reduceEqDiff, Nat.reduceLeDiff, Nat.reduceLT, Int.reduceLT, Int.reduceLE, Int.reduceGE, Int.reduceGT, Int.reduceEq, Int.reduceBEq, Int.reduceNeg, Int.reduceToNat, reduceCtorEq, Nat.reducePow, Int.reducePow, ↓reduceIte, Tr.depth, w2])
  | bin x a b iha ihb =>
    intro ht p q at' hat hl
    simp only [Tr.front, List.length_append] at hat
    refine pcalls_of_AW (pa := []) (fn := Try.f32) (ts := [4, 5]) follows_mixed Try.func32 rfl rfl (by kernel_rfl) (by kernel_rfl) (by rw [Try.ntmps32]; simp) ?_
    have e0 : p ++ (Tr.bin x a b).flat ++ q = (p ++ a.flat ++ b.flat) ++ (x :: q) := by simp [Tr.flat]
    have e1 : p ++ a.flat ++ b.flat ++ (x :: q) = p ++ a.flat ++ (b.flat ++ (x :: q)) := by simp
    have hatn : at' = ((p ++ a.flat ++ b.flat).length : Nat) := by simp only [List.length_append]; omega
    have hda := a.depth_le
    have hpa := a.depth_pos
    have hdb := b.depth_le
    have hpb := b.depth_pos
    rw [e0] at hl ⊢
    have hg := get_mid (p ++ a.flat ++ b.flat) x q rfl
    have hlt : (((p ++ a.flat ++ b.flat).length : Nat) : Int) < (((p ++ a.flat ++ b.flat) ++ (x :: q)).length : Nat) := by simp only [List.length_append, List.length_cons]; omega
    subst hatn
    simp only [go_sem, Nat.reduceAdd, Nat.reduceMul, Nat.reduceSub, Nat.reduceBEq, Nat.reduceEqDiff, Nat.reduceLeDiff, Nat.reduceLT, Int.reduceLT, Int.reduceLE, Int.reduceGE, Int.reduceGT, Int.reduceEq, Int.reduceBEq, Int.reduceNeg, Int.reduceToNat, reduceCtorEq, Nat.reducePow, Int.reducePow, ↓reduceIte, encC, hg, hlt, encN]
    refine callS_p (c_rarity _) ?_
    simp only [Tr.ok] at ht
    simp only [go_sem, Nat.reduceAdd, Nat.reduceMul, Nat.reduceSub, Nat.reduceBEq, Nat.reduceEqDiff, Nat.reduceLeDiff, Nat.reduceLT, Int.reduceLT, Int.reduceLE, Int.reduceGE, Int.reduceGT, Int.reduceEq, Int.reduceBEq, Int.reduceNeg, Int.reduceToNat, reduceCtorEq, Nat.reducePow, Int.reducePow, ↓reduceIte, ht.1, AW_loop, encC]
    refine callS_p (ihb ht.2.2 (p ++ a.flat) (x :: q) _ ?_ hl) ?_
    · rw [wrap64_id (by omega) (by omega)]; have := len_flat b; simp only [List.length_append]; omega
    have hd0 : ((0 : Int) < (b.depth : Int)) := by omega
    have hjl : (p ++ a.flat).length < 1000000 := by simp only [List.length_append] at hl ⊢; omega
    have hdl : a.depth < 1000000 ∧ b.depth < 1000000 := by simp only [List.length_append] at hl; omega
    have w2 : IntKind.i64.wrap (((max a.depth b.depth : Nat) : Int) + 1) = ((max a.depth b.depth + 1 : Nat) : Int) := by rw [wrap64_id (by omega) (by omega)]; omega
    have hmx : (if (b.depth : Int) < (a.depth : Int) then (a.depth : Int) else (b.depth : Int)) = ((max a.depth b.depth : Nat) : Int) := by split <;> omega
    simp only [go_sem, Nat.reduceAdd, Nat.reduceMul, Nat.reduceSub, Nat.reduceBEq, Nat.reduceEqDiff, Nat.reduceLeDiff, Nat.reduceLT, Int.reduceLT, Int.reduceLE, Int.reduceGE, Int.reduceGT, Int.reduceEq, Int.reduceBEq, Int.reduceNeg, Int.reduceToNat, reduceCtorEq, Nat.reducePow, Int.reducePow, ↓reduceIte, ht.1, hd0]
    rw [AW_inLoop]
    simp only [go_sem, Nat.reduceAdd, Nat.reduceMul, Nat.reduceSub, Nat.reduceBEq, Nat.reduceEqDiff, Nat.reduceLeDiff, Nat.reduceLT, Int.reduceLT, Int.reduceLE, Int.reduceGE, Int.reduceGT, Int.reduceEq, Int.reduceBEq, Int.reduceNeg, Int.reduceToNat, reduceCtorEq, Nat.reducePow, Int.reducePow, ↓reduceIte, ht.1, w21, encC]
    rw [e1] at hl ⊢
    refine callS_p (iha ht.2.1 p (b.flat ++ (x :: q)) _ ?_ hl) ?_
    · rw [wrap64_id (by omega) (by omega)]; have := len_flat a; simp only [List.length_append]; omega
    simp only [go_sem, Nat.reduceAdd, Nat.reduceMul, Nat.reduceSub, Nat.reduceBEq, Nat.reduceEqDiff, Nat.reduceLeDiff, Nat.reduceLT, Int.reduceLT, Int.reduceLE, Int.reduceGE, Int.reduceGT, Int.reduceEq, Int.reduceBEq, Int.reduceNeg, Int.reduceToNat, reduceCtorEq, Nat.reducePow, Int.reducePow, ↓reduceIte, ht.1, hmx]
    rw [AW_inLoop]
    simp only [go_sem, Nat.reduceAdd, Nat.reduceMul, Nat.reduceSub, Nat.reduceBEq, Nat.reduceEqDiff, Nat.reduceLeDiff, Nat.reduceLT, Int.reduceLT, Int.reduceLE, Int.reduceGE, Int.reduceGT, Int.reduceEq, Int.reduceBEq, Int.reduceNeg, Int.reduceToNat, reduceCtorEq, Nat.reducePow, Int.reducePow, ↓reduceIte, ht.1, w10]
    exact .mk (by simp only [go_sem, Nat.reduceAdd, Nat.reduceMul, Nat.reduceSub, Nat.reduceBEq, Nat.reduceEqDiff, Nat.reduceLeDiff, Nat.reduceLT, Int.reduceLT, Int.reduceLE, Int.reduceGE, Int.reduceGT, Int.reduceEq, Int.reduceBEq, Int.reduceNeg, Int.reduceToNat, reduceCtorEq, Nat.reducePow, Int.reducePow, ↓reduceIte, Tr.depth, w2])

end Go.Proofs.Ytmcejlhkohbdfaa
