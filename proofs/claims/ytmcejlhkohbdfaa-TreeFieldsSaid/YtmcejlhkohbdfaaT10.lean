/- An expression's operands, the reference's way. -/
import Derived.Test.YtmcejlhkohbdfaaT9
set_option linter.unusedVariables false
set_option linter.unusedSimpArgs false
namespace Go.Proofs.Ytmcejlhkohbdfaa
open Go Go.Ab

set_option maxHeartbeats 1000000 in
theorem c_rparts (t : Tr) (ht : t.ok) (hl : t.flat.length < 1000000) : PCalls Try.prog 18 [encC t.flat] (encP (t.kids.map Tr.flat)) := by
  refine pcalls_of_AW (pa := []) (fn := Try.f18) (ts := [2]) follows_mixed Try.func18 rfl rfl (by kernel_rfl) (by kernel_rfl) (by rw [Try.ntmps18]; simp) ?_
  have hg := get_mid t.front t.root [] rfl
  rw [← t.flat_eq] at hg
  have hlf := len_flat t
  have w1 : IntKind.i64.wrap ((t.flat.length : Int) - 1) = (t.front.length : Nat) := by rw [wrap64_id (by omega) (by omega)]; omega
  have hlt : ((t.front.length : Nat) : Int) < (t.flat.length : Nat) := by omega
  simp only [go_sem, Nat.reduceAdd, Nat.reduceMul, Nat.reduceSub, Nat.reduceBEq, Nat.reduceEqDiff, Nat.reduceLeDiff, Nat.reduceLT, Int.reduceLT, Int.reduceLE, Int.reduceGE, Int.reduceGT, Int.reduceEq, Int.reduceBEq, Int.reduceNeg, Int.reduceToNat, reduceCtorEq, Nat.reducePow, Int.reducePow, ↓reduceIte, encC, w1, hlt, hg, encN]
  refine callS_p (c_rarity _) ?_
  rw [Tr.arity_root ht]
  cases t with
  | leaf x =>
    simp only [go_sem, Nat.reduceAdd, Nat.reduceMul, Nat.reduceSub, Nat.reduceBEq, Nat.reduceEqDiff, Nat.reduceLeDiff, Nat.reduceLT, Int.reduceLT, Int.reduceLE, Int.reduceGE, Int.reduceGT, Int.reduceEq, Int.reduceBEq, Int.reduceNeg, Int.reduceToNat, reduceCtorEq, Nat.reducePow, Int.reducePow, ↓reduceIte, Tr.kids, List.length_nil, cast0]
    exact .mk (by simp only [go_sem, Nat.reduceAdd, Nat.reduceMul, Nat.reduceSub, Nat.reduceBEq, Nat.reduceEqDiff, Nat.reduceLeDiff, Nat.reduceLT, Int.reduceLT, Int.reduceLE, Int.reduceGE, Int.reduceGT, Int.reduceEq, Int.reduceBEq, Int.reduceNeg, Int.reduceToNat, reduceCtorEq, Nat.reducePow, Int.reducePow, ↓reduceIte, encP])
  | un x a =>
    have hb := c_deep a ht.2 [] [x] a.front.length (by simp) (by simpa [Tr.flat] using hl)
    simp only [List.nil_append, List.length_nil, cast0] at hb
    have hle : ((a.flat.length : Nat) : Int) ≤ ((a.flat ++ [x]).length : Nat) := by simp; omega
    have htk : List.take a.flat.length (List.map encN (a.flat ++ [x])) = a.flat.map encN := by rw [← List.map_take, List.take_left]
    have w2 : IntKind.i64.wrap ((a.flat.length : Int) - 1) = (a.front.length : Nat) := by
      have := len_flat a; simp only [Tr.flat, List.length_append] at hl; rw [wrap64_id (by omega) (by omega)]; omega
    simp only [go_sem, Nat.reduceAdd, Nat.reduceMul, Nat.reduceSub, Nat.reduceBEq, Nat.reduceEqDiff, Nat.reduceLeDiff, Nat.reduceLT, Int.reduceLT, Int.reduceLE, Int.reduceGE, Int.reduceGT, Int.reduceEq, Int.reduceBEq, Int.reduceNeg, Int.reduceToNat, reduceCtorEq, Nat.reducePow, Int.reducePow, ↓reduceIte, Tr.kids, Tr.flat, Tr.front, cast0, cast1, w2, encC]
    refine callS_p hb ?_
    simp only [go_sem, Nat.reduceAdd, Nat.reduceMul, Nat.reduceSub, Nat.reduceBEq, Nat.reduceEqDiff, Nat.reduceLeDiff, Nat.reduceLT, Int.reduceLT, Int.reduceLE, Int.reduceGE, Int.reduceGT, Int.reduceEq, Int.reduceBEq, Int.reduceNeg, Int.reduceToNat, reduceCtorEq, Nat.reducePow, Int.reducePow, ↓reduceIte, cast0, cast1, encC, hle, htk]
    exact .mk (by simp only [go_sem, Nat.reduceAdd, Nat.reduceMul, Nat.reduceSub, Nat.reduceBEq, Nat.reduceEqDiff, Nat.reduceLeDiff, Nat.reduceLT, Int.reduceLT, Int.reduceLE, Int.reduceGE, Int.reduceGT, Int.reduceEq, Int.reduceBEq, Int.reduceNeg, Int.reduceToNat, reduceCtorEq, Nat.reducePow, Int.reducePow, ↓reduceIte, encP, encC])
  | bin x a b =>
    have hb := c_deep b ht.2.2 a.flat [x] (a.flat.length + b.front.length : Nat) (by simp) (by simpa [Tr.flat] using hl)
    simp only [List.append_assoc] at hb
    have hle : (((a.flat ++ b.flat).length : Nat) : Int) ≤ ((a.flat ++ (b.flat ++ [x])).length : Nat) := by simp; omega
    have hle1 : ((a.flat.length : Nat) : Int) ≤ ((a.flat ++ b.flat).length : Nat) := by simp; omega
    have hle2 : ((a.flat.length : Nat) : Int) ≤ ((a.flat ++ (b.flat ++ [x])).length : Nat) := by simp; omega
    have htk : (List.take (a.flat ++ b.flat).length (List.map encN (a.flat ++ (b.flat ++ [x])))).drop a.flat.length = b.flat.map encN := by rw [← List.map_take, ← List.append_assoc, List.take_left, ← List.map_drop, List.drop_left]
    have htk2 : List.take a.flat.length (List.map encN (a.flat ++ (b.flat ++ [x]))) = a.flat.map encN := by rw [← List.map_take, List.take_left]
    have w2 : IntKind.i64.wrap (((a.flat ++ b.flat).length : Int) - 1) = (a.flat.length + b.front.length : Nat) := by
      have := len_flat b; simp only [Tr.flat, List.length_append] at hl ⊢; rw [wrap64_id (by omega) (by omega)]; omega
    simp only [go_sem, Nat.reduceAdd, Nat.reduceMul, Nat.reduceSub, Nat.reduceBEq, Nat.reduceEqDiff, Nat.reduceLeDiff, Nat.reduceLT, Int.reduceLT, Int.reduceLE, Int.reduceGE, Int.reduceGT, Int.reduceEq, Int.reduceBEq, Int.reduceNeg, Int.reduceToNat, reduceCtorEq, Nat.reducePow, Int.reducePow, ↓reduceIte, Tr.kids, Tr.flat, Tr.front, cast0, cast1, cast2, w2, encC]
    refine callS_p hb ?_
    simp only [go_sem, Nat.reduceAdd, Nat.reduceMul, Nat.reduceSub, Nat.reduceBEq, Nat.reduceEqDiff, Nat.reduceLeDiff, Nat.reduceLT, Int.reduceLT, Int.reduceLE, Int.reduceGE, Int.reduceGT, Int.reduceEq, Int.reduceBEq, Int.reduceNeg, Int.reduceToNat, reduceCtorEq, Nat.reducePow, Int.reducePow, ↓reduceIte, cast0, cast1, cast2, encC, hle, hle1, hle2, htk, htk2]
    exact .mk (by simp only [go_sem, Nat.reduceAdd, Nat.reduceMul, Nat.reduceSub, Nat.reduceBEq, Nat.reduceEqDiff, Nat.reduceLeDiff, Nat.reduceLT, Int.reduceLT, Int.reduceLE, Int.reduceGE, Int.reduceGT, Int.reduceEq, Int.reduceBEq, Int.reduceNeg, Int.reduceToNat, reduceCtorEq, Nat.reducePow, Int.reducePow, ↓reduceIte, encP, encC])

end Go.Proofs.Ytmcejlhkohbdfaa
