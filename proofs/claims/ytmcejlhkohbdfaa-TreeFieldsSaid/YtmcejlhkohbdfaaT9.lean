/- An expression's operands. -/
import Derived.Test.YtmcejlhkohbdfaaT8
set_option linter.unusedVariables false
set_option linter.unusedSimpArgs false
namespace Go.Proofs.Ytmcejlhkohbdfaa
open Go Go.Ab

theorem w0m : IntKind.i64.wrap (0 - 1) = -1 := by rw [wrap64_id (by omega) (by omega)]; rfl
theorem w11 : IntKind.i64.wrap (1 - 1) = 0 := w10

def encP (l : List (List Nd)) : AV := .sl 1 (l.map encC)

theorem okC.mono {c d : List Nd} (h : okC c) (hl : d.length ≤ c.length) (hm : ∀ x ∈ d, x ∈ c) : okC d := ⟨by have := h.1; omega, fun x hx => h.2 x (hm x hx)⟩

set_option maxHeartbeats 1000000 in
theorem c_parts (t : Tr) (ht : t.ok) (hok : okC t.flat) : PCalls Try.prog 10 [encC t.flat] (.tup [encP (t.kids.map Tr.flat), .bool true]) := by
  have hl := hok.1
  refine pcalls_of_AW (pa := []) (fn := Try.f10) (ts := [2, 3]) follows_mixed Try.func10 rfl rfl (by kernel_rfl) (by kernel_rfl) (by rw [Try.ntmps10]; simp) ?_
  have hg := get_mid t.front t.root [] rfl
  rw [← t.flat_eq] at hg
  have hlf := len_flat t
  have w1 : IntKind.i64.wrap ((t.flat.length : Int) - 1) = (t.front.length : Nat) := by rw [wrap64_id (by omega) (by omega)]; omega
  have hlt : ((t.front.length : Nat) : Int) < (t.flat.length : Nat) := by omega
  simp only [go_sem, Nat.reduceAdd, Nat.reduceMul, Nat.reduceSub, Nat.reduceBEq, Nat.reduceEqDiff, Nat.reduceLeDiff, Nat.reduceLT, Int.reduceLT, Int.reduceLE, Int.reduceGE, Int.reduceGT, Int.reduceEq, Int.reduceBEq, Int.reduceNeg, Int.reduceToNat, reduceCtorEq, Nat.reducePow, Int.reducePow, ↓reduceIte]
  refine callS_p (c_right _ hl) ?_
  simp only [go_sem, Nat.reduceAdd, Nat.reduceMul, Nat.reduceSub, Nat.reduceBEq, Nat.reduceEqDiff, Nat.reduceLeDiff, Nat.reduceLT, Int.reduceLT, Int.reduceLE, Int.reduceGE, Int.reduceGT, Int.reduceEq, Int.reduceBEq, Int.reduceNeg, Int.reduceToNat, reduceCtorEq, Nat.reducePow, Int.reducePow, ↓reduceIte, wrong_flat ht, encC, w1, hlt, hg, encN]
  refine callS_p (c_arity _) ?_
  rw [Tr.arity_root ht]
  cases t with
  | leaf x =>
    simp only [go_sem, Nat.reduceAdd, Nat.reduceMul, Nat.reduceSub, Nat.reduceBEq, Nat.reduceEqDiff, Nat.reduceLeDiff, Nat.reduceLT, Int.reduceLT, Int.reduceLE, Int.reduceGE, Int.reduceGT, Int.reduceEq, Int.reduceBEq, Int.reduceNeg, Int.reduceToNat, reduceCtorEq, Nat.reducePow, Int.reducePow, ↓reduceIte, Tr.kids, List.length_nil, cast0, AW_loop, w0m]
    exact .mk (by simp only [go_sem, Nat.reduceAdd, Nat.reduceMul, Nat.reduceSub, Nat.reduceBEq, Nat.reduceEqDiff, Nat.reduceLeDiff, Nat.reduceLT, Int.reduceLT, Int.reduceLE, Int.reduceGE, Int.reduceGT, Int.reduceEq, Int.reduceBEq, Int.reduceNeg, Int.reduceToNat, reduceCtorEq, Nat.reducePow, Int.reducePow, ↓reduceIte, encP])
  | un x a =>
    have hb := c_begin a ht.2 [] [x] (by simpa [Tr.flat] using hl)
    simp only [List.nil_append, List.length_nil, cast0] at hb
    have hle : ((a.flat.length : Nat) : Int) ≤ ((a.flat ++ [x]).length : Nat) := by simp; omega
    have htk : List.take a.flat.length (List.map encN (a.flat ++ [x])) = a.flat.map encN := by rw [← List.map_take]; simp
    have hoka : okC a.flat := hok.mono (by simp [Tr.flat]) (fun y hy => by simp [Tr.flat, hy])
    simp only [go_sem, Nat.reduceAdd, Nat.reduceMul, Nat.reduceSub, Nat.reduceBEq, Nat.reduceEqDiff, Nat.reduceLeDiff, Nat.reduceLT, Int.reduceLT, Int.reduceLE, Int.reduceGE, Int.reduceGT, Int.reduceEq, Int.reduceBEq, Int.reduceNeg, Int.reduceToNat, reduceCtorEq, Nat.reducePow, Int.reducePow, ↓reduceIte, Tr.kids, Tr.flat, Tr.front, cast0, cast1, AW_loop, w10, encC]
    refine callS_p hb ?_
    simp only [go_sem, Nat.reduceAdd, Nat.reduceMul, Nat.reduceSub, Nat.reduceBEq, Nat.reduceEqDiff, Nat.reduceLeDiff, Nat.reduceLT, Int.reduceLT, Int.reduceLE, Int.reduceGE, Int.reduceGT, Int.reduceEq, Int.reduceBEq, Int.reduceNeg, Int.reduceToNat, reduceCtorEq, Nat.reducePow, Int.reducePow, ↓reduceIte, cast0, cast1, encC, hle, htk]
    refine callS_p (c_copied _ hoka) ?_
    simp only [go_sem, Nat.reduceAdd, Nat.reduceMul, Nat.reduceSub, Nat.reduceBEq, Nat.reduceEqDiff, Nat.reduceLeDiff, Nat.reduceLT, Int.reduceLT, Int.reduceLE, Int.reduceGE, Int.reduceGT, Int.reduceEq, Int.reduceBEq, Int.reduceNeg, Int.reduceToNat, reduceCtorEq, Nat.reducePow, Int.reducePow, ↓reduceIte, cast0, cast1, encC, w0m]
    rw [AW_inLoop]
    simp only [go_sem, Nat.reduceAdd, Nat.reduceMul, Nat.reduceSub, Nat.reduceBEq, Nat.reduceEqDiff, Nat.reduceLeDiff, Nat.reduceLT, Int.reduceLT, Int.reduceLE, Int.reduceGE, Int.reduceGT, Int.reduceEq, Int.reduceBEq, Int.reduceNeg, Int.reduceToNat, reduceCtorEq, Nat.reducePow, Int.reducePow, ↓reduceIte]
    exact .mk (by simp only [go_sem, Nat.reduceAdd, Nat.reduceMul, Nat.reduceSub, Nat.reduceBEq, Nat.reduceEqDiff, Nat.reduceLeDiff, Nat.reduceLT, Int.reduceLT, Int.reduceLE, Int.reduceGE, Int.reduceGT, Int.reduceEq, Int.reduceBEq, Int.reduceNeg, Int.reduceToNat, reduceCtorEq, Nat.reducePow, Int.reducePow, ↓reduceIte, encP, encC])
  | bin x a b =>
    have hb1 := c_begin b ht.2.2 a.flat [x] (by simpa [Tr.flat] using hl)
    have hb2 := c_begin a ht.2.1 [] (b.flat ++ [x]) (by simpa [Tr.flat] using hl)
    simp only [List.nil_append, List.length_nil, cast0, List.append_assoc] at hb1 hb2
    have hle : (((a.flat ++ b.flat).length : Nat) : Int) ≤ ((a.flat ++ (b.flat ++ [x])).length : Nat) := by simp; omega
    have hle1 : ((a.flat.length : Nat) : Int) ≤ ((a.flat ++ b.flat).length : Nat) := by simp; omega
    have hle2 : ((a.flat.length : Nat) : Int) ≤ ((a.flat ++ (b.flat ++ [x])).length : Nat) := by simp; omega
    have htk : (List.take (a.flat ++ b.flat).length (List.map encN (a.flat ++ (b.flat ++ [x])))).drop a.flat.length = b.flat.map encN := by rw [← List.map_take, ← List.append_assoc, List.take_left, ← List.map_drop, List.drop_left]
    have htk2 : List.take a.flat.length (List.map encN (a.flat ++ (b.flat ++ [x]))) = a.flat.map encN := by rw [← List.map_take, List.take_left]
    have hoka : okC a.flat := hok.mono (by simp [Tr.flat]) (fun y hy => by simp [Tr.flat, hy])
    have hokb : okC b.flat := hok.mono (by simp [Tr.flat]; omega) (fun y hy => by simp [Tr.flat, hy])
    simp only [go_sem, Nat.reduceAdd, Nat.reduceMul, Nat.reduceSub, Nat.reduceBEq, Nat.reduceEqDiff, Nat.reduceLeDiff, Nat.reduceLT, Int.reduceLT, Int.reduceLE, Int.reduceGE, Int.reduceGT, Int.reduceEq, Int.reduceBEq, Int.reduceNeg, Int.reduceToNat, reduceCtorEq, Nat.reducePow, Int.reducePow, ↓reduceIte, Tr.kids, Tr.flat, Tr.front, cast0, cast1, cast2, AW_loop, w21, encC]
    refine callS_p hb1 ?_
    simp only [go_sem, Nat.reduceAdd, Nat.reduceMul, Nat.reduceSub, Nat.reduceBEq, Nat.reduceEqDiff, Nat.reduceLeDiff, Nat.reduceLT, Int.reduceLT, Int.reduceLE, Int.reduceGE, Int.reduceGT, Int.reduceEq, Int.reduceBEq, Int.reduceNeg, Int.reduceToNat, reduceCtorEq, Nat.reducePow, Int.reducePow, ↓reduceIte, cast0, cast1, cast2, encC, hle, hle1, htk]
    refine callS_p (c_copied _ hokb) ?_
    simp only [go_sem, Nat.reduceAdd, Nat.reduceMul, Nat.reduceSub, Nat.reduceBEq, Nat.reduceEqDiff, Nat.reduceLeDiff, Nat.reduceLT, Int.reduceLT, Int.reduceLE, Int.reduceGE, Int.reduceGT, Int.reduceEq, Int.reduceBEq, Int.reduceNeg, Int.reduceToNat, reduceCtorEq, Nat.reducePow, Int.reducePow, ↓reduceIte, cast0, cast1, cast2, encC, w10]
    rw [AW_inLoop]
    simp only [go_sem, Nat.reduceAdd, Nat.reduceMul, Nat.reduceSub, Nat.reduceBEq, Nat.reduceEqDiff, Nat.reduceLeDiff, Nat.reduceLT, Int.reduceLT, Int.reduceLE, Int.reduceGE, Int.reduceGT, Int.reduceEq, Int.reduceBEq, Int.reduceNeg, Int.reduceToNat, reduceCtorEq, Nat.reducePow, Int.reducePow, ↓reduceIte, cast0, cast1, cast2, encC]
    refine callS_p hb2 ?_
    simp only [go_sem, Nat.reduceAdd, Nat.reduceMul, Nat.reduceSub, Nat.reduceBEq, Nat.reduceEqDiff, Nat.reduceLeDiff, Nat.reduceLT, Int.reduceLT, Int.reduceLE, Int.reduceGE, Int.reduceGT, Int.reduceEq, Int.reduceBEq, Int.reduceNeg, Int.reduceToNat, reduceCtorEq, Nat.reducePow, Int.reducePow, ↓reduceIte, cast0, cast1, cast2, encC, hle2, htk2]
    refine callS_p (c_copied _ hoka) ?_
    simp only [go_sem, Nat.reduceAdd, Nat.reduceMul, Nat.reduceSub, Nat.reduceBEq, Nat.reduceEqDiff, Nat.reduceLeDiff, Nat.reduceLT, Int.reduceLT, Int.reduceLE, Int.reduceGE, Int.reduceGT, Int.reduceEq, Int.reduceBEq, Int.reduceNeg, Int.reduceToNat, reduceCtorEq, Nat.reducePow, Int.reducePow, ↓reduceIte, cast0, cast1, cast2, encC, w0m]
    rw [AW_inLoop]
    simp only [go_sem, Nat.reduceAdd, Nat.reduceMul, Nat.reduceSub, Nat.reduceBEq, Nat.reduceEqDiff, Nat.reduceLeDiff, Nat.reduceLT, Int.reduceLT, Int.reduceLE, Int.reduceGE, Int.reduceGT, Int.reduceEq, Int.reduceBEq, Int.reduceNeg, Int.reduceToNat, reduceCtorEq, Nat.reducePow, Int.reducePow, ↓reduceIte]
    exact .mk (by simp only [go_sem, Nat.reduceAdd, Nat.reduceMul, Nat.reduceSub, Nat.reduceBEq, Nat.reduceEqDiff, Nat.reduceLeDiff, Nat.reduceLT, Int.reduceLT, Int.reduceLE, Int.reduceGE, Int.reduceGT, Int.reduceEq, Int.reduceBEq, Int.reduceNeg, Int.reduceToNat, reduceCtorEq, Nat.reducePow, Int.reducePow, ↓reduceIte, encP, encC])

theorem c_parts0 (c : List Nd) (hc : ¬ wrong c < 0) (hl : c.length < 1000000) : PCalls Try.prog 10 [encC c] (.tup [.nilsl, .bool false]) := by
  refine pcalls_of_AW (pa := []) (fn := Try.f10) (ts := [2, 3]) follows_mixed Try.func10 rfl rfl (by kernel_rfl) (by kernel_rfl) (by rw [Try.ntmps10]; simp) ?_
  simp only [go_sem, Nat.reduceAdd, Nat.reduceMul, Nat.reduceSub, Nat.reduceBEq, Nat.reduceEqDiff, Nat.reduceLeDiff, Nat.reduceLT, Int.reduceLT, Int.reduceLE, Int.reduceGE, Int.reduceGT, Int.reduceEq, Int.reduceBEq, Int.reduceNeg, Int.reduceToNat, reduceCtorEq, Nat.reducePow, Int.reducePow, ↓reduceIte]
  refine callS_p (c_right _ hl) ?_
  simp only [go_sem, Nat.reduceAdd, Nat.reduceMul, Nat.reduceSub, Nat.reduceBEq, Nat.reduceEqDiff, Nat.reduceLeDiff, Nat.reduceLT, Int.reduceLT, Int.reduceLE, Int.reduceGE, Int.reduceGT, Int.reduceEq, Int.reduceBEq, Int.reduceNeg, Int.reduceToNat, reduceCtorEq, Nat.reducePow, Int.reducePow, ↓reduceIte, dec_false hc, encC]
  exact .mk (by simp only [go_sem, Nat.reduceAdd, Nat.reduceMul, Nat.reduceSub, Nat.reduceBEq, Nat.reduceEqDiff, Nat.reduceLeDiff, Nat.reduceLT, Int.reduceLT, Int.reduceLE, Int.reduceGE, Int.reduceGT, Int.reduceEq, Int.reduceBEq, Int.reduceNeg, Int.reduceToNat, reduceCtorEq, Nat.reducePow, Int.reducePow, ↓reduceIte])

end Go.Proofs.Ytmcejlhkohbdfaa
