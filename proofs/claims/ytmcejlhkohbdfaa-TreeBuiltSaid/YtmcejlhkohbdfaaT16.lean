/- TreeWhole. -/
import Derived.Test.YtmcejlhkohbdfaaT15
set_option linter.unusedVariables false
set_option linter.unusedSimpArgs false
namespace Go.Proofs.Ytmcejlhkohbdfaa
open Go Go.Ab Go.Num

def dmx (l : List Tr) : Nat := l.foldl (fun d a => max d a.depth) 0
theorem dmx_snoc (l : List Tr) (a : Tr) : dmx (l ++ [a]) = max (dmx l) a.depth := by simp [dmx]
theorem depth_dmx (t : Tr) : t.depth = dmx t.kids + 1 := by cases t <;> simp [dmx, Tr.depth, Tr.kids]
theorem src_eq (l : List Nd) : (l.map encN).flatMap (fun x => (x.cells?).getD []) = flatC encN l := by simp [flatC, List.flatMap_map]
theorem flatC_app (a b : List Nd) : flatC encN (a ++ b) = flatC encN a ++ flatC encN b := by simp [flatC]
theorem flatN_len (l : List Nd) : (flatC encN l).length = l.length * 3 := flatC_length elt_nd l

theorem own_frz {h : Heap} {b n : Nat} {l : List Nd} (hn : n = l.length) (hb : h b = some (flatC encN l)) : frz1 h (.own b 0 n 3) = encC l := by
  subst hn; exact frz1_flatC elt_nd hb

theorem dmx_le (l : List Tr) (n : Nat) (h : ∀ a ∈ l, a.depth ≤ n) : dmx l ≤ n := by
  have gen : ∀ (l : List Tr) (d : Nat), d ≤ n → (∀ a ∈ l, a.depth ≤ n) → l.foldl (fun d a => max d a.depth) d ≤ n := by
    intro l
    induction l with
    | nil => intro d hd _; exact hd
    | cons a l ih => intro d hd h; exact ih _ (by have := h a (by simp); show max d a.depth ≤ n; omega) fun b hb => h b (by simp [hb])
  exact gen l 0 (by omega) h

set_option maxHeartbeats 4000000 in
theorem c_whole (c : List Nd) (hd : ∀ x ∈ c, Wd x.n) : PCalls Try.prog 4 [encC c] (.bool true) := by
  refine pcalls_of_AW (pa := []) (fn := Try.f4) (ts := [2]) follows_mixed Try.func4 rfl rfl (by kernel_rfl) (by kernel_rfl) (by rw [Try.ntmps4]; simp) ?_
  simp only [go_sem, Nat.reduceAdd, Nat.reduceMul, Nat.reduceSub, Nat.reduceBEq, Nat.reduceEqDiff, Nat.reduceLeDiff, Nat.reduceLT, Int.reduceLT, Int.reduceLE, Int.reduceGE, Int.reduceGT, Int.reduceEq, Int.reduceBEq, Int.reduceNeg, Int.reduceToNat, reduceCtorEq, Nat.reducePow, Int.reducePow, ↓reduceIte]
  refine callS_p (c_long c 100 10 (by omega)) ?_
  cases hlong : longB c 100 10 with
  | true =>
    simp only [go_sem, Nat.reduceAdd, Nat.reduceMul, Nat.reduceSub, Nat.reduceBEq, Nat.reduceEqDiff, Nat.reduceLeDiff, Nat.reduceLT, Int.reduceLT, Int.reduceLE, Int.reduceGE, Int.reduceGT, Int.reduceEq, Int.reduceBEq, Int.reduceNeg, Int.reduceToNat, reduceCtorEq, Nat.reducePow, Int.reducePow, ↓reduceIte]
    refine callS_p c_works ?_
    simp only [go_sem, Nat.reduceAdd, Nat.reduceMul, Nat.reduceSub, Nat.reduceBEq, Nat.reduceEqDiff, Nat.reduceLeDiff, Nat.reduceLT, Int.reduceLT, Int.reduceLE, Int.reduceGE, Int.reduceGT, Int.reduceEq, Int.reduceBEq, Int.reduceNeg, Int.reduceToNat, reduceCtorEq, Nat.reducePow, Int.reducePow, ↓reduceIte]
    exact .mk (by simp only [go_sem, Nat.reduceAdd, Nat.reduceMul, Nat.reduceSub, Nat.reduceBEq, Nat.reduceEqDiff, Nat.reduceLeDiff, Nat.reduceLT, Int.reduceLT, Int.reduceLE, Int.reduceGE, Int.reduceGT, Int.reduceEq, Int.reduceBEq, Int.reduceNeg, Int.reduceToNat, reduceCtorEq, Nat.reducePow, Int.reducePow, ↓reduceIte])
  | false =>
    have hok := okC_of hlong (by omega) (by omega) hd
    have hl := hok.1
    simp only [go_sem, Nat.reduceAdd, Nat.reduceMul, Nat.reduceSub, Nat.reduceBEq, Nat.reduceEqDiff, Nat.reduceLeDiff, Nat.reduceLT, Int.reduceLT, Int.reduceLE, Int.reduceGE, Int.reduceGT, Int.reduceEq, Int.reduceBEq, Int.reduceNeg, Int.reduceToNat, reduceCtorEq, Nat.reducePow, Int.reducePow, ↓reduceIte]
    refine callS_p (c_to c hl) ?_
    simp only [go_sem, Nat.reduceAdd, Nat.reduceMul, Nat.reduceSub, Nat.reduceBEq, Nat.reduceEqDiff, Nat.reduceLeDiff, Nat.reduceLT, Int.reduceLT, Int.reduceLE, Int.reduceGE, Int.reduceGT, Int.reduceEq, Int.reduceBEq, Int.reduceNeg, Int.reduceToNat, reduceCtorEq, Nat.reducePow, Int.reducePow, ↓reduceIte]
    by_cases hc : wrong c < 0
    · obtain ⟨t, ht, rfl⟩ := parse hc
      have hk := kids_le t
      refine callS_p (c_parts t ht hok) ?_
      simp only [go_sem, Nat.reduceAdd, Nat.reduceMul, Nat.reduceSub, Nat.reduceBEq, Nat.reduceEqDiff, Nat.reduceLeDiff, Nat.reduceLT, Int.reduceLT, Int.reduceLE, Int.reduceGE, Int.reduceGT, Int.reduceEq, Int.reduceBEq, Int.reduceNeg, Int.reduceToNat, reduceCtorEq, Nat.reducePow, Int.reducePow, ↓reduceIte, encP]
      refine AW_while (fun m st => ∃ i, i + m = t.kids.length ∧ st.τ 3 = encC t.flat ∧ st.τ 4 = encP (t.kids.map Tr.flat) ∧ st.τ 7 = .int .i64 (dmx (t.kids.take i) : Nat) ∧ st.τ 8 = .int .i64 i ∧ Acc 3 encN st (st.τ 6) ((t.kids.take i).flatMap Tr.flat)) t.kids.length ?_ ?_
      · exact ⟨0, by omega, by simp only [go_sem, Nat.reduceAdd, Nat.reduceMul, Nat.reduceSub, Nat.reduceBEq, Nat.reduceEqDiff, Nat.reduceLeDiff, Nat.reduceLT, Int.reduceLT, Int.reduceLE, Int.reduceGE, Int.reduceGT, Int.reduceEq, Int.reduceBEq, Int.reduceNeg, Int.reduceToNat, reduceCtorEq, Nat.reducePow, Int.reducePow, ↓reduceIte], by simp only [go_sem, Nat.reduceAdd, Nat.reduceMul, Nat.reduceSub, Nat.reduceBEq, Nat.reduceEqDiff, Nat.reduceLeDiff, Nat.reduceLT, Int.reduceLT, Int.reduceLE, Int.reduceGE, Int.reduceGT, Int.reduceEq, Int.reduceBEq, Int.reduceNeg, Int.reduceToNat, reduceCtorEq, Nat.reducePow, Int.reducePow, ↓reduceIte, encP], by simp only [go_sem, Nat.reduceAdd, Nat.reduceMul, Nat.reduceSub, Nat.reduceBEq, Nat.reduceEqDiff, Nat.reduceLeDiff, Nat.reduceLT, Int.reduceLT, Int.reduceLE, Int.reduceGE, Int.reduceGT, Int.reduceEq, Int.reduceBEq, Int.reduceNeg, Int.reduceToNat, reduceCtorEq, Nat.reducePow, Int.reducePow, ↓reduceIte]; rfl, by simp only [go_sem, Nat.reduceAdd, Nat.reduceMul, Nat.reduceSub, Nat.reduceBEq, Nat.reduceEqDiff, Nat.reduceLeDiff, Nat.reduceLT, Int.reduceLT, Int.reduceLE, Int.reduceGE, Int.reduceGT, Int.reduceEq, Int.reduceBEq, Int.reduceNeg, Int.reduceToNat, reduceCtorEq, Nat.reducePow, Int.reducePow, ↓reduceIte]; rfl, .inl ⟨by simp, by simp only [go_sem, Nat.reduceAdd, Nat.reduceMul, Nat.reduceSub, Nat.reduceBEq, Nat.reduceEqDiff, Nat.reduceLeDiff, Nat.reduceLT, Int.reduceLT, Int.reduceLE, Int.reduceGE, Int.reduceGT, Int.reduceEq, Int.reduceBEq, Int.reduceNeg, Int.reduceToNat, reduceCtorEq, Nat.reducePow, Int.reducePow, ↓reduceIte]⟩⟩
      · rintro m st ⟨i, hi, h3, h4, h7, h8, hacc⟩ next
        by_cases hlt : i < t.kids.length
        · have hlt' : ((i : Nat) : Int) < (t.kids.length : Nat) := by omega
          have hlm : i < (t.kids.map Tr.flat).length := by simpa using hlt
          have ho : okC t.kids[i].flat := hok.kid _ (List.getElem_mem hlt)
          have hki : t.kids[i].ok := Tr.kids_ok ht _ (List.getElem_mem hlt)
          have hfp := t.kids[i].flat_pos
          have hne : (t.kids[i].flat.length = 0) = False := eq_false (by omega)
          have hle : t.kids[i].flat.length ≤ 274877906944 := by have := ho.1; omega
          have htk : t.kids.take (i + 1) = t.kids.take i ++ [t.kids[i]] := take_snoc hlt
          have hfl : (t.kids.take (i + 1)).flatMap Tr.flat = (t.kids.take i).flatMap Tr.flat ++ t.kids[i].flat := by rw [htk, List.flatMap_append, List.flatMap_singleton]
          have hmx : (if ((dmx (t.kids.take i) : Nat) : Int) < (t.kids[i].depth : Nat) then ((t.kids[i].depth : Nat) : Int) else ((dmx (t.kids.take i) : Nat) : Int)) = ((dmx (t.kids.take (i + 1)) : Nat) : Int) := by
            rw [htk, dmx_snoc]; split <;> omega
          simp only [go_sem, Nat.reduceAdd, Nat.reduceMul, Nat.reduceSub, Nat.reduceBEq, Nat.reduceEqDiff, Nat.reduceLeDiff, Nat.reduceLT, Int.reduceLT, Int.reduceLE, Int.reduceGE, Int.reduceGT, Int.reduceEq, Int.reduceBEq, Int.reduceNeg, Int.reduceToNat, reduceCtorEq, Nat.reducePow, Int.reducePow, ↓reduceIte, h3, h4, h7, h8, encP, hlt', getD_map_lt _ _ _ _ hlm, List.getElem_map, encC]
          refine callS_p (c_right _ ho.1) ?_
          simp only [go_sem, Nat.reduceAdd, Nat.reduceMul, Nat.reduceSub, Nat.reduceBEq, Nat.reduceEqDiff, Nat.reduceLeDiff, Nat.reduceLT, Int.reduceLT, Int.reduceLE, Int.reduceGE, Int.reduceGT, Int.reduceEq, Int.reduceBEq, Int.reduceNeg, Int.reduceToNat, reduceCtorEq, Nat.reducePow, Int.reducePow, ↓reduceIte, wrong_flat hki, h3, h4, h7, h8, encP, hlt', getD_map_lt _ _ _ _ hlm, List.getElem_map, encC]
          refine callS_p (c_depth _ hki ho.1) ?_
          rcases hacc with ⟨hnil, h6⟩ | ⟨b, h6, hb, hbn⟩
          · simp only [go_sem, Nat.reduceAdd, Nat.reduceMul, Nat.reduceSub, Nat.reduceBEq, Nat.reduceEqDiff, Nat.reduceLeDiff, Nat.reduceLT, Int.reduceLT, Int.reduceLE, Int.reduceGE, Int.reduceGT, Int.reduceEq, Int.reduceBEq, Int.reduceNeg, Int.reduceToNat, reduceCtorEq, Nat.reducePow, Int.reducePow, ↓reduceIte, h3, h4, h6, h7, h8, encP, hlt', getD_map_lt _ _ _ _ hlm, List.getElem_map, encC, hne, hle, hmx]
            refine next (m - 1) _ (by omega) ⟨i + 1, by omega, by simp only [go_sem, Nat.reduceAdd, Nat.reduceMul, Nat.reduceSub, Nat.reduceBEq, Nat.reduceEqDiff, Nat.reduceLeDiff, Nat.reduceLT, Int.reduceLT, Int.reduceLE, Int.reduceGE, Int.reduceGT, Int.reduceEq, Int.reduceBEq, Int.reduceNeg, Int.reduceToNat, reduceCtorEq, Nat.reducePow, Int.reducePow, ↓reduceIte, h3, encC], by simp only [go_sem, Nat.reduceAdd, Nat.reduceMul, Nat.reduceSub, Nat.reduceBEq, Nat.reduceEqDiff, Nat.reduceLeDiff, Nat.reduceLT, Int.reduceLT, Int.reduceLE, Int.reduceGE, Int.reduceGT, Int.reduceEq, Int.reduceBEq, Int.reduceNeg, Int.reduceToNat, reduceCtorEq, Nat.reducePow, Int.reducePow, ↓reduceIte, h4, encP], by simp only [go_sem, Nat.reduceAdd, Nat.reduceMul, Nat.reduceSub, Nat.reduceBEq, Nat.reduceEqDiff, Nat.reduceLeDiff, Nat.reduceLT, Int.reduceLT, Int.reduceLE, Int.reduceGE, Int.reduceGT, Int.reduceEq, Int.reduceBEq, Int.reduceNeg, Int.reduceToNat, reduceCtorEq, Nat.reducePow, Int.reducePow, ↓reduceIte], by simp only [go_sem, Nat.reduceAdd, Nat.reduceMul, Nat.reduceSub, Nat.reduceBEq, Nat.reduceEqDiff, Nat.reduceLeDiff, Nat.reduceLT, Int.reduceLT, Int.reduceLE, Int.reduceGE, Int.reduceGT, Int.reduceEq, Int.reduceBEq, Int.reduceNeg, Int.reduceToNat, reduceCtorEq, Nat.reducePow, Int.reducePow, ↓reduceIte]; rw [wrap64_id (by omega) (by omega)]; rfl, .inr ⟨_, by rw [hfl, hnil, List.nil_append]; simp only [go_sem, Nat.reduceAdd, Nat.reduceMul, Nat.reduceSub, Nat.reduceBEq, Nat.reduceEqDiff, Nat.reduceLeDiff, Nat.reduceLT, Int.reduceLT, Int.reduceLE, Int.reduceGE, Int.reduceGT, Int.reduceEq, Int.reduceBEq, Int.reduceNeg, Int.reduceToNat, reduceCtorEq, Nat.reducePow, Int.reducePow, ↓reduceIte]; rfl, by rw [hfl, hnil, List.nil_append]; simp only [go_sem, Nat.reduceAdd, Nat.reduceMul, Nat.reduceSub, Nat.reduceBEq, Nat.reduceEqDiff, Nat.reduceLeDiff, Nat.reduceLT, Int.reduceLT, Int.reduceLE, Int.reduceGE, Int.reduceGT, Int.reduceEq, Int.reduceBEq, Int.reduceNeg, Int.reduceToNat, reduceCtorEq, Nat.reducePow, Int.reducePow, ↓reduceIte]; exact congrArg some (src_eq _), by simp only [go_sem, Nat.reduceAdd, Nat.reduceMul, Nat.reduceSub, Nat.reduceBEq, Nat.reduceEqDiff, Nat.reduceLeDiff, Nat.reduceLT, Int.reduceLT, Int.reduceLE, Int.reduceGE, Int.reduceGT, Int.reduceEq, Int.reduceBEq, Int.reduceNeg, Int.reduceToNat, reduceCtorEq, Nat.reducePow, Int.reducePow, ↓reduceIte]; omega⟩⟩
          · have hll := flatN_len ((t.kids.take i).flatMap Tr.flat)
            have hl38 : ((t.kids.take i).flatMap Tr.flat).length ≤ 274877906944 := by
              have h1 : ((t.kids.take i).flatMap Tr.flat).length ≤ t.front.length := by
                rw [Tr.front_kids]
                have : t.kids = t.kids.take i ++ t.kids.drop i := (List.take_append_drop i _).symm
                conv => rhs; rw [this, List.flatMap_append, List.length_append]
                omega
              have := len_flat t; omega
            simp only [go_sem, Nat.reduceAdd, Nat.reduceMul, Nat.reduceSub, Nat.reduceBEq, Nat.reduceEqDiff, Nat.reduceLeDiff, Nat.reduceLT, Int.reduceLT, Int.reduceLE, Int.reduceGE, Int.reduceGT, Int.reduceEq, Int.reduceBEq, Int.reduceNeg, Int.reduceToNat, reduceCtorEq, Nat.reducePow, Int.reducePow, ↓reduceIte, h3, h4, h6, h7, h8, encP, hlt', getD_map_lt _ _ _ _ hlm, List.getElem_map, encC, hne, hle, hmx, upd1_old _ _ _ _ _ hbn, hb, old_ne hbn, new_ne hbn, hll, hl38]
            refine next (m - 1) _ (by omega) ⟨i + 1, by omega, by simp only [go_sem, Nat.reduceAdd, Nat.reduceMul, Nat.reduceSub, Nat.reduceBEq, Nat.reduceEqDiff, Nat.reduceLeDiff, Nat.reduceLT, Int.reduceLT, Int.reduceLE, Int.reduceGE, Int.reduceGT, Int.reduceEq, Int.reduceBEq, Int.reduceNeg, Int.reduceToNat, reduceCtorEq, Nat.reducePow, Int.reducePow, ↓reduceIte, h3, encC], by simp only [go_sem, Nat.reduceAdd, Nat.reduceMul, Nat.reduceSub, Nat.reduceBEq, Nat.reduceEqDiff, Nat.reduceLeDiff, Nat.reduceLT, Int.reduceLT, Int.reduceLE, Int.reduceGE, Int.reduceGT, Int.reduceEq, Int.reduceBEq, Int.reduceNeg, Int.reduceToNat, reduceCtorEq, Nat.reducePow, Int.reducePow, ↓reduceIte, h4, encP], by simp only [go_sem, Nat.reduceAdd, Nat.reduceMul, Nat.reduceSub, Nat.reduceBEq, Nat.reduceEqDiff, Nat.reduceLeDiff, Nat.reduceLT, Int.reduceLT, Int.reduceLE, Int.reduceGE, Int.reduceGT, Int.reduceEq, Int.reduceBEq, Int.reduceNeg, Int.reduceToNat, reduceCtorEq, Nat.reducePow, Int.reducePow, ↓reduceIte], by simp only [go_sem, Nat.reduceAdd, Nat.reduceMul, Nat.reduceSub, Nat.reduceBEq, Nat.reduceEqDiff, Nat.reduceLeDiff, Nat.reduceLT, Int.reduceLT, Int.reduceLE, Int.reduceGE, Int.reduceGT, Int.reduceEq, Int.reduceBEq, Int.reduceNeg, Int.reduceToNat, reduceCtorEq, Nat.reducePow, Int.reducePow, ↓reduceIte]; rw [wrap64_id (by omega) (by omega)]; rfl, .inr ⟨_, by rw [hfl, List.length_append]; simp only [go_sem, Nat.reduceAdd, Nat.reduceMul, Nat.reduceSub, Nat.reduceBEq, Nat.reduceEqDiff, Nat.reduceLeDiff, Nat.reduceLT, Int.reduceLT, Int.reduceLE, Int.reduceGE, Int.reduceGT, Int.reduceEq, Int.reduceBEq, Int.reduceNeg, Int.reduceToNat, reduceCtorEq, Nat.reducePow, Int.reducePow, ↓reduceIte]; rfl, by rw [hfl, flatC_app]; simp only [go_sem, Nat.reduceAdd, Nat.reduceMul, Nat.reduceSub, Nat.reduceBEq, Nat.reduceEqDiff, Nat.reduceLeDiff, Nat.reduceLT, Int.reduceLT, Int.reduceLE, Int.reduceGE, Int.reduceGT, Int.reduceEq, Int.reduceBEq, Int.reduceNeg, Int.reduceToNat, reduceCtorEq, Nat.reducePow, Int.reducePow, ↓reduceIte, List.take_of_length_le (Nat.le_of_eq hll)]; exact congrArg some (congrArg _ (src_eq _)), by simp only [go_sem, Nat.reduceAdd, Nat.reduceMul, Nat.reduceSub, Nat.reduceBEq, Nat.reduceEqDiff, Nat.reduceLeDiff, Nat.reduceLT, Int.reduceLT, Int.reduceLE, Int.reduceGE, Int.reduceGT, Int.reduceEq, Int.reduceBEq, Int.reduceNeg, Int.reduceToNat, reduceCtorEq, Nat.reducePow, Int.reducePow, ↓reduceIte]; omega⟩⟩
        · have hlt' := dec_false (show ¬ ((i : Nat) : Int) < (t.kids.length : Nat) by omega)
          have htk : t.kids.take i = t.kids := List.take_of_length_le (by omega)
          rw [htk, ← Tr.front_kids] at hacc
          rw [htk] at h7
          have hfl := len_flat t
          have hz := beq_false_of (show ((t.flat.length : Nat) : Int) ≠ 0 by omega)
          have w1 : IntKind.i64.wrap ((t.flat.length : Int) - 1) = (t.front.length : Nat) := by rw [wrap64_id (by omega) (by omega)]; omega
          have hlt2 : ((t.front.length : Nat) : Int) < (t.flat.length : Nat) := by omega
          have hg := get_mid t.front t.root [] rfl
          rw [← t.flat_eq] at hg
          have hfe : flatC encN t.flat = flatC encN t.front ++ [.int .i64 t.root.op, .int .i64 t.root.i, .sl 1 (t.root.n.map fun x : Nat => .int .u32 (x : Int))] := by
            rw [t.flat_eq, flatC_app]; rfl
          have hdle := t.depth_le
          have hdd := depth_dmx t
          have w2 : IntKind.i64.wrap (((dmx t.kids : Nat) : Int) + 1) = (t.depth : Nat) := by rw [wrap64_id (by omega) (by omega)]; omega
          rcases hacc with ⟨hnil, h6⟩ | ⟨b, h6, hb, hbn⟩
          · simp only [go_sem, Nat.reduceAdd, Nat.reduceMul, Nat.reduceSub, Nat.reduceBEq, Nat.reduceEqDiff, Nat.reduceLeDiff, Nat.reduceLT, Int.reduceLT, Int.reduceLE, Int.reduceGE, Int.reduceGT, Int.reduceEq, Int.reduceBEq, Int.reduceNeg, Int.reduceToNat, reduceCtorEq, Nat.reducePow, Int.reducePow, ↓reduceIte, h3, h4, h6, h7, h8, encP, encC, hlt', hz, w1, hlt2, hg, encN]
            refine callS_q (c_same t.flat t.flat hok hok) ?_ (by simp only [go_sem, Nat.reduceAdd, Nat.reduceMul, Nat.reduceSub, Nat.reduceBEq, Nat.reduceEqDiff, Nat.reduceLeDiff, Nat.reduceLT, Int.reduceLT, Int.reduceLE, Int.reduceGE, Int.reduceGT, Int.reduceEq, Int.reduceBEq, Int.reduceNeg, Int.reduceToNat, reduceCtorEq, Nat.reducePow, Int.reducePow, ↓reduceIte]; rfl) ?_
            · exact congrArg (fun x => [x, encC t.flat]) (own_frz (by rw [hfl, hnil]; rfl) (by simp only [go_sem, Nat.reduceAdd, Nat.reduceMul, Nat.reduceSub, Nat.reduceBEq, Nat.reduceEqDiff, Nat.reduceLeDiff, Nat.reduceLT, Int.reduceLT, Int.reduceLE, Int.reduceGE, Int.reduceGT, Int.reduceEq, Int.reduceBEq, Int.reduceNeg, Int.reduceToNat, reduceCtorEq, Nat.reducePow, Int.reducePow, ↓reduceIte]; rw [hfe, hnil]; rfl))
            · simp only [go_sem, Nat.reduceAdd, Nat.reduceMul, Nat.reduceSub, Nat.reduceBEq, Nat.reduceEqDiff, Nat.reduceLeDiff, Nat.reduceLT, Int.reduceLT, Int.reduceLE, Int.reduceGE, Int.reduceGT, Int.reduceEq, Int.reduceBEq, Int.reduceNeg, Int.reduceToNat, reduceCtorEq, Nat.reducePow, Int.reducePow, ↓reduceIte, sameL_refl, h3, h4, h7, encC]
              refine callS_p (c_depth t ht hl) ?_
              simp only [go_sem, Nat.reduceAdd, Nat.reduceMul, Nat.reduceSub, Nat.reduceBEq, Nat.reduceEqDiff, Nat.reduceLeDiff, Nat.reduceLT, Int.reduceLT, Int.reduceLE, Int.reduceGE, Int.reduceGT, Int.reduceEq, Int.reduceBEq, Int.reduceNeg, Int.reduceToNat, reduceCtorEq, Nat.reducePow, Int.reducePow, ↓reduceIte, h3, h4, h7, w2, encP, encC]
              refine callS_p (c_arity _) ?_
              rw [Tr.arity_root ht]
              simp only [go_sem, Nat.reduceAdd, Nat.reduceMul, Nat.reduceSub, Nat.reduceBEq, Nat.reduceEqDiff, Nat.reduceLeDiff, Nat.reduceLT, Int.reduceLT, Int.reduceLE, Int.reduceGE, Int.reduceGT, Int.reduceEq, Int.reduceBEq, Int.reduceNeg, Int.reduceToNat, reduceCtorEq, Nat.reducePow, Int.reducePow, ↓reduceIte]
              refine callS_p c_works ?_
              simp only [go_sem, Nat.reduceAdd, Nat.reduceMul, Nat.reduceSub, Nat.reduceBEq, Nat.reduceEqDiff, Nat.reduceLeDiff, Nat.reduceLT, Int.reduceLT, Int.reduceLE, Int.reduceGE, Int.reduceGT, Int.reduceEq, Int.reduceBEq, Int.reduceNeg, Int.reduceToNat, reduceCtorEq, Nat.reducePow, Int.reducePow, ↓reduceIte]
              exact .mk (by simp only [go_sem, Nat.reduceAdd, Nat.reduceMul, Nat.reduceSub, Nat.reduceBEq, Nat.reduceEqDiff, Nat.reduceLeDiff, Nat.reduceLT, Int.reduceLT, Int.reduceLE, Int.reduceGE, Int.reduceGT, Int.reduceEq, Int.reduceBEq, Int.reduceNeg, Int.reduceToNat, reduceCtorEq, Nat.reducePow, Int.reducePow, ↓reduceIte])
          · have hll := flatN_len t.front
            have hl38 : t.front.length ≤ 274877906944 := by omega
            simp only [go_sem, Nat.reduceAdd, Nat.reduceMul, Nat.reduceSub, Nat.reduceBEq, Nat.reduceEqDiff, Nat.reduceLeDiff, Nat.reduceLT, Int.reduceLT, Int.reduceLE, Int.reduceGE, Int.reduceGT, Int.reduceEq, Int.reduceBEq, Int.reduceNeg, Int.reduceToNat, reduceCtorEq, Nat.reducePow, Int.reducePow, ↓reduceIte, h3, h4, h6, h7, h8, encP, encC, hlt', hz, w1, hlt2, hg, encN, upd1_old _ _ _ _ _ hbn, hb, old_ne hbn, new_ne hbn, hll, hl38]
            refine callS_q (c_same t.flat t.flat hok hok) ?_ (by simp only [go_sem, Nat.reduceAdd, Nat.reduceMul, Nat.reduceSub, Nat.reduceBEq, Nat.reduceEqDiff, Nat.reduceLeDiff, Nat.reduceLT, Int.reduceLT, Int.reduceLE, Int.reduceGE, Int.reduceGT, Int.reduceEq, Int.reduceBEq, Int.reduceNeg, Int.reduceToNat, reduceCtorEq, Nat.reducePow, Int.reducePow, ↓reduceIte]; rfl) ?_
            · exact congrArg (fun x => [x, encC t.flat]) (own_frz hfl.symm (by simp only [go_sem, Nat.reduceAdd, Nat.reduceMul, Nat.reduceSub, Nat.reduceBEq, Nat.reduceEqDiff, Nat.reduceLeDiff, Nat.reduceLT, Int.reduceLT, Int.reduceLE, Int.reduceGE, Int.reduceGT, Int.reduceEq, Int.reduceBEq, Int.reduceNeg, Int.reduceToNat, reduceCtorEq, Nat.reducePow, Int.reducePow, ↓reduceIte]; rw [hfe, List.take_of_length_le (Nat.le_of_eq hll)]))
            · simp only [go_sem, Nat.reduceAdd, Nat.reduceMul, Nat.reduceSub, Nat.reduceBEq, Nat.reduceEqDiff, Nat.reduceLeDiff, Nat.reduceLT, Int.reduceLT, Int.reduceLE, Int.reduceGE, Int.reduceGT, Int.reduceEq, Int.reduceBEq, Int.reduceNeg, Int.reduceToNat, reduceCtorEq, Nat.reducePow, Int.reducePow, ↓reduceIte, sameL_refl, h3, h4, h7, encC]
              refine callS_p (c_depth t ht hl) ?_
              simp only [go_sem, Nat.reduceAdd, Nat.reduceMul, Nat.reduceSub, Nat.reduceBEq, Nat.reduceEqDiff, Nat.reduceLeDiff, Nat.reduceLT, Int.reduceLT, Int.reduceLE, Int.reduceGE, Int.reduceGT, Int.reduceEq, Int.reduceBEq, Int.reduceNeg, Int.reduceToNat, reduceCtorEq, Nat.reducePow, Int.reducePow, ↓reduceIte, h3, h4, h7, w2, encP, encC, old_ne hbn, new_ne hbn, upd1_old _ _ _ _ _ hbn, hb]
              refine callS_p (c_arity _) ?_
              rw [Tr.arity_root ht]
              simp only [go_sem, Nat.reduceAdd, Nat.reduceMul, Nat.reduceSub, Nat.reduceBEq, Nat.reduceEqDiff, Nat.reduceLeDiff, Nat.reduceLT, Int.reduceLT, Int.reduceLE, Int.reduceGE, Int.reduceGT, Int.reduceEq, Int.reduceBEq, Int.reduceNeg, Int.reduceToNat, reduceCtorEq, Nat.reducePow, Int.reducePow, ↓reduceIte]
              refine callS_p c_works ?_
              simp only [go_sem, Nat.reduceAdd, Nat.reduceMul, Nat.reduceSub, Nat.reduceBEq, Nat.reduceEqDiff, Nat.reduceLeDiff, Nat.reduceLT, Int.reduceLT, Int.reduceLE, Int.reduceGE, Int.reduceGT, Int.reduceEq, Int.reduceBEq, Int.reduceNeg, Int.reduceToNat, reduceCtorEq, Nat.reducePow, Int.reducePow, ↓reduceIte]
              exact .mk (by simp only [go_sem, Nat.reduceAdd, Nat.reduceMul, Nat.reduceSub, Nat.reduceBEq, Nat.reduceEqDiff, Nat.reduceLeDiff, Nat.reduceLT, Int.reduceLT, Int.reduceLE, Int.reduceGE, Int.reduceGT, Int.reduceEq, Int.reduceBEq, Int.reduceNeg, Int.reduceToNat, reduceCtorEq, Nat.reducePow, Int.reducePow, ↓reduceIte])
    · have hc' := dec_false hc
      refine callS_p (c_parts0 c hc hl) ?_
      simp only [go_sem, Nat.reduceAdd, Nat.reduceMul, Nat.reduceSub, Nat.reduceBEq, Nat.reduceEqDiff, Nat.reduceLeDiff, Nat.reduceLT, Int.reduceLT, Int.reduceLE, Int.reduceGE, Int.reduceGT, Int.reduceEq, Int.reduceBEq, Int.reduceNeg, Int.reduceToNat, reduceCtorEq, Nat.reducePow, Int.reducePow, ↓reduceIte]
      refine callS_p (c_depth0 c hc hl) ?_
      simp only [go_sem, Nat.reduceAdd, Nat.reduceMul, Nat.reduceSub, Nat.reduceBEq, Nat.reduceEqDiff, Nat.reduceLeDiff, Nat.reduceLT, Int.reduceLT, Int.reduceLE, Int.reduceGE, Int.reduceGT, Int.reduceEq, Int.reduceBEq, Int.reduceNeg, Int.reduceToNat, reduceCtorEq, Nat.reducePow, Int.reducePow, ↓reduceIte]
      refine callS_p c_works ?_
      simp only [go_sem, Nat.reduceAdd, Nat.reduceMul, Nat.reduceSub, Nat.reduceBEq, Nat.reduceEqDiff, Nat.reduceLeDiff, Nat.reduceLT, Int.reduceLT, Int.reduceLE, Int.reduceGE, Int.reduceGT, Int.reduceEq, Int.reduceBEq, Int.reduceNeg, Int.reduceToNat, reduceCtorEq, Nat.reducePow, Int.reducePow, ↓reduceIte]
      exact .mk (by simp only [go_sem, Nat.reduceAdd, Nat.reduceMul, Nat.reduceSub, Nat.reduceBEq, Nat.reduceEqDiff, Nat.reduceLeDiff, Nat.reduceLT, Int.reduceLT, Int.reduceLE, Int.reduceGE, Int.reduceGT, Int.reduceEq, Int.reduceBEq, Int.reduceNeg, Int.reduceToNat, reduceCtorEq, Nat.reducePow, Int.reducePow, ↓reduceIte])

end Go.Proofs.Ytmcejlhkohbdfaa
