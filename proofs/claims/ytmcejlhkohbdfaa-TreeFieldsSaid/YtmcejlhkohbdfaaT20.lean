/- How many nodes a field has; fields that are alike; long ones. -/
import Derived.Test.YtmcejlhkohbdfaaT19
set_option linter.unusedVariables false
set_option linter.unusedSimpArgs false
namespace Go.Proofs.Ytmcejlhkohbdfaa
open Go Go.Ab Go.Num

def sumL (l : List (List Nd)) : Nat := l.foldr (fun c n => c.length + n) 0
theorem sumL_snoc (l : List (List Nd)) (c : List Nd) : sumL (l ++ [c]) = sumL l + c.length := by
  induction l with
  | nil => simp [sumL]
  | cons a l ih => simp only [sumL, List.cons_append, List.foldr_cons] at ih ⊢; omega
theorem sumL_le (l : List (List Nd)) (k : Nat) (h : ∀ c ∈ l, c.length ≤ k) : sumL l ≤ l.length * k := by
  induction l with
  | nil => simp [sumL]
  | cons a l ih =>
    have h1 := ih fun c hc => h c (List.mem_cons_of_mem _ hc)
    have h2 := h a (by simp)
    simp only [sumL, List.foldr_cons, List.length_cons, Nat.succ_mul] at h1 ⊢; omega
theorem sumL_take {l : List (List Nd)} {k : Nat} (h : ∀ c ∈ l, c.length ≤ k) (i : Nat) : sumL (l.take i) ≤ l.length * k := by
  refine Nat.le_trans (sumL_le _ k fun c hc => h c (List.mem_of_mem_take hc)) (Nat.mul_le_mul_right _ (by simp; omega))
theorem okF.len {f : Fld} (h : okF f) : (codes f).length < 2000 := by simp only [codes, List.length_append, List.length_map]; have := h.1; have := h.2.1; omega
theorem okF.sum {f : Fld} (h : okF f) (i : Nat) : sumL ((codes f).take i) ≤ 2000000000 := by
  have h1 := sumL_take (l := codes f) (k := 1000000) (fun c hc => Nat.le_of_lt (h.2.2 c hc).1) i
  have h2 := h.len
  have : (codes f).length * 1000000 ≤ 2000 * 1000000 := Nat.mul_le_mul_right _ (by omega)
  omega

set_option maxHeartbeats 1000000 in
theorem c_size (f : Fld) (hok : okF f) : PCalls Try.prog 26 [encF f] (.int .i64 (sumL (codes f) : Nat)) := by
  have hcl := hok.len
  refine pcalls_of_AW (pa := []) (fn := Try.f26) (ts := [2]) follows_mixed Try.func26 rfl rfl (by kernel_rfl) (by kernel_rfl) (by rw [Try.ntmps26]; simp) ?_
  simp only [go_sem, Nat.reduceAdd, Nat.reduceMul, Nat.reduceSub, Nat.reduceBEq, Nat.reduceEqDiff, Nat.reduceLeDiff, Nat.reduceLT, Int.reduceLT, Int.reduceLE, Int.reduceGE, Int.reduceGT, Int.reduceEq, Int.reduceBEq, Int.reduceNeg, Int.reduceToNat, reduceCtorEq, Nat.reducePow, Int.reducePow, ↓reduceIte, encF]
  refine callS_p (c_codes f hok) ?_
  simp only [go_sem, Nat.reduceAdd, Nat.reduceMul, Nat.reduceSub, Nat.reduceBEq, Nat.reduceEqDiff, Nat.reduceLeDiff, Nat.reduceLT, Int.reduceLT, Int.reduceLE, Int.reduceGE, Int.reduceGT, Int.reduceEq, Int.reduceBEq, Int.reduceNeg, Int.reduceToNat, reduceCtorEq, Nat.reducePow, Int.reducePow, ↓reduceIte, encP]
  refine AW_while (fun m st => ∃ i, i + m = (codes f).length ∧ st.τ 7 = .sl 1 ((codes f).map encC) ∧ st.τ 8 = .int .i64 (codes f).length ∧ st.τ 9 = .int .i64 (i : Nat) ∧ st.τ 3 = .int .i64 (sumL ((codes f).take i) : Nat)) (codes f).length ?_ ?_
  · exact ⟨0, by omega, by simp only [go_sem, Nat.reduceAdd, Nat.reduceMul, Nat.reduceSub, Nat.reduceBEq, Nat.reduceEqDiff, Nat.reduceLeDiff, Nat.reduceLT, Int.reduceLT, Int.reduceLE, Int.reduceGE, Int.reduceGT, Int.reduceEq, Int.reduceBEq, Int.reduceNeg, Int.reduceToNat, reduceCtorEq, Nat.reducePow, Int.reducePow, ↓reduceIte], by simp only [go_sem, Nat.reduceAdd, Nat.reduceMul, Nat.reduceSub, Nat.reduceBEq, Nat.reduceEqDiff, Nat.reduceLeDiff, Nat.reduceLT, Int.reduceLT, Int.reduceLE, Int.reduceGE, Int.reduceGT, Int.reduceEq, Int.reduceBEq, Int.reduceNeg, Int.reduceToNat, reduceCtorEq, Nat.reducePow, Int.reducePow, ↓reduceIte], by simp only [go_sem, Nat.reduceAdd, Nat.reduceMul, Nat.reduceSub, Nat.reduceBEq, Nat.reduceEqDiff, Nat.reduceLeDiff, Nat.reduceLT, Int.reduceLT, Int.reduceLE, Int.reduceGE, Int.reduceGT, Int.reduceEq, Int.reduceBEq, Int.reduceNeg, Int.reduceToNat, reduceCtorEq, Nat.reducePow, Int.reducePow, ↓reduceIte] <;> rfl, by simp only [go_sem, Nat.reduceAdd, Nat.reduceMul, Nat.reduceSub, Nat.reduceBEq, Nat.reduceEqDiff, Nat.reduceLeDiff, Nat.reduceLT, Int.reduceLT, Int.reduceLE, Int.reduceGE, Int.reduceGT, Int.reduceEq, Int.reduceBEq, Int.reduceNeg, Int.reduceToNat, reduceCtorEq, Nat.reducePow, Int.reducePow, ↓reduceIte] <;> rfl⟩
  · rintro m st ⟨i, hi, h7, h8, h9, h3⟩ next
    by_cases hlt : i < (codes f).length
    · have hlt' : ((i : Nat) : Int) < ((codes f).length : Nat) := by omega
      simp only [go_sem, Nat.reduceAdd, Nat.reduceMul, Nat.reduceSub, Nat.reduceBEq, Nat.reduceEqDiff, Nat.reduceLeDiff, Nat.reduceLT, Int.reduceLT, Int.reduceLE, Int.reduceGE, Int.reduceGT, Int.reduceEq, Int.reduceBEq, Int.reduceNeg, Int.reduceToNat, reduceCtorEq, Nat.reducePow, Int.reducePow, ↓reduceIte, h7, h8, h9, h3, hlt', getD_map_lt _ _ _ _ hlt, encC]
      have hs := hok.sum (i + 1)
      have e1 : sumL ((codes f).take (i + 1)) = sumL ((codes f).take i) + (codes f)[i].length := by rw [take_snoc hlt, sumL_snoc]
      refine next (m - 1) _ (by omega) ⟨i + 1, by omega, by simp only [go_sem, Nat.reduceAdd, Nat.reduceMul, Nat.reduceSub, Nat.reduceBEq, Nat.reduceEqDiff, Nat.reduceLeDiff, Nat.reduceLT, Int.reduceLT, Int.reduceLE, Int.reduceGE, Int.reduceGT, Int.reduceEq, Int.reduceBEq, Int.reduceNeg, Int.reduceToNat, reduceCtorEq, Nat.reducePow, Int.reducePow, ↓reduceIte, h7], by simp only [go_sem, Nat.reduceAdd, Nat.reduceMul, Nat.reduceSub, Nat.reduceBEq, Nat.reduceEqDiff, Nat.reduceLeDiff, Nat.reduceLT, Int.reduceLT, Int.reduceLE, Int.reduceGE, Int.reduceGT, Int.reduceEq, Int.reduceBEq, Int.reduceNeg, Int.reduceToNat, reduceCtorEq, Nat.reducePow, Int.reducePow, ↓reduceIte, h8], by simp only [go_sem, Nat.reduceAdd, Nat.reduceMul, Nat.reduceSub, Nat.reduceBEq, Nat.reduceEqDiff, Nat.reduceLeDiff, Nat.reduceLT, Int.reduceLT, Int.reduceLE, Int.reduceGE, Int.reduceGT, Int.reduceEq, Int.reduceBEq, Int.reduceNeg, Int.reduceToNat, reduceCtorEq, Nat.reducePow, Int.reducePow, ↓reduceIte]; rw [wrap64_id (by omega) (by omega)]; rfl, by simp only [go_sem, Nat.reduceAdd, Nat.reduceMul, Nat.reduceSub, Nat.reduceBEq, Nat.reduceEqDiff, Nat.reduceLeDiff, Nat.reduceLT, Int.reduceLT, Int.reduceLE, Int.reduceGE, Int.reduceGT, Int.reduceEq, Int.reduceBEq, Int.reduceNeg, Int.reduceToNat, reduceCtorEq, Nat.reducePow, Int.reducePow, ↓reduceIte]; rw [wrap64_id (by omega) (by omega), e1]; rfl⟩
    · have hlt' := dec_false (show ¬ ((i : Nat) : Int) < ((codes f).length : Nat) by omega)
      rw [List.take_of_length_le (by omega)] at h3
      simp only [go_sem, Nat.reduceAdd, Nat.reduceMul, Nat.reduceSub, Nat.reduceBEq, Nat.reduceEqDiff, Nat.reduceLeDiff, Nat.reduceLT, Int.reduceLT, Int.reduceLE, Int.reduceGE, Int.reduceGT, Int.reduceEq, Int.reduceBEq, Int.reduceNeg, Int.reduceToNat, reduceCtorEq, Nat.reducePow, Int.reducePow, ↓reduceIte, h7, h8, h9, h3, hlt']
      exact .mk (by simp only [go_sem, Nat.reduceAdd, Nat.reduceMul, Nat.reduceSub, Nat.reduceBEq, Nat.reduceEqDiff, Nat.reduceLeDiff, Nat.reduceLT, Int.reduceLT, Int.reduceLE, Int.reduceGE, Int.reduceGT, Int.reduceEq, Int.reduceBEq, Int.reduceNeg, Int.reduceToNat, reduceCtorEq, Nat.reducePow, Int.reducePow, ↓reduceIte])

set_option maxHeartbeats 1000000 in
theorem c_rsize (f : Fld) (hok : okF f) : PCalls Try.prog 27 [encF f] (.int .i64 (sumL (codes f) : Nat)) := by
  have hcl := hok.len
  refine pcalls_of_AW (pa := []) (fn := Try.f27) (ts := [2]) follows_mixed Try.func27 rfl rfl (by kernel_rfl) (by kernel_rfl) (by rw [Try.ntmps27]; simp) ?_
  simp only [go_sem, Nat.reduceAdd, Nat.reduceMul, Nat.reduceSub, Nat.reduceBEq, Nat.reduceEqDiff, Nat.reduceLeDiff, Nat.reduceLT, Int.reduceLT, Int.reduceLE, Int.reduceGE, Int.reduceGT, Int.reduceEq, Int.reduceBEq, Int.reduceNeg, Int.reduceToNat, reduceCtorEq, Nat.reducePow, Int.reducePow, ↓reduceIte, encF]
  refine callS_p (c_rcodes f hok.1 hok.2.1) ?_
  simp only [go_sem, Nat.reduceAdd, Nat.reduceMul, Nat.reduceSub, Nat.reduceBEq, Nat.reduceEqDiff, Nat.reduceLeDiff, Nat.reduceLT, Int.reduceLT, Int.reduceLE, Int.reduceGE, Int.reduceGT, Int.reduceEq, Int.reduceBEq, Int.reduceNeg, Int.reduceToNat, reduceCtorEq, Nat.reducePow, Int.reducePow, ↓reduceIte, encP]
  refine AW_while (fun m st => ∃ i, i + m = (codes f).length ∧ st.τ 4 = .sl 1 ((codes f).map encC) ∧ st.τ 5 = .int .i64 (i : Nat) ∧ st.τ 3 = .int .i64 (sumL ((codes f).take i) : Nat)) (codes f).length ?_ ?_
  · exact ⟨0, by omega, by simp only [go_sem, Nat.reduceAdd, Nat.reduceMul, Nat.reduceSub, Nat.reduceBEq, Nat.reduceEqDiff, Nat.reduceLeDiff, Nat.reduceLT, Int.reduceLT, Int.reduceLE, Int.reduceGE, Int.reduceGT, Int.reduceEq, Int.reduceBEq, Int.reduceNeg, Int.reduceToNat, reduceCtorEq, Nat.reducePow, Int.reducePow, ↓reduceIte], by simp only [go_sem, Nat.reduceAdd, Nat.reduceMul, Nat.reduceSub, Nat.reduceBEq, Nat.reduceEqDiff, Nat.reduceLeDiff, Nat.reduceLT, Int.reduceLT, Int.reduceLE, Int.reduceGE, Int.reduceGT, Int.reduceEq, Int.reduceBEq, Int.reduceNeg, Int.reduceToNat, reduceCtorEq, Nat.reducePow, Int.reducePow, ↓reduceIte] <;> rfl, by simp only [go_sem, Nat.reduceAdd, Nat.reduceMul, Nat.reduceSub, Nat.reduceBEq, Nat.reduceEqDiff, Nat.reduceLeDiff, Nat.reduceLT, Int.reduceLT, Int.reduceLE, Int.reduceGE, Int.reduceGT, Int.reduceEq, Int.reduceBEq, Int.reduceNeg, Int.reduceToNat, reduceCtorEq, Nat.reducePow, Int.reducePow, ↓reduceIte] <;> rfl⟩
  · rintro m st ⟨i, hi, h4, h5, h3⟩ next
    by_cases hlt : i < (codes f).length
    · have hlt' : ((i : Nat) : Int) < ((codes f).length : Nat) := by omega
      simp only [go_sem, Nat.reduceAdd, Nat.reduceMul, Nat.reduceSub, Nat.reduceBEq, Nat.reduceEqDiff, Nat.reduceLeDiff, Nat.reduceLT, Int.reduceLT, Int.reduceLE, Int.reduceGE, Int.reduceGT, Int.reduceEq, Int.reduceBEq, Int.reduceNeg, Int.reduceToNat, reduceCtorEq, Nat.reducePow, Int.reducePow, ↓reduceIte, h4, h5, h3, hlt', getD_map_lt _ _ _ _ hlt, encC]
      have hs := hok.sum (i + 1)
      have e1 : sumL ((codes f).take (i + 1)) = sumL ((codes f).take i) + (codes f)[i].length := by rw [take_snoc hlt, sumL_snoc]
      refine next (m - 1) _ (by omega) ⟨i + 1, by omega, by simp only [go_sem, Nat.reduceAdd, Nat.reduceMul, Nat.reduceSub, Nat.reduceBEq, Nat.reduceEqDiff, Nat.reduceLeDiff, Nat.reduceLT, Int.reduceLT, Int.reduceLE, Int.reduceGE, Int.reduceGT, Int.reduceEq, Int.reduceBEq, Int.reduceNeg, Int.reduceToNat, reduceCtorEq, Nat.reducePow, Int.reducePow, ↓reduceIte, h4], by simp only [go_sem, Nat.reduceAdd, Nat.reduceMul, Nat.reduceSub, Nat.reduceBEq, Nat.reduceEqDiff, Nat.reduceLeDiff, Nat.reduceLT, Int.reduceLT, Int.reduceLE, Int.reduceGE, Int.reduceGT, Int.reduceEq, Int.reduceBEq, Int.reduceNeg, Int.reduceToNat, reduceCtorEq, Nat.reducePow, Int.reducePow, ↓reduceIte]; rw [wrap64_id (by omega) (by omega)]; rfl, by simp only [go_sem, Nat.reduceAdd, Nat.reduceMul, Nat.reduceSub, Nat.reduceBEq, Nat.reduceEqDiff, Nat.reduceLeDiff, Nat.reduceLT, Int.reduceLT, Int.reduceLE, Int.reduceGE, Int.reduceGT, Int.reduceEq, Int.reduceBEq, Int.reduceNeg, Int.reduceToNat, reduceCtorEq, Nat.reducePow, Int.reducePow, ↓reduceIte]; rw [wrap64_id (by omega) (by omega), e1]; rfl⟩
    · have hlt' := dec_false (show ¬ ((i : Nat) : Int) < ((codes f).length : Nat) by omega)
      rw [List.take_of_length_le (by omega)] at h3
      simp only [go_sem, Nat.reduceAdd, Nat.reduceMul, Nat.reduceSub, Nat.reduceBEq, Nat.reduceEqDiff, Nat.reduceLeDiff, Nat.reduceLT, Int.reduceLT, Int.reduceLE, Int.reduceGE, Int.reduceGT, Int.reduceEq, Int.reduceBEq, Int.reduceNeg, Int.reduceToNat, reduceCtorEq, Nat.reducePow, Int.reducePow, ↓reduceIte, h4, h5, h3, hlt']
      exact .mk (by simp only [go_sem, Nat.reduceAdd, Nat.reduceMul, Nat.reduceSub, Nat.reduceBEq, Nat.reduceEqDiff, Nat.reduceLeDiff, Nat.reduceLT, Int.reduceLT, Int.reduceLE, Int.reduceGE, Int.reduceGT, Int.reduceEq, Int.reduceBEq, Int.reduceNeg, Int.reduceToNat, reduceCtorEq, Nat.reducePow, Int.reducePow, ↓reduceIte])

/-! ### Alike -/
def sameNs : List Lt → List Lt → Bool
  | x :: a, y :: b => (x.name.toList == y.name.toList) && sameNs a b
  | [], [] => true
  | _, _ => false
def sameOs : List (List Nd) → List (List Nd) → Bool
  | x :: a, y :: b => sameL x y && sameOs a b
  | [], [] => true
  | _, _ => false
def sameLs : List Lt → List Lt → Bool
  | x :: a, y :: b => (x.name.toList == y.name.toList) && (sameL x.code y.code && sameLs a b)
  | [], [] => true
  | _, _ => false
def sameF (f g : Fld) : Bool := sameLs f.lets g.lets && sameOs f.outs g.outs
theorem sameLs_len : ∀ {a b : List Lt}, sameLs a b = true → a.length = b.length
  | [], [], _ => rfl
  | x :: a, y :: b, h => by simp only [sameLs, Bool.and_eq_true] at h; simp [sameLs_len h.2.2]
  | [], _ :: _, h => by simp [sameLs] at h
  | _ :: _, [], h => by simp [sameLs] at h
theorem sameOs_len : ∀ {a b : List (List Nd)}, sameOs a b = true → a.length = b.length
  | [], [], _ => rfl
  | x :: a, y :: b, h => by simp only [sameOs, Bool.and_eq_true] at h; simp [sameOs_len h.2]
  | [], _ :: _, h => by simp [sameOs] at h
  | _ :: _, [], h => by simp [sameOs] at h
theorem sameLs_refl : ∀ a : List Lt, sameLs a a = true
  | [] => rfl
  | x :: a => by simp [sameLs, sameL_refl, sameLs_refl a]
theorem sameOs_refl : ∀ a : List (List Nd), sameOs a a = true
  | [] => rfl
  | x :: a => by simp [sameOs, sameL_refl, sameOs_refl a]
theorem sameF_refl (f : Fld) : sameF f f = true := by simp [sameF, sameLs_refl, sameOs_refl]
theorem sameLs_split : ∀ {a b : List Lt}, sameLs a b = (sameNs a b && sameOs (a.map (·.code)) (b.map (·.code)))
  | [], [] => rfl
  | x :: a, y :: b => by
    simp only [sameLs, sameNs, List.map_cons, sameOs, sameLs_split (a := a) (b := b)]
    cases (x.name.toList == y.name.toList) <;> cases sameL x.code y.code <;> cases sameNs a b <;> rfl
  | [], _ :: _ => rfl
  | _ :: _, [] => rfl
theorem sameOs_app : ∀ {a b c d : List (List Nd)}, a.length = b.length → sameOs (a ++ c) (b ++ d) = (sameOs a b && sameOs c d)
  | [], [], c, d, _ => by simp [sameOs]
  | x :: a, y :: b, c, d, h => by
    simp only [List.cons_append, sameOs, sameOs_app (a := a) (b := b) (by simpa using h)]
    cases sameL x y <;> rfl
  | [], _ :: _, _, _, h => by simp at h
  | _ :: _, [], _, _, h => by simp at h
theorem sameF_split {f g : Fld} (h : f.lets.length = g.lets.length) : sameF f g = (sameNs f.lets g.lets && sameOs (codes f) (codes g)) := by
  rw [sameF, sameLs_split, codes, codes, sameOs_app (by simpa using h)]
  cases sameNs f.lets g.lets <;> rfl
theorem sameF_false {f g : Fld} (h : ¬ (f.lets.length = g.lets.length ∧ f.outs.length = g.outs.length)) : sameF f g = false := by
  cases hs : sameF f g with
  | false => rfl
  | true =>
    simp only [sameF, Bool.and_eq_true] at hs
    exact absurd ⟨sameLs_len hs.1, sameOs_len hs.2⟩ h

set_option maxHeartbeats 2000000 in
theorem c_samefield (f g : Fld) (hf : okF f) (hg : okF g) : PCalls Try.prog 28 [encF f, encF g] (.bool (sameF f g)) := by
  have hfl := hf.1
  have hfo := hf.2.1
  refine pcalls_of_AW (pa := []) (fn := Try.f28) (ts := [4]) follows_mixed Try.func28 rfl rfl (by kernel_rfl) (by kernel_rfl) (by rw [Try.ntmps28]; simp) ?_
  by_cases hl : f.lets.length = g.lets.length
  · by_cases ho : f.outs.length = g.outs.length
    · have hl' : ((f.lets.length : Nat) : Int) = (g.lets.length : Nat) := by omega
      have ho' : ((f.outs.length : Nat) : Int) = (g.outs.length : Nat) := by omega
      simp only [go_sem, Nat.reduceAdd, Nat.reduceMul, Nat.reduceSub, Nat.reduceBEq, Nat.reduceEqDiff, Nat.reduceLeDiff, Nat.reduceLT, Int.reduceLT, Int.reduceLE, Int.reduceGE, Int.reduceGT, Int.reduceEq, Int.reduceBEq, Int.reduceNeg, Int.reduceToNat, reduceCtorEq, Nat.reducePow, Int.reducePow, ↓reduceIte, encF, hl', ho', bne_int]
      rw [← hl]
      refine AW_while (fun m st => ∃ i, i + m = f.lets.length ∧ (sameLs (f.lets.drop i) (g.lets.drop i) && sameOs f.outs g.outs) = sameF f g ∧ st.τ 2 = .ptr 0 0 ∧ st.τ 3 = .ptr 1 0 ∧ st.τ 26 = .sl 2 (f.lets.map encL) ∧ st.τ 27 = .int .i64 f.lets.length ∧ st.τ 28 = .int .i64 (i : Nat) ∧ st.h 0 = some [.sl 2 (f.lets.map encL), .sl 1 (f.outs.map encC)] ∧ st.h 1 = some [.sl 2 (g.lets.map encL), .sl 1 (g.outs.map encC)] ∧ 2 ≤ st.n) f.lets.length ?_ ?_
      · exact ⟨0, by omega, rfl, by simp only [go_sem, Nat.reduceAdd, Nat.reduceMul, Nat.reduceSub, Nat.reduceBEq, Nat.reduceEqDiff, Nat.reduceLeDiff, Nat.reduceLT, Int.reduceLT, Int.reduceLE, Int.reduceGE, Int.reduceGT, Int.reduceEq, Int.reduceBEq, Int.reduceNeg, Int.reduceToNat, reduceCtorEq, Nat.reducePow, Int.reducePow, ↓reduceIte], by simp only [go_sem, Nat.reduceAdd, Nat.reduceMul, Nat.reduceSub, Nat.reduceBEq, Nat.reduceEqDiff, Nat.reduceLeDiff, Nat.reduceLT, Int.reduceLT, Int.reduceLE, Int.reduceGE, Int.reduceGT, Int.reduceEq, Int.reduceBEq, Int.reduceNeg, Int.reduceToNat, reduceCtorEq, Nat.reducePow, Int.reducePow, ↓reduceIte], by simp only [go_sem, Nat.reduceAdd, Nat.reduceMul, Nat.reduceSub, Nat.reduceBEq, Nat.reduceEqDiff, Nat.reduceLeDiff, Nat.reduceLT, Int.reduceLT, Int.reduceLE, Int.reduceGE, Int.reduceGT, Int.reduceEq, Int.reduceBEq, Int.reduceNeg, Int.reduceToNat, reduceCtorEq, Nat.reducePow, Int.reducePow, ↓reduceIte], by simp only [go_sem, Nat.reduceAdd, Nat.reduceMul, Nat.reduceSub, Nat.reduceBEq, Nat.reduceEqDiff, Nat.reduceLeDiff, Nat.reduceLT, Int.reduceLT, Int.reduceLE, Int.reduceGE, Int.reduceGT, Int.reduceEq, Int.reduceBEq, Int.reduceNeg, Int.reduceToNat, reduceCtorEq, Nat.reducePow, Int.reducePow, ↓reduceIte], by simp only [go_sem, Nat.reduceAdd, Nat.reduceMul, Nat.reduceSub, Nat.reduceBEq, Nat.reduceEqDiff, Nat.reduceLeDiff, Nat.reduceLT, Int.reduceLT, Int.reduceLE, Int.reduceGE, Int.reduceGT, Int.reduceEq, Int.reduceBEq, Int.reduceNeg, Int.reduceToNat, reduceCtorEq, Nat.reducePow, Int.reducePow, ↓reduceIte] <;> rfl, by simp only [go_sem, Nat.reduceAdd, Nat.reduceMul, Nat.reduceSub, Nat.reduceBEq, Nat.reduceEqDiff, Nat.reduceLeDiff, Nat.reduceLT, Int.reduceLT, Int.reduceLE, Int.reduceGE, Int.reduceGT, Int.reduceEq, Int.reduceBEq, Int.reduceNeg, Int.reduceToNat, reduceCtorEq, Nat.reducePow, Int.reducePow, ↓reduceIte], by simp only [go_sem, Nat.reduceAdd, Nat.reduceMul, Nat.reduceSub, Nat.reduceBEq, Nat.reduceEqDiff, Nat.reduceLeDiff, Nat.reduceLT, Int.reduceLT, Int.reduceLE, Int.reduceGE, Int.reduceGT, Int.reduceEq, Int.reduceBEq, Int.reduceNeg, Int.reduceToNat, reduceCtorEq, Nat.reducePow, Int.reducePow, ↓reduceIte], by simp only [go_sem, Nat.reduceAdd, Nat.reduceMul, Nat.reduceSub, Nat.reduceBEq, Nat.reduceEqDiff, Nat.reduceLeDiff, Nat.reduceLT, Int.reduceLT, Int.reduceLE, Int.reduceGE, Int.reduceGT, Int.reduceEq, Int.reduceBEq, Int.reduceNeg, Int.reduceToNat, reduceCtorEq, Nat.reducePow, Int.reducePow, ↓reduceIte] <;> omega⟩
      · rintro m st ⟨i, hi, hs, h2, h3, h26, h27, h28, hb0, hb1, hn⟩ next
        have n0 : 0 < st.n := by omega
        have n1 : 1 < st.n := by omega
        by_cases hlt : i < f.lets.length
        · have hlg : i < g.lets.length := by omega
          have hlt' : ((i : Nat) : Int) < (f.lets.length : Nat) := by omega
          have hlg' : ((i : Nat) : Int) < (g.lets.length : Nat) := by omega
          have oc : okC f.lets[i].code := hf.2.2 _ (List.mem_append.2 (.inl (List.mem_map.2 ⟨_, List.getElem_mem hlt, rfl⟩)))
          have od : okC g.lets[i].code := hg.2.2 _ (List.mem_append.2 (.inl (List.mem_map.2 ⟨_, List.getElem_mem hlg, rfl⟩)))
          rw [drop_cons hlt, drop_cons hlg] at hs
          simp only [sameLs] at hs
          cases he : (f.lets[i].name.toList == g.lets[i].name.toList) with
          | false =>
            rw [he] at hs
            simp only [go_sem, Nat.reduceAdd, Nat.reduceMul, Nat.reduceSub, Nat.reduceBEq, Nat.reduceEqDiff, Nat.reduceLeDiff, Nat.reduceLT, Int.reduceLT, Int.reduceLE, Int.reduceGE, Int.reduceGT, Int.reduceEq, Int.reduceBEq, Int.reduceNeg, Int.reduceToNat, reduceCtorEq, Nat.reducePow, Int.reducePow, ↓reduceIte, h2, h3, h26, h27, h28, hb0, hb1, hlt', hlg', getD_map_lt _ _ _ _ hlt, getD_map_lt _ _ _ _ hlg, encL, encC, upd1_old _ _ _ _ _ n0, upd1_old _ _ _ _ _ n1, old_ne n0, new_ne n0, old_ne n1, new_ne n1, astrop, he]
            exact .mk (by simp only [go_sem, Nat.reduceAdd, Nat.reduceMul, Nat.reduceSub, Nat.reduceBEq, Nat.reduceEqDiff, Nat.reduceLeDiff, Nat.reduceLT, Int.reduceLT, Int.reduceLE, Int.reduceGE, Int.reduceGT, Int.reduceEq, Int.reduceBEq, Int.reduceNeg, Int.reduceToNat, reduceCtorEq, Nat.reducePow, Int.reducePow, ↓reduceIte, ← hs])
          | true =>
            rw [he, Bool.true_and] at hs
            simp only [go_sem, Nat.reduceAdd, Nat.reduceMul, Nat.reduceSub, Nat.reduceBEq, Nat.reduceEqDiff, Nat.reduceLeDiff, Nat.reduceLT, Int.reduceLT, Int.reduceLE, Int.reduceGE, Int.reduceGT, Int.reduceEq, Int.reduceBEq, Int.reduceNeg, Int.reduceToNat, reduceCtorEq, Nat.reducePow, Int.reducePow, ↓reduceIte, h2, h3, h26, h27, h28, hb0, hb1, hlt', hlg', getD_map_lt _ _ _ _ hlt, getD_map_lt _ _ _ _ hlg, encL, encC, upd1_old _ _ _ _ _ n0, upd1_old _ _ _ _ _ n1, old_ne n0, new_ne n0, old_ne n1, new_ne n1, astrop, he]
            refine callD_p (c_same _ _ oc od) ?_
            cases hsl : sameL f.lets[i].code g.lets[i].code with
            | false =>
              rw [hsl] at hs
              simp only [go_sem, Nat.reduceAdd, Nat.reduceMul, Nat.reduceSub, Nat.reduceBEq, Nat.reduceEqDiff, Nat.reduceLeDiff, Nat.reduceLT, Int.reduceLT, Int.reduceLE, Int.reduceGE, Int.reduceGT, Int.reduceEq, Int.reduceBEq, Int.reduceNeg, Int.reduceToNat, reduceCtorEq, Nat.reducePow, Int.reducePow, ↓reduceIte, h2, h3, h26, h27, h28, hb0, hb1]
              exact .mk (by simp only [go_sem, Nat.reduceAdd, Nat.reduceMul, Nat.reduceSub, Nat.reduceBEq, Nat.reduceEqDiff, Nat.reduceLeDiff, Nat.reduceLT, Int.reduceLT, Int.reduceLE, Int.reduceGE, Int.reduceGT, Int.reduceEq, Int.reduceBEq, Int.reduceNeg, Int.reduceToNat, reduceCtorEq, Nat.reducePow, Int.reducePow, ↓reduceIte, ← hs])
            | true =>
              rw [hsl, Bool.true_and] at hs
              simp only [go_sem, Nat.reduceAdd, Nat.reduceMul, Nat.reduceSub, Nat.reduceBEq, Nat.reduceEqDiff, Nat.reduceLeDiff, Nat.reduceLT, Int.reduceLT, Int.reduceLE, Int.reduceGE, Int.reduceGT, Int.reduceEq, Int.reduceBEq, Int.reduceNeg, Int.reduceToNat, reduceCtorEq, Nat.reducePow, Int.reducePow, ↓reduceIte, h2, h3, h26, h27, h28, hb0, hb1]
              refine next (m - 1) _ (by omega) ⟨i + 1, by omega, hs, by simp only [go_sem, Nat.reduceAdd, Nat.reduceMul, Nat.reduceSub, Nat.reduceBEq, Nat.reduceEqDiff, Nat.reduceLeDiff, Nat.reduceLT, Int.reduceLT, Int.reduceLE, Int.reduceGE, Int.reduceGT, Int.reduceEq, Int.reduceBEq, Int.reduceNeg, Int.reduceToNat, reduceCtorEq, Nat.reducePow, Int.reducePow, ↓reduceIte, h2], by simp only [go_sem, Nat.reduceAdd, Nat.reduceMul, Nat.reduceSub, Nat.reduceBEq, Nat.reduceEqDiff, Nat.reduceLeDiff, Nat.reduceLT, Int.reduceLT, Int.reduceLE, Int.reduceGE, Int.reduceGT, Int.reduceEq, Int.reduceBEq, Int.reduceNeg, Int.reduceToNat, reduceCtorEq, Nat.reducePow, Int.reducePow, ↓reduceIte, h3], by simp only [go_sem, Nat.reduceAdd, Nat.reduceMul, Nat.reduceSub, Nat.reduceBEq, Nat.reduceEqDiff, Nat.reduceLeDiff, Nat.reduceLT, Int.reduceLT, Int.reduceLE, Int.reduceGE, Int.reduceGT, Int.reduceEq, Int.reduceBEq, Int.reduceNeg, Int.reduceToNat, reduceCtorEq, Nat.reducePow, Int.reducePow, ↓reduceIte, h26], by simp only [go_sem, Nat.reduceAdd, Nat.reduceMul, Nat.reduceSub, Nat.reduceBEq, Nat.reduceEqDiff, Nat.reduceLeDiff, Nat.reduceLT, Int.reduceLT, Int.reduceLE, Int.reduceGE, Int.reduceGT, Int.reduceEq, Int.reduceBEq, Int.reduceNeg, Int.reduceToNat, reduceCtorEq, Nat.reducePow, Int.reducePow, ↓reduceIte, h27], by simp only [go_sem, Nat.reduceAdd, Nat.reduceMul, Nat.reduceSub, Nat.reduceBEq, Nat.reduceEqDiff, Nat.reduceLeDiff, Nat.reduceLT, Int.reduceLT, Int.reduceLE, Int.reduceGE, Int.reduceGT, Int.reduceEq, Int.reduceBEq, Int.reduceNeg, Int.reduceToNat, reduceCtorEq, Nat.reducePow, Int.reducePow, ↓reduceIte]; rw [wrap64_id (by omega) (by omega)]; rfl, by simp only [go_sem, Nat.reduceAdd, Nat.reduceMul, Nat.reduceSub, Nat.reduceBEq, Nat.reduceEqDiff, Nat.reduceLeDiff, Nat.reduceLT, Int.reduceLT, Int.reduceLE, Int.reduceGE, Int.reduceGT, Int.reduceEq, Int.reduceBEq, Int.reduceNeg, Int.reduceToNat, reduceCtorEq, Nat.reducePow, Int.reducePow, ↓reduceIte, upd1_old _ _ _ _ _ n0, hb0], by simp only [go_sem, Nat.reduceAdd, Nat.reduceMul, Nat.reduceSub, Nat.reduceBEq, Nat.reduceEqDiff, Nat.reduceLeDiff, Nat.reduceLT, Int.reduceLT, Int.reduceLE, Int.reduceGE, Int.reduceGT, Int.reduceEq, Int.reduceBEq, Int.reduceNeg, Int.reduceToNat, reduceCtorEq, Nat.reducePow, Int.reducePow, ↓reduceIte, upd1_old _ _ _ _ _ n1, hb1], by simp only [go_sem, Nat.reduceAdd, Nat.reduceMul, Nat.reduceSub, Nat.reduceBEq, Nat.reduceEqDiff, Nat.reduceLeDiff, Nat.reduceLT, Int.reduceLT, Int.reduceLE, Int.reduceGE, Int.reduceGT, Int.reduceEq, Int.reduceBEq, Int.reduceNeg, Int.reduceToNat, reduceCtorEq, Nat.reducePow, Int.reducePow, ↓reduceIte] <;> omega⟩
        · have hlt' := dec_false (show ¬ ((i : Nat) : Int) < (f.lets.length : Nat) by omega)
          rw [List.drop_eq_nil_of_le (by omega), List.drop_eq_nil_of_le (by omega)] at hs
          simp only [sameLs, Bool.true_and] at hs
          simp only [go_sem, Nat.reduceAdd, Nat.reduceMul, Nat.reduceSub, Nat.reduceBEq, Nat.reduceEqDiff, Nat.reduceLeDiff, Nat.reduceLT, Int.reduceLT, Int.reduceLE, Int.reduceGE, Int.reduceGT, Int.reduceEq, Int.reduceBEq, Int.reduceNeg, Int.reduceToNat, reduceCtorEq, Nat.reducePow, Int.reducePow, ↓reduceIte, h2, h3, h26, h27, h28, hb0, hb1, hlt']
          refine AW_while (fun m st => ∃ i, i + m = f.outs.length ∧ sameOs (f.outs.drop i) (g.outs.drop i) = sameF f g ∧ st.τ 3 = .ptr 1 0 ∧ st.τ 56 = .sl 1 (f.outs.map encC) ∧ st.τ 57 = .int .i64 f.outs.length ∧ st.τ 58 = .int .i64 (i : Nat) ∧ st.h 1 = some [.sl 2 (g.lets.map encL), .sl 1 (g.outs.map encC)]) f.outs.length ?_ ?_
          · exact ⟨0, by omega, hs, by simp only [go_sem, Nat.reduceAdd, Nat.reduceMul, Nat.reduceSub, Nat.reduceBEq, Nat.reduceEqDiff, Nat.reduceLeDiff, Nat.reduceLT, Int.reduceLT, Int.reduceLE, Int.reduceGE, Int.reduceGT, Int.reduceEq, Int.reduceBEq, Int.reduceNeg, Int.reduceToNat, reduceCtorEq, Nat.reducePow, Int.reducePow, ↓reduceIte, h3], by simp only [go_sem, Nat.reduceAdd, Nat.reduceMul, Nat.reduceSub, Nat.reduceBEq, Nat.reduceEqDiff, Nat.reduceLeDiff, Nat.reduceLT, Int.reduceLT, Int.reduceLE, Int.reduceGE, Int.reduceGT, Int.reduceEq, Int.reduceBEq, Int.reduceNeg, Int.reduceToNat, reduceCtorEq, Nat.reducePow, Int.reducePow, ↓reduceIte], by simp only [go_sem, Nat.reduceAdd, Nat.reduceMul, Nat.reduceSub, Nat.reduceBEq, Nat.reduceEqDiff, Nat.reduceLeDiff, Nat.reduceLT, Int.reduceLT, Int.reduceLE, Int.reduceGE, Int.reduceGT, Int.reduceEq, Int.reduceBEq, Int.reduceNeg, Int.reduceToNat, reduceCtorEq, Nat.reducePow, Int.reducePow, ↓reduceIte, ho'], by simp only [go_sem, Nat.reduceAdd, Nat.reduceMul, Nat.reduceSub, Nat.reduceBEq, Nat.reduceEqDiff, Nat.reduceLeDiff, Nat.reduceLT, Int.reduceLT, Int.reduceLE, Int.reduceGE, Int.reduceGT, Int.reduceEq, Int.reduceBEq, Int.reduceNeg, Int.reduceToNat, reduceCtorEq, Nat.reducePow, Int.reducePow, ↓reduceIte] <;> rfl, by simp only [go_sem, Nat.reduceAdd, Nat.reduceMul, Nat.reduceSub, Nat.reduceBEq, Nat.reduceEqDiff, Nat.reduceLeDiff, Nat.reduceLT, Int.reduceLT, Int.reduceLE, Int.reduceGE, Int.reduceGT, Int.reduceEq, Int.reduceBEq, Int.reduceNeg, Int.reduceToNat, reduceCtorEq, Nat.reducePow, Int.reducePow, ↓reduceIte, hb1]⟩
          · clear hs h2 h3 h26 h27 h28 hb0 hb1 hn n0 n1 hlt hlt' next hi
            clear st m i
            rintro m st ⟨i, hi, hs, h3, h56, h57, h58, hb1⟩ next
            by_cases hlt : i < f.outs.length
            · have hlg : i < g.outs.length := by omega
              have hlt' : ((i : Nat) : Int) < (f.outs.length : Nat) := by omega
              have hlg' : ((i : Nat) : Int) < (g.outs.length : Nat) := by omega
              have oc : okC f.outs[i] := hf.2.2 _ (List.mem_append.2 (.inr (List.getElem_mem hlt)))
              have od : okC g.outs[i] := hg.2.2 _ (List.mem_append.2 (.inr (List.getElem_mem hlg)))
              rw [drop_cons hlt, drop_cons hlg] at hs
              simp only [sameOs] at hs
              simp only [go_sem, Nat.reduceAdd, Nat.reduceMul, Nat.reduceSub, Nat.reduceBEq, Nat.reduceEqDiff, Nat.reduceLeDiff, Nat.reduceLT, Int.reduceLT, Int.reduceLE, Int.reduceGE, Int.reduceGT, Int.reduceEq, Int.reduceBEq, Int.reduceNeg, Int.reduceToNat, reduceCtorEq, Nat.reducePow, Int.reducePow, ↓reduceIte, h3, h56, h57, h58, hb1, hlt', hlg', getD_map_lt _ _ _ _ hlt, getD_map_lt _ _ _ _ hlg, encC]
              refine callS_p (c_same _ _ oc od) ?_
              cases hsl : sameL f.outs[i] g.outs[i] with
              | false =>
                rw [hsl] at hs
                simp only [go_sem, Nat.reduceAdd, Nat.reduceMul, Nat.reduceSub, Nat.reduceBEq, Nat.reduceEqDiff, Nat.reduceLeDiff, Nat.reduceLT, Int.reduceLT, Int.reduceLE, Int.reduceGE, Int.reduceGT, Int.reduceEq, Int.reduceBEq, Int.reduceNeg, Int.reduceToNat, reduceCtorEq, Nat.reducePow, Int.reducePow, ↓reduceIte, h3, h56, h57, h58, hb1]
                exact .mk (by simp only [go_sem, Nat.reduceAdd, Nat.reduceMul, Nat.reduceSub, Nat.reduceBEq, Nat.reduceEqDiff, Nat.reduceLeDiff, Nat.reduceLT, Int.reduceLT, Int.reduceLE, Int.reduceGE, Int.reduceGT, Int.reduceEq, Int.reduceBEq, Int.reduceNeg, Int.reduceToNat, reduceCtorEq, Nat.reducePow, Int.reducePow, ↓reduceIte, ← hs])
              | true =>
                rw [hsl, Bool.true_and] at hs
                simp only [go_sem, Nat.reduceAdd, Nat.reduceMul, Nat.reduceSub, Nat.reduceBEq, Nat.reduceEqDiff, Nat.reduceLeDiff, Nat.reduceLT, Int.reduceLT, Int.reduceLE, Int.reduceGE, Int.reduceGT, Int.reduceEq, Int.reduceBEq, Int.reduceNeg, Int.reduceToNat, reduceCtorEq, Nat.reducePow, Int.reducePow, ↓reduceIte, h3, h56, h57, h58, hb1]
                refine next (m - 1) _ (by omega) ⟨i + 1, by omega, hs, by simp only [go_sem, Nat.reduceAdd, Nat.reduceMul, Nat.reduceSub, Nat.reduceBEq, Nat.reduceEqDiff, Nat.reduceLeDiff, Nat.reduceLT, Int.reduceLT, Int.reduceLE, Int.reduceGE, Int.reduceGT, Int.reduceEq, Int.reduceBEq, Int.reduceNeg, Int.reduceToNat, reduceCtorEq, Nat.reducePow, Int.reducePow, ↓reduceIte, h3], by simp only [go_sem, Nat.reduceAdd, Nat.reduceMul, Nat.reduceSub, Nat.reduceBEq, Nat.reduceEqDiff, Nat.reduceLeDiff, Nat.reduceLT, Int.reduceLT, Int.reduceLE, Int.reduceGE, Int.reduceGT, Int.reduceEq, Int.reduceBEq, Int.reduceNeg, Int.reduceToNat, reduceCtorEq, Nat.reducePow, Int.reducePow, ↓reduceIte, h56], by simp only [go_sem, Nat.reduceAdd, Nat.reduceMul, Nat.reduceSub, Nat.reduceBEq, Nat.reduceEqDiff, Nat.reduceLeDiff, Nat.reduceLT, Int.reduceLT, Int.reduceLE, Int.reduceGE, Int.reduceGT, Int.reduceEq, Int.reduceBEq, Int.reduceNeg, Int.reduceToNat, reduceCtorEq, Nat.reducePow, Int.reducePow, ↓reduceIte, h57], by simp only [go_sem, Nat.reduceAdd, Nat.reduceMul, Nat.reduceSub, Nat.reduceBEq, Nat.reduceEqDiff, Nat.reduceLeDiff, Nat.reduceLT, Int.reduceLT, Int.reduceLE, Int.reduceGE, Int.reduceGT, Int.reduceEq, Int.reduceBEq, Int.reduceNeg, Int.reduceToNat, reduceCtorEq, Nat.reducePow, Int.reducePow, ↓reduceIte]; rw [wrap64_id (by omega) (by omega)]; rfl, by simp only [go_sem, Nat.reduceAdd, Nat.reduceMul, Nat.reduceSub, Nat.reduceBEq, Nat.reduceEqDiff, Nat.reduceLeDiff, Nat.reduceLT, Int.reduceLT, Int.reduceLE, Int.reduceGE, Int.reduceGT, Int.reduceEq, Int.reduceBEq, Int.reduceNeg, Int.reduceToNat, reduceCtorEq, Nat.reducePow, Int.reducePow, ↓reduceIte, hb1]⟩
            · have hlt' := dec_false (show ¬ ((i : Nat) : Int) < (f.outs.length : Nat) by omega)
              rw [List.drop_eq_nil_of_le (by omega), List.drop_eq_nil_of_le (by omega)] at hs
              simp only [go_sem, Nat.reduceAdd, Nat.reduceMul, Nat.reduceSub, Nat.reduceBEq, Nat.reduceEqDiff, Nat.reduceLeDiff, Nat.reduceLT, Int.reduceLT, Int.reduceLE, Int.reduceGE, Int.reduceGT, Int.reduceEq, Int.reduceBEq, Int.reduceNeg, Int.reduceToNat, reduceCtorEq, Nat.reducePow, Int.reducePow, ↓reduceIte, h3, h56, h57, h58, hb1, hlt']
              exact .mk (by simp only [go_sem, Nat.reduceAdd, Nat.reduceMul, Nat.reduceSub, Nat.reduceBEq, Nat.reduceEqDiff, Nat.reduceLeDiff, Nat.reduceLT, Int.reduceLT, Int.reduceLE, Int.reduceGE, Int.reduceGT, Int.reduceEq, Int.reduceBEq, Int.reduceNeg, Int.reduceToNat, reduceCtorEq, Nat.reducePow, Int.reducePow, ↓reduceIte, ← hs, sameOs])
    · have hl' : ((f.lets.length : Nat) : Int) = (g.lets.length : Nat) := by omega
      have ho' := dec_false (show ¬ ((f.outs.length : Nat) : Int) = (g.outs.length : Nat) by omega)
      simp only [go_sem, Nat.reduceAdd, Nat.reduceMul, Nat.reduceSub, Nat.reduceBEq, Nat.reduceEqDiff, Nat.reduceLeDiff, Nat.reduceLT, Int.reduceLT, Int.reduceLE, Int.reduceGE, Int.reduceGT, Int.reduceEq, Int.reduceBEq, Int.reduceNeg, Int.reduceToNat, reduceCtorEq, Nat.reducePow, Int.reducePow, ↓reduceIte, encF, hl', ho', bne_int]
      exact .mk (by simp only [go_sem, Nat.reduceAdd, Nat.reduceMul, Nat.reduceSub, Nat.reduceBEq, Nat.reduceEqDiff, Nat.reduceLeDiff, Nat.reduceLT, Int.reduceLT, Int.reduceLE, Int.reduceGE, Int.reduceGT, Int.reduceEq, Int.reduceBEq, Int.reduceNeg, Int.reduceToNat, reduceCtorEq, Nat.reducePow, Int.reducePow, ↓reduceIte, sameF_false (fun h => ho h.2)])
  · have hl' := dec_false (show ¬ ((f.lets.length : Nat) : Int) = (g.lets.length : Nat) by omega)
    simp only [go_sem, Nat.reduceAdd, Nat.reduceMul, Nat.reduceSub, Nat.reduceBEq, Nat.reduceEqDiff, Nat.reduceLeDiff, Nat.reduceLT, Int.reduceLT, Int.reduceLE, Int.reduceGE, Int.reduceGT, Int.reduceEq, Int.reduceBEq, Int.reduceNeg, Int.reduceToNat, reduceCtorEq, Nat.reducePow, Int.reducePow, ↓reduceIte, encF, hl', bne_int]
    exact .mk (by simp only [go_sem, Nat.reduceAdd, Nat.reduceMul, Nat.reduceSub, Nat.reduceBEq, Nat.reduceEqDiff, Nat.reduceLeDiff, Nat.reduceLT, Int.reduceLT, Int.reduceLE, Int.reduceGE, Int.reduceGT, Int.reduceEq, Int.reduceBEq, Int.reduceNeg, Int.reduceToNat, reduceCtorEq, Nat.reducePow, Int.reducePow, ↓reduceIte, sameF_false (fun h => hl h.1)])

set_option maxHeartbeats 2000000 in
theorem c_rsamefield (f g : Fld) (hf : okF f) (hg : okF g) : PCalls Try.prog 29 [encF f, encF g] (.bool (sameF f g)) := by
  have hfl := hf.1
  have hfo := hf.2.1
  have hcl := hf.len
  refine pcalls_of_AW (pa := []) (fn := Try.f29) (ts := [4]) follows_mixed Try.func29 rfl rfl (by kernel_rfl) (by kernel_rfl) (by rw [Try.ntmps29]; simp) ?_
  by_cases hl : f.lets.length = g.lets.length
  · by_cases ho : f.outs.length = g.outs.length
    · have hl' : ((f.lets.length : Nat) : Int) = (g.lets.length : Nat) := by omega
      have ho' : ((f.outs.length : Nat) : Int) = (g.outs.length : Nat) := by omega
      have hcc : (codes f).length = (codes g).length := by simp only [codes, List.length_append, List.length_map]; omega
      simp only [go_sem, Nat.reduceAdd, Nat.reduceMul, Nat.reduceSub, Nat.reduceBEq, Nat.reduceEqDiff, Nat.reduceLeDiff, Nat.reduceLT, Int.reduceLT, Int.reduceLE, Int.reduceGE, Int.reduceGT, Int.reduceEq, Int.reduceBEq, Int.reduceNeg, Int.reduceToNat, reduceCtorEq, Nat.reducePow, Int.reducePow, ↓reduceIte, encF, hl', ho', bne_int]
      refine AW_while (fun m st => ∃ i, i + m = f.lets.length ∧ (sameNs (f.lets.drop i) (g.lets.drop i) && sameOs (codes f) (codes g)) = sameF f g ∧ st.τ 2 = .ptr 0 0 ∧ st.τ 3 = .ptr 1 0 ∧ st.τ 5 = .int .i64 (i : Nat) ∧ st.h 0 = some [.sl 2 (f.lets.map encL), .sl 1 (f.outs.map encC)] ∧ st.h 1 = some [.sl 2 (g.lets.map encL), .sl 1 (g.outs.map encC)] ∧ 2 ≤ st.n) f.lets.length ?_ ?_
      · exact ⟨0, by omega, (sameF_split hl).symm, by simp only [go_sem, Nat.reduceAdd, Nat.reduceMul, Nat.reduceSub, Nat.reduceBEq, Nat.reduceEqDiff, Nat.reduceLeDiff, Nat.reduceLT, Int.reduceLT, Int.reduceLE, Int.reduceGE, Int.reduceGT, Int.reduceEq, Int.reduceBEq, Int.reduceNeg, Int.reduceToNat, reduceCtorEq, Nat.reducePow, Int.reducePow, ↓reduceIte], by simp only [go_sem, Nat.reduceAdd, Nat.reduceMul, Nat.reduceSub, Nat.reduceBEq, Nat.reduceEqDiff, Nat.reduceLeDiff, Nat.reduceLT, Int.reduceLT, Int.reduceLE, Int.reduceGE, Int.reduceGT, Int.reduceEq, Int.reduceBEq, Int.reduceNeg, Int.reduceToNat, reduceCtorEq, Nat.reducePow, Int.reducePow, ↓reduceIte], by simp only [go_sem, Nat.reduceAdd, Nat.reduceMul, Nat.reduceSub, Nat.reduceBEq, Nat.reduceEqDiff, Nat.reduceLeDiff, Nat.reduceLT, Int.reduceLT, Int.reduceLE, Int.reduceGE, Int.reduceGT, Int.reduceEq, Int.reduceBEq, Int.reduceNeg, Int.reduceToNat, reduceCtorEq, Nat.reducePow, Int.reducePow, ↓reduceIte] <;> rfl, by simp only [go_sem, Nat.reduceAdd, Nat.reduceMul, Nat.reduceSub, Nat.reduceBEq, Nat.reduceEqDiff, Nat.reduceLeDiff, Nat.reduceLT, Int.reduceLT, Int.reduceLE, Int.reduceGE, Int.reduceGT, Int.reduceEq, Int.reduceBEq, Int.reduceNeg, Int.reduceToNat, reduceCtorEq, Nat.reducePow, Int.reducePow, ↓reduceIte], by simp only [go_sem, Nat.reduceAdd, Nat.reduceMul, Nat.reduceSub, Nat.reduceBEq, Nat.reduceEqDiff, Nat.reduceLeDiff, Nat.reduceLT, Int.reduceLT, Int.reduceLE, Int.reduceGE, Int.reduceGT, Int.reduceEq, Int.reduceBEq, Int.reduceNeg, Int.reduceToNat, reduceCtorEq, Nat.reducePow, Int.reducePow, ↓reduceIte], by simp only [go_sem, Nat.reduceAdd, Nat.reduceMul, Nat.reduceSub, Nat.reduceBEq, Nat.reduceEqDiff, Nat.reduceLeDiff, Nat.reduceLT, Int.reduceLT, Int.reduceLE, Int.reduceGE, Int.reduceGT, Int.reduceEq, Int.reduceBEq, Int.reduceNeg, Int.reduceToNat, reduceCtorEq, Nat.reducePow, Int.reducePow, ↓reduceIte] <;> omega⟩
      · rintro m st ⟨i, hi, hs, h2, h3, h5, hb0, hb1, hn⟩ next
        by_cases hlt : i < f.lets.length
        · have hlg : i < g.lets.length := by omega
          have hlt' : ((i : Nat) : Int) < (f.lets.length : Nat) := by omega
          have hlg' : ((i : Nat) : Int) < (g.lets.length : Nat) := by omega
          rw [drop_cons hlt, drop_cons hlg] at hs
          simp only [sameNs] at hs
          cases he : (f.lets[i].name.toList == g.lets[i].name.toList) with
          | false =>
            rw [he] at hs
            simp only [go_sem, Nat.reduceAdd, Nat.reduceMul, Nat.reduceSub, Nat.reduceBEq, Nat.reduceEqDiff, Nat.reduceLeDiff, Nat.reduceLT, Int.reduceLT, Int.reduceLE, Int.reduceGE, Int.reduceGT, Int.reduceEq, Int.reduceBEq, Int.reduceNeg, Int.reduceToNat, reduceCtorEq, Nat.reducePow, Int.reducePow, ↓reduceIte, h2, h3, h5, hb0, hb1, hlt', hlg', getD_map_lt _ _ _ _ hlt, getD_map_lt _ _ _ _ hlg, encL, encC, astrop, he]
            exact .mk (by simp only [go_sem, Nat.reduceAdd, Nat.reduceMul, Nat.reduceSub, Nat.reduceBEq, Nat.reduceEqDiff, Nat.reduceLeDiff, Nat.reduceLT, Int.reduceLT, Int.reduceLE, Int.reduceGE, Int.reduceGT, Int.reduceEq, Int.reduceBEq, Int.reduceNeg, Int.reduceToNat, reduceCtorEq, Nat.reducePow, Int.reducePow, ↓reduceIte, ← hs])
          | true =>
            rw [he, Bool.true_and] at hs
            simp only [go_sem, Nat.reduceAdd, Nat.reduceMul, Nat.reduceSub, Nat.reduceBEq, Nat.reduceEqDiff, Nat.reduceLeDiff, Nat.reduceLT, Int.reduceLT, Int.reduceLE, Int.reduceGE, Int.reduceGT, Int.reduceEq, Int.reduceBEq, Int.reduceNeg, Int.reduceToNat, reduceCtorEq, Nat.reducePow, Int.reducePow, ↓reduceIte, h2, h3, h5, hb0, hb1, hlt', hlg', getD_map_lt _ _ _ _ hlt, getD_map_lt _ _ _ _ hlg, encL, encC, astrop, he]
            refine next (m - 1) _ (by omega) ⟨i + 1, by omega, hs, by simp only [go_sem, Nat.reduceAdd, Nat.reduceMul, Nat.reduceSub, Nat.reduceBEq, Nat.reduceEqDiff, Nat.reduceLeDiff, Nat.reduceLT, Int.reduceLT, Int.reduceLE, Int.reduceGE, Int.reduceGT, Int.reduceEq, Int.reduceBEq, Int.reduceNeg, Int.reduceToNat, reduceCtorEq, Nat.reducePow, Int.reducePow, ↓reduceIte, h2], by simp only [go_sem, Nat.reduceAdd, Nat.reduceMul, Nat.reduceSub, Nat.reduceBEq, Nat.reduceEqDiff, Nat.reduceLeDiff, Nat.reduceLT, Int.reduceLT, Int.reduceLE, Int.reduceGE, Int.reduceGT, Int.reduceEq, Int.reduceBEq, Int.reduceNeg, Int.reduceToNat, reduceCtorEq, Nat.reducePow, Int.reducePow, ↓reduceIte, h3], by simp only [go_sem, Nat.reduceAdd, Nat.reduceMul, Nat.reduceSub, Nat.reduceBEq, Nat.reduceEqDiff, Nat.reduceLeDiff, Nat.reduceLT, Int.reduceLT, Int.reduceLE, Int.reduceGE, Int.reduceGT, Int.reduceEq, Int.reduceBEq, Int.reduceNeg, Int.reduceToNat, reduceCtorEq, Nat.reducePow, Int.reducePow, ↓reduceIte]; rw [wrap64_id (by omega) (by omega)]; rfl, by simp only [go_sem, Nat.reduceAdd, Nat.reduceMul, Nat.reduceSub, Nat.reduceBEq, Nat.reduceEqDiff, Nat.reduceLeDiff, Nat.reduceLT, Int.reduceLT, Int.reduceLE, Int.reduceGE, Int.reduceGT, Int.reduceEq, Int.reduceBEq, Int.reduceNeg, Int.reduceToNat, reduceCtorEq, Nat.reducePow, Int.reducePow, ↓reduceIte, hb0], by simp only [go_sem, Nat.reduceAdd, Nat.reduceMul, Nat.reduceSub, Nat.reduceBEq, Nat.reduceEqDiff, Nat.reduceLeDiff, Nat.reduceLT, Int.reduceLT, Int.reduceLE, Int.reduceGE, Int.reduceGT, Int.reduceEq, Int.reduceBEq, Int.reduceNeg, Int.reduceToNat, reduceCtorEq, Nat.reducePow, Int.reducePow, ↓reduceIte, hb1], by simp only [go_sem, Nat.reduceAdd, Nat.reduceMul, Nat.reduceSub, Nat.reduceBEq, Nat.reduceEqDiff, Nat.reduceLeDiff, Nat.reduceLT, Int.reduceLT, Int.reduceLE, Int.reduceGE, Int.reduceGT, Int.reduceEq, Int.reduceBEq, Int.reduceNeg, Int.reduceToNat, reduceCtorEq, Nat.reducePow, Int.reducePow, ↓reduceIte] <;> omega⟩
        · have hlt' := dec_false (show ¬ ((i : Nat) : Int) < (f.lets.length : Nat) by omega)
          rw [List.drop_eq_nil_of_le (by omega), List.drop_eq_nil_of_le (by omega)] at hs
          simp only [sameNs, Bool.true_and] at hs
          simp only [go_sem, Nat.reduceAdd, Nat.reduceMul, Nat.reduceSub, Nat.reduceBEq, Nat.reduceEqDiff, Nat.reduceLeDiff, Nat.reduceLT, Int.reduceLT, Int.reduceLE, Int.reduceGE, Int.reduceGT, Int.reduceEq, Int.reduceBEq, Int.reduceNeg, Int.reduceToNat, reduceCtorEq, Nat.reducePow, Int.reducePow, ↓reduceIte, h2, h3, h5, hb0, hb1, hlt', hl', dec_false (show ¬ ((i : Nat) : Int) < (g.lets.length : Nat) by omega)]
          refine callS_p (c_rcodes f hf.1 hf.2.1) ?_
          simp only [go_sem, Nat.reduceAdd, Nat.reduceMul, Nat.reduceSub, Nat.reduceBEq, Nat.reduceEqDiff, Nat.reduceLeDiff, Nat.reduceLT, Int.reduceLT, Int.reduceLE, Int.reduceGE, Int.reduceGT, Int.reduceEq, Int.reduceBEq, Int.reduceNeg, Int.reduceToNat, reduceCtorEq, Nat.reducePow, Int.reducePow, ↓reduceIte, h2, h3, h5, hb0, hb1, hlt', encP]
          refine callS_p (c_rcodes g hg.1 hg.2.1) ?_
          simp only [go_sem, Nat.reduceAdd, Nat.reduceMul, Nat.reduceSub, Nat.reduceBEq, Nat.reduceEqDiff, Nat.reduceLeDiff, Nat.reduceLT, Int.reduceLT, Int.reduceLE, Int.reduceGE, Int.reduceGT, Int.reduceEq, Int.reduceBEq, Int.reduceNeg, Int.reduceToNat, reduceCtorEq, Nat.reducePow, Int.reducePow, ↓reduceIte, h2, h3, h5, hb0, hb1, hlt', encP]
          refine AW_while (fun m st => ∃ i, i + m = (codes f).length ∧ sameOs ((codes f).drop i) ((codes g).drop i) = sameF f g ∧ st.τ 6 = .sl 1 ((codes f).map encC) ∧ st.τ 7 = .sl 1 ((codes g).map encC) ∧ st.τ 8 = .int .i64 (i : Nat)) (codes f).length ?_ ?_
          · exact ⟨0, by omega, hs, by simp only [go_sem, Nat.reduceAdd, Nat.reduceMul, Nat.reduceSub, Nat.reduceBEq, Nat.reduceEqDiff, Nat.reduceLeDiff, Nat.reduceLT, Int.reduceLT, Int.reduceLE, Int.reduceGE, Int.reduceGT, Int.reduceEq, Int.reduceBEq, Int.reduceNeg, Int.reduceToNat, reduceCtorEq, Nat.reducePow, Int.reducePow, ↓reduceIte], by simp only [go_sem, Nat.reduceAdd, Nat.reduceMul, Nat.reduceSub, Nat.reduceBEq, Nat.reduceEqDiff, Nat.reduceLeDiff, Nat.reduceLT, Int.reduceLT, Int.reduceLE, Int.reduceGE, Int.reduceGT, Int.reduceEq, Int.reduceBEq, Int.reduceNeg, Int.reduceToNat, reduceCtorEq, Nat.reducePow, Int.reducePow, ↓reduceIte], by simp only [go_sem, Nat.reduceAdd, Nat.reduceMul, Nat.reduceSub, Nat.reduceBEq, Nat.reduceEqDiff, Nat.reduceLeDiff, Nat.reduceLT, Int.reduceLT, Int.reduceLE, Int.reduceGE, Int.reduceGT, Int.reduceEq, Int.reduceBEq, Int.reduceNeg, Int.reduceToNat, reduceCtorEq, Nat.reducePow, Int.reducePow, ↓reduceIte] <;> rfl⟩
          · clear hs h2 h3 h5 hb0 hb1 hn hlt hlt' next hi
            clear st m i
            rintro m st ⟨i, hi, hs, h6, h7, h8⟩ next
            by_cases hlt : i < (codes f).length
            · have hlg : i < (codes g).length := by omega
              have hlt' : ((i : Nat) : Int) < ((codes f).length : Nat) := by omega
              have hlg' : ((i : Nat) : Int) < ((codes g).length : Nat) := by omega
              have oc : okC (codes f)[i] := hf.2.2 _ (List.getElem_mem hlt)
              have od : okC (codes g)[i] := hg.2.2 _ (List.getElem_mem hlg)
              rw [drop_cons hlt, drop_cons hlg] at hs
              simp only [sameOs] at hs
              simp only [go_sem, Nat.reduceAdd, Nat.reduceMul, Nat.reduceSub, Nat.reduceBEq, Nat.reduceEqDiff, Nat.reduceLeDiff, Nat.reduceLT, Int.reduceLT, Int.reduceLE, Int.reduceGE, Int.reduceGT, Int.reduceEq, Int.reduceBEq, Int.reduceNeg, Int.reduceToNat, reduceCtorEq, Nat.reducePow, Int.reducePow, ↓reduceIte, h6, h7, h8, hlt', hlg', getD_map_lt _ _ _ _ hlt, getD_map_lt _ _ _ _ hlg, encC]
              refine callD_p (c_rsame _ _ oc od) ?_
              cases hsl : sameL (codes f)[i] (codes g)[i] with
              | false =>
                rw [hsl] at hs
                simp only [go_sem, Nat.reduceAdd, Nat.reduceMul, Nat.reduceSub, Nat.reduceBEq, Nat.reduceEqDiff, Nat.reduceLeDiff, Nat.reduceLT, Int.reduceLT, Int.reduceLE, Int.reduceGE, Int.reduceGT, Int.reduceEq, Int.reduceBEq, Int.reduceNeg, Int.reduceToNat, reduceCtorEq, Nat.reducePow, Int.reducePow, ↓reduceIte, h6, h7, h8]
                exact .mk (by simp only [go_sem, Nat.reduceAdd, Nat.reduceMul, Nat.reduceSub, Nat.reduceBEq, Nat.reduceEqDiff, Nat.reduceLeDiff, Nat.reduceLT, Int.reduceLT, Int.reduceLE, Int.reduceGE, Int.reduceGT, Int.reduceEq, Int.reduceBEq, Int.reduceNeg, Int.reduceToNat, reduceCtorEq, Nat.reducePow, Int.reducePow, ↓reduceIte, ← hs])
              | true =>
                rw [hsl, Bool.true_and] at hs
                simp only [go_sem, Nat.reduceAdd, Nat.reduceMul, Nat.reduceSub, Nat.reduceBEq, Nat.reduceEqDiff, Nat.reduceLeDiff, Nat.reduceLT, Int.reduceLT, Int.reduceLE, Int.reduceGE, Int.reduceGT, Int.reduceEq, Int.reduceBEq, Int.reduceNeg, Int.reduceToNat, reduceCtorEq, Nat.reducePow, Int.reducePow, ↓reduceIte, h6, h7, h8]
                refine next (m - 1) _ (by omega) ⟨i + 1, by omega, hs, by simp only [go_sem, Nat.reduceAdd, Nat.reduceMul, Nat.reduceSub, Nat.reduceBEq, Nat.reduceEqDiff, Nat.reduceLeDiff, Nat.reduceLT, Int.reduceLT, Int.reduceLE, Int.reduceGE, Int.reduceGT, Int.reduceEq, Int.reduceBEq, Int.reduceNeg, Int.reduceToNat, reduceCtorEq, Nat.reducePow, Int.reducePow, ↓reduceIte, h6], by simp only [go_sem, Nat.reduceAdd, Nat.reduceMul, Nat.reduceSub, Nat.reduceBEq, Nat.reduceEqDiff, Nat.reduceLeDiff, Nat.reduceLT, Int.reduceLT, Int.reduceLE, Int.reduceGE, Int.reduceGT, Int.reduceEq, Int.reduceBEq, Int.reduceNeg, Int.reduceToNat, reduceCtorEq, Nat.reducePow, Int.reducePow, ↓reduceIte, h7], by simp only [go_sem, Nat.reduceAdd, Nat.reduceMul, Nat.reduceSub, Nat.reduceBEq, Nat.reduceEqDiff, Nat.reduceLeDiff, Nat.reduceLT, Int.reduceLT, Int.reduceLE, Int.reduceGE, Int.reduceGT, Int.reduceEq, Int.reduceBEq, Int.reduceNeg, Int.reduceToNat, reduceCtorEq, Nat.reducePow, Int.reducePow, ↓reduceIte]; rw [wrap64_id (by omega) (by omega)]; rfl⟩
            · have hlt' := dec_false (show ¬ ((i : Nat) : Int) < ((codes f).length : Nat) by omega)
              rw [List.drop_eq_nil_of_le (by omega), List.drop_eq_nil_of_le (by omega)] at hs
              simp only [go_sem, Nat.reduceAdd, Nat.reduceMul, Nat.reduceSub, Nat.reduceBEq, Nat.reduceEqDiff, Nat.reduceLeDiff, Nat.reduceLT, Int.reduceLT, Int.reduceLE, Int.reduceGE, Int.reduceGT, Int.reduceEq, Int.reduceBEq, Int.reduceNeg, Int.reduceToNat, reduceCtorEq, Nat.reducePow, Int.reducePow, ↓reduceIte, h6, h7, h8, hlt']
              exact .mk (by simp only [go_sem, Nat.reduceAdd, Nat.reduceMul, Nat.reduceSub, Nat.reduceBEq, Nat.reduceEqDiff, Nat.reduceLeDiff, Nat.reduceLT, Int.reduceLT, Int.reduceLE, Int.reduceGE, Int.reduceGT, Int.reduceEq, Int.reduceBEq, Int.reduceNeg, Int.reduceToNat, reduceCtorEq, Nat.reducePow, Int.reducePow, ↓reduceIte, ← hs, sameOs])
    · have hl' : ((f.lets.length : Nat) : Int) = (g.lets.length : Nat) := by omega
      have ho' := dec_false (show ¬ ((f.outs.length : Nat) : Int) = (g.outs.length : Nat) by omega)
      simp only [go_sem, Nat.reduceAdd, Nat.reduceMul, Nat.reduceSub, Nat.reduceBEq, Nat.reduceEqDiff, Nat.reduceLeDiff, Nat.reduceLT, Int.reduceLT, Int.reduceLE, Int.reduceGE, Int.reduceGT, Int.reduceEq, Int.reduceBEq, Int.reduceNeg, Int.reduceToNat, reduceCtorEq, Nat.reducePow, Int.reducePow, ↓reduceIte, encF, hl', ho', bne_int]
      exact .mk (by simp only [go_sem, Nat.reduceAdd, Nat.reduceMul, Nat.reduceSub, Nat.reduceBEq, Nat.reduceEqDiff, Nat.reduceLeDiff, Nat.reduceLT, Int.reduceLT, Int.reduceLE, Int.reduceGE, Int.reduceGT, Int.reduceEq, Int.reduceBEq, Int.reduceNeg, Int.reduceToNat, reduceCtorEq, Nat.reducePow, Int.reducePow, ↓reduceIte, sameF_false (fun h => ho h.2)])
  · have hl' := dec_false (show ¬ ((f.lets.length : Nat) : Int) = (g.lets.length : Nat) by omega)
    simp only [go_sem, Nat.reduceAdd, Nat.reduceMul, Nat.reduceSub, Nat.reduceBEq, Nat.reduceEqDiff, Nat.reduceLeDiff, Nat.reduceLT, Int.reduceLT, Int.reduceLE, Int.reduceGE, Int.reduceGT, Int.reduceEq, Int.reduceBEq, Int.reduceNeg, Int.reduceToNat, reduceCtorEq, Nat.reducePow, Int.reducePow, ↓reduceIte, encF, hl', bne_int]
    exact .mk (by simp only [go_sem, Nat.reduceAdd, Nat.reduceMul, Nat.reduceSub, Nat.reduceBEq, Nat.reduceEqDiff, Nat.reduceLeDiff, Nat.reduceLT, Int.reduceLT, Int.reduceLE, Int.reduceGE, Int.reduceGT, Int.reduceEq, Int.reduceBEq, Int.reduceNeg, Int.reduceToNat, reduceCtorEq, Nat.reducePow, Int.reducePow, ↓reduceIte, sameF_false (fun h => hl h.1)])

end Go.Proofs.Ytmcejlhkohbdfaa
