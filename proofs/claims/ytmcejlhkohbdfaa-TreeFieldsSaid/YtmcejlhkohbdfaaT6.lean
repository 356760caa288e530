/- How deep an expression is: the program's way. -/
import Derived.Test.YtmcejlhkohbdfaaT5
set_option linter.unusedVariables false
set_option linter.unusedSimpArgs false
namespace Go.Proofs.Ytmcejlhkohbdfaa
open Go Go.Ab

theorem w01 : IntKind.i64.wrap (0 + 1) = 1 := by rw [wrap64_id (by omega) (by omega)]; rfl
theorem w12 : IntKind.i64.wrap (1 + 1) = 2 := by rw [wrap64_id (by omega) (by omega)]; rfl

/-- A stack of numbers in a block, its top last. -/
def Stack (st : ASt) (v : AV) (s : List Tr) : Prop := (s = [] ∧ v = .nilsl) ∨ ∃ b blk, v = .own b 0 s.length 1 ∧ st.h b = some blk ∧ b < st.n ∧ blk.take s.length = s.reverse.map (fun t => AV.int .i64 (t.depth : Int)) ∧ s.length ≤ blk.length

theorem stack_top {blk : List AV} {t : Tr} {s : List Tr} (h : blk.take (s.length + 1) = (t :: s).reverse.map (fun t => AV.int .i64 (t.depth : Int))) : (blk.drop s.length).head? = some (.int .i64 t.depth) := by
  rw [List.head?_drop]
  have h1 : (blk.take (s.length + 1))[s.length]? = blk[s.length]? := by simp
  rw [← h1, h]; simp
theorem stack_pop {blk : List AV} {t : Tr} {s : List Tr} (h : blk.take (s.length + 1) = (t :: s).reverse.map (fun t => AV.int .i64 (t.depth : Int))) : blk.take s.length = s.reverse.map (fun t => AV.int .i64 (t.depth : Int)) := by
  have h1 : (blk.take (s.length + 1)).take s.length = blk.take s.length := by rw [List.take_take]; congr 1; omega
  rw [← h1, h]; simp

set_option maxHeartbeats 1000000 in
theorem c_depth (t : Tr) (ht : t.ok) (hl : t.flat.length < 1000000) : PCalls Try.prog 14 [encC t.flat] (.int .i64 t.depth) := by
  refine pcalls_of_AW (pa := []) (fn := Try.f14) (ts := [2]) follows_mixed Try.func14 rfl rfl (by kernel_rfl) (by kernel_rfl) (by rw [Try.ntmps14]; simp) ?_
  simp only [go_sem, Nat.reduceAdd, Nat.reduceMul, Nat.reduceSub, Nat.reduceBEq, Nat.reduceEqDiff, Nat.reduceLeDiff, Nat.reduceLT, Int.reduceLT, Int.reduceLE, Int.reduceGE, Int.reduceGT, Int.reduceEq, Int.reduceBEq, Int.reduceNeg, Int.reduceToNat, reduceCtorEq, Nat.reducePow, Int.reducePow, ↓reduceIte]
  refine callS_p (c_right _ hl) ?_
  simp only [go_sem, Nat.reduceAdd, Nat.reduceMul, Nat.reduceSub, Nat.reduceBEq, Nat.reduceEqDiff, Nat.reduceLeDiff, Nat.reduceLT, Int.reduceLT, Int.reduceLE, Int.reduceGE, Int.reduceGT, Int.reduceEq, Int.reduceBEq, Int.reduceNeg, Int.reduceToNat, reduceCtorEq, Nat.reducePow, Int.reducePow, ↓reduceIte, wrong_flat ht, encC]
  generalize hcc : t.flat = c at *
  refine AW_while (fun m st => ∃ (i : Nat) (s : List Tr), i + m = c.length ∧ s.length ≤ i ∧ (∀ x ∈ s, x.depth ≤ i) ∧ stk (c.drop i) s = some [t] ∧ st.τ 10 = encC c ∧ st.τ 11 = .int .i64 c.length ∧ st.τ 12 = .int .i64 i ∧ Stack st (st.τ 3) s) c.length ?_ ?_
  · refine ⟨0, [], by simp, by simp, by simp, ?_, by simp only [go_sem, Nat.reduceAdd, Nat.reduceMul, Nat.reduceSub, Nat.reduceBEq, Nat.reduceEqDiff, Nat.reduceLeDiff, Nat.reduceLT, Int.reduceLT, Int.reduceLE, Int.reduceGE, Int.reduceGT, Int.reduceEq, Int.reduceBEq, Int.reduceNeg, Int.reduceToNat, reduceCtorEq, Nat.reducePow, Int.reducePow, ↓reduceIte, encC], by simp only [go_sem, Nat.reduceAdd, Nat.reduceMul, Nat.reduceSub, Nat.reduceBEq, Nat.reduceEqDiff, Nat.reduceLeDiff, Nat.reduceLT, Int.reduceLT, Int.reduceLE, Int.reduceGE, Int.reduceGT, Int.reduceEq, Int.reduceBEq, Int.reduceNeg, Int.reduceToNat, reduceCtorEq, Nat.reducePow, Int.reducePow, ↓reduceIte], by simp only [go_sem, Nat.reduceAdd, Nat.reduceMul, Nat.reduceSub, Nat.reduceBEq, Nat.reduceEqDiff, Nat.reduceLeDiff, Nat.reduceLT, Int.reduceLT, Int.reduceLE, Int.reduceGE, Int.reduceGT, Int.reduceEq, Int.reduceBEq, Int.reduceNeg, Int.reduceToNat, reduceCtorEq, Nat.reducePow, Int.reducePow, ↓reduceIte]; rfl, .inl ⟨rfl, by simp only [go_sem, Nat.reduceAdd, Nat.reduceMul, Nat.reduceSub, Nat.reduceBEq, Nat.reduceEqDiff, Nat.reduceLeDiff, Nat.reduceLT, Int.reduceLT, Int.reduceLE, Int.reduceGE, Int.reduceGT, Int.reduceEq, Int.reduceBEq, Int.reduceNeg, Int.reduceToNat, reduceCtorEq, Nat.reducePow, Int.reducePow, ↓reduceIte]⟩⟩
    have := stk_flat ht [] []
    rw [List.append_nil, hcc] at this
    rw [List.drop_zero, this]; rfl
  · rintro m st ⟨i, s, hi, hsl, hsd, hstk, h10, h11, h12, hst⟩ next
    simp only [go_sem, Nat.reduceAdd, Nat.reduceMul, Nat.reduceSub, Nat.reduceBEq, Nat.reduceEqDiff, Nat.reduceLeDiff, Nat.reduceLT, Int.reduceLT, Int.reduceLE, Int.reduceGE, Int.reduceGT, Int.reduceEq, Int.reduceBEq, Int.reduceNeg, Int.reduceToNat, reduceCtorEq, Nat.reducePow, Int.reducePow, ↓reduceIte, h10, h11, h12, encC]
    refine AW_ite rfl (fun hc => ?_) (fun hc => ?_)
    · simp only [decide_eq_true_eq] at hc
      have hlt : i < c.length := by omega
      rw [drop_cons hlt] at hstk
      simp only [stk] at hstk
      simp only [go_sem, Nat.reduceAdd, Nat.reduceMul, Nat.reduceSub, Nat.reduceBEq, Nat.reduceEqDiff, Nat.reduceLeDiff, Nat.reduceLT, Int.reduceLT, Int.reduceLE, Int.reduceGE, Int.reduceGT, Int.reduceEq, Int.reduceBEq, Int.reduceNeg, Int.reduceToNat, reduceCtorEq, Nat.reducePow, Int.reducePow, ↓reduceIte, h10, h11, h12, encC, hlt, getD_map_lt, Int.ofNat_lt, encN]
      refine callS_p (c_arity _) ?_
      have hn : ∀ k : Nat, k ≤ i + 1 → k ≤ 274877906944 := fun k hk => by omega
      split at hstk
      · rename_i h0
        simp only [go_sem, Nat.reduceAdd, Nat.reduceMul, Nat.reduceSub, Nat.reduceBEq, Nat.reduceEqDiff, Nat.reduceLeDiff, Nat.reduceLT, Int.reduceLT, Int.reduceLE, Int.reduceGE, Int.reduceGT, Int.reduceEq, Int.reduceBEq, Int.reduceNeg, Int.reduceToNat, reduceCtorEq, Nat.reducePow, Int.reducePow, ↓reduceIte, h0, AW_loop, cast0]
        rcases hst with ⟨rfl, h3⟩ | ⟨b, blk, h3, hb, hbn, htk, hlen⟩
        · simp only [go_sem, Nat.reduceAdd, Nat.reduceMul, Nat.reduceSub, Nat.reduceBEq, Nat.reduceEqDiff, Nat.reduceLeDiff, Nat.reduceLT, Int.reduceLT, Int.reduceLE, Int.reduceGE, Int.reduceGT, Int.reduceEq, Int.reduceBEq, Int.reduceNeg, Int.reduceToNat, reduceCtorEq, Nat.reducePow, Int.reducePow, ↓reduceIte, h3, h10, h11, h12]
          refine next (m - 1) _ (by omega) ⟨i + 1, [.leaf c[i]], by omega, by simp, by simp [Tr.depth], hstk, by simp only [go_sem, Nat.reduceAdd, Nat.reduceMul, Nat.reduceSub, Nat.reduceBEq, Nat.reduceEqDiff, Nat.reduceLeDiff, Nat.reduceLT, Int.reduceLT, Int.reduceLE, Int.reduceGE, Int.reduceGT, Int.reduceEq, Int.reduceBEq, Int.reduceNeg, Int.reduceToNat, reduceCtorEq, Nat.reducePow, Int.reducePow, ↓reduceIte, h10, encC], by simp only [go_sem, Nat.reduceAdd, Nat.reduceMul, Nat.reduceSub, Nat.reduceBEq, Nat.reduceEqDiff, Nat.reduceLeDiff, Nat.reduceLT, Int.reduceLT, Int.reduceLE, Int.reduceGE, Int.reduceGT, Int.reduceEq, Int.reduceBEq, Int.reduceNeg, Int.reduceToNat, reduceCtorEq, Nat.reducePow, Int.reducePow, ↓reduceIte, h11], by simp only [go_sem, Nat.reduceAdd, Nat.reduceMul, Nat.reduceSub, Nat.reduceBEq, Nat.reduceEqDiff, Nat.reduceLeDiff, Nat.reduceLT, Int.reduceLT, Int.reduceLE, Int.reduceGE, Int.reduceGT, Int.reduceEq, Int.reduceBEq, Int.reduceNeg, Int.reduceToNat, reduceCtorEq, Nat.reducePow, Int.reducePow, ↓reduceIte]; rw [wrap64_id (by omega) (by omega)]; rfl, .inr ⟨_, _, by simp only [go_sem, Nat.reduceAdd, Nat.reduceMul, Nat.reduceSub, Nat.reduceBEq, Nat.reduceEqDiff, Nat.reduceLeDiff, Nat.reduceLT, Int.reduceLT, Int.reduceLE, Int.reduceGE, Int.reduceGT, Int.reduceEq, Int.reduceBEq, Int.reduceNeg, Int.reduceToNat, reduceCtorEq, Nat.reducePow, Int.reducePow, ↓reduceIte]; rfl, by simp only [go_sem, Nat.reduceAdd, Nat.reduceMul, Nat.reduceSub, Nat.reduceBEq, Nat.reduceEqDiff, Nat.reduceLeDiff, Nat.reduceLT, Int.reduceLT, Int.reduceLE, Int.reduceGE, Int.reduceGT, Int.reduceEq, Int.reduceBEq, Int.reduceNeg, Int.reduceToNat, reduceCtorEq, Nat.reducePow, Int.reducePow, ↓reduceIte]; rfl, by simp only [go_sem, Nat.reduceAdd, Nat.reduceMul, Nat.reduceSub, Nat.reduceBEq, Nat.reduceEqDiff, Nat.reduceLeDiff, Nat.reduceLT, Int.reduceLT, Int.reduceLE, Int.reduceGE, Int.reduceGT, Int.reduceEq, Int.reduceBEq, Int.reduceNeg, Int.reduceToNat, reduceCtorEq, Nat.reducePow, Int.reducePow, ↓reduceIte]; omega, by simp; rfl, by simp⟩⟩
        · have hs38 : s.length ≤ 274877906944 := by omega
          simp only [go_sem, Nat.reduceAdd, Nat.reduceMul, Nat.reduceSub, Nat.reduceBEq, Nat.reduceEqDiff, Nat.reduceLeDiff, Nat.reduceLT, Int.reduceLT, Int.reduceLE, Int.reduceGE, Int.reduceGT, Int.reduceEq, Int.reduceBEq, Int.reduceNeg, Int.reduceToNat, reduceCtorEq, Nat.reducePow, Int.reducePow, ↓reduceIte, h3, h10, h11, h12, hb, upd1_old _ _ _ _ _ hbn, old_ne hbn, new_ne hbn, hlen, hs38]
          refine next (m - 1) _ (by omega) ⟨i + 1, .leaf c[i] :: s, by omega, by simp; omega, ?_, hstk, by simp only [go_sem, Nat.reduceAdd, Nat.reduceMul, Nat.reduceSub, Nat.reduceBEq, Nat.reduceEqDiff, Nat.reduceLeDiff, Nat.reduceLT, Int.reduceLT, Int.reduceLE, Int.reduceGE, Int.reduceGT, Int.reduceEq, Int.reduceBEq, Int.reduceNeg, Int.reduceToNat, reduceCtorEq, Nat.reducePow, Int.reducePow, ↓reduceIte, h10, encC], by simp only [go_sem, Nat.reduceAdd, Nat.reduceMul, Nat.reduceSub, Nat.reduceBEq, Nat.reduceEqDiff, Nat.reduceLeDiff, Nat.reduceLT, Int.reduceLT, Int.reduceLE, Int.reduceGE, Int.reduceGT, Int.reduceEq, Int.reduceBEq, Int.reduceNeg, Int.reduceToNat, reduceCtorEq, Nat.reducePow, Int.reducePow, ↓reduceIte, h11], by simp only [go_sem, Nat.reduceAdd, Nat.reduceMul, Nat.reduceSub, Nat.reduceBEq, Nat.reduceEqDiff, Nat.reduceLeDiff, Nat.reduceLT, Int.reduceLT, Int.reduceLE, Int.reduceGE, Int.reduceGT, Int.reduceEq, Int.reduceBEq, Int.reduceNeg, Int.reduceToNat, reduceCtorEq, Nat.reducePow, Int.reducePow, ↓reduceIte]; rw [wrap64_id (by omega) (by omega)]; rfl, .inr ⟨_, _, by simp only [go_sem, Nat.reduceAdd, Nat.reduceMul, Nat.reduceSub, Nat.reduceBEq, Nat.reduceEqDiff, Nat.reduceLeDiff, Nat.reduceLT, Int.reduceLT, Int.reduceLE, Int.reduceGE, Int.reduceGT, Int.reduceEq, Int.reduceBEq, Int.reduceNeg, Int.reduceToNat, reduceCtorEq, Nat.reducePow, Int.reducePow, ↓reduceIte]; rfl, by simp only [go_sem, Nat.reduceAdd, Nat.reduceMul, Nat.reduceSub, Nat.reduceBEq, Nat.reduceEqDiff, Nat.reduceLeDiff, Nat.reduceLT, Int.reduceLT, Int.reduceLE, Int.reduceGE, Int.reduceGT, Int.reduceEq, Int.reduceBEq, Int.reduceNeg, Int.reduceToNat, reduceCtorEq, Nat.reducePow, Int.reducePow, ↓reduceIte]; rfl, by simp only [go_sem, Nat.reduceAdd, Nat.reduceMul, Nat.reduceSub, Nat.reduceBEq, Nat.reduceEqDiff, Nat.reduceLeDiff, Nat.reduceLT, Int.reduceLT, Int.reduceLE, Int.reduceGE, Int.reduceGT, Int.reduceEq, Int.reduceBEq, Int.reduceNeg, Int.reduceToNat, reduceCtorEq, Nat.reducePow, Int.reducePow, ↓reduceIte]; omega, ?_, by simp [hlen]⟩⟩
          · simp only [List.mem_cons, forall_eq_or_imp, Tr.depth]
            exact ⟨by omega, fun x hx => by have := hsd x hx; omega⟩
          · have w1 : IntKind.i64.wrap 1 = 1 := wrap64_id (by omega) (by omega)
            rw [htk, List.take_of_length_le (by simp)]; simp [Tr.depth, w1]
      · split at hstk
        · rename_i h0 h1
          split at hstk
          · rename_i a s
            rcases hst with ⟨h, _⟩ | ⟨b, blk, h3, hb, hbn, htk, hlen⟩
            · simp at h
            · simp only [List.length_cons] at h3 hlen hsl htk
              have hda := hsd a (by simp)
              have hpa := a.depth_pos
              have hs38 : s.length ≤ 274877906944 := by omega
              have htop := stack_top htk
              have hpop := stack_pop htk
              have w1 : IntKind.i64.wrap (((s.length + 1 : Nat) : Int) - 1) = (s.length : Int) := by rw [wrap64_id (by omega) (by omega)]; omega
              have w2 : IntKind.i64.wrap ((a.depth : Int) + 1) = ((a.depth + 1 : Nat) : Int) := by rw [wrap64_id (by omega) (by omega)]; omega
              have hlt2 : ((s.length : Nat) : Int) < ((s.length + 1 : Nat) : Int) := by omega
              have hle2 : ((s.length : Nat) : Int) ≤ ((s.length + 1 : Nat) : Int) := by omega
              have hlen' : s.length ≤ blk.length := by omega
              have hd0 : ((0 : Int) < (a.depth : Int)) := by omega
              simp only [go_sem, Nat.reduceAdd, Nat.reduceMul, Nat.reduceSub, Nat.reduceBEq, Nat.reduceEqDiff, Nat.reduceLeDiff, Nat.reduceLT, Int.reduceLT, Int.reduceLE, Int.reduceGE, Int.reduceGT, Int.reduceEq, Int.reduceBEq, Int.reduceNeg, Int.reduceToNat, reduceCtorEq, Nat.reducePow, Int.reducePow, ↓reduceIte, h1, cast0, cast1, AW_loop, h3, h10, h11, h12, hb, upd1_old _ _ _ _ _ hbn, old_ne hbn, new_ne hbn, hlen', hs38, w1, hlt2, hle2, htop, hd0]
              rw [AW_inLoop]
              simp only [go_sem, Nat.reduceAdd, Nat.reduceMul, Nat.reduceSub, Nat.reduceBEq, Nat.reduceEqDiff, Nat.reduceLeDiff, Nat.reduceLT, Int.reduceLT, Int.reduceLE, Int.reduceGE, Int.reduceGT, Int.reduceEq, Int.reduceBEq, Int.reduceNeg, Int.reduceToNat, reduceCtorEq, Nat.reducePow, Int.reducePow, ↓reduceIte, h1, cast0, cast1, w01, h3, h10, h11, h12, hb, upd1_old _ _ _ _ _ hbn, old_ne hbn, new_ne hbn, hlen', hs38, w1, w2, hlt2, hle2, htop, hd0]
              refine next (m - 1) _ (by omega) ⟨i + 1, .un c[i] a :: s, by omega, by simp; omega, ?_, hstk, by simp only [go_sem, Nat.reduceAdd, Nat.reduceMul, Nat.reduceSub, Nat.reduceBEq, Nat.reduceEqDiff, Nat.reduceLeDiff, Nat.reduceLT, Int.reduceLT, Int.reduceLE, Int.reduceGE, Int.reduceGT, Int.reduceEq, Int.reduceBEq, Int.reduceNeg, Int.reduceToNat, reduceCtorEq, Nat.reducePow, Int.reducePow, ↓reduceIte, h10, encC], by simp only [go_sem, Nat.reduceAdd, Nat.reduceMul, Nat.reduceSub, Nat.reduceBEq, Nat.reduceEqDiff, Nat.reduceLeDiff, Nat.reduceLT, Int.reduceLT, Int.reduceLE, Int.reduceGE, Int.reduceGT, Int.reduceEq, Int.reduceBEq, Int.reduceNeg, Int.reduceToNat, reduceCtorEq, Nat.reducePow, Int.reducePow, ↓reduceIte, h11], by simp only [go_sem, Nat.reduceAdd, Nat.reduceMul, Nat.reduceSub, Nat.reduceBEq, Nat.reduceEqDiff, Nat.reduceLeDiff, Nat.reduceLT, Int.reduceLT, Int.reduceLE, Int.reduceGE, Int.reduceGT, Int.reduceEq, Int.reduceBEq, Int.reduceNeg, Int.reduceToNat, reduceCtorEq, Nat.reducePow, Int.reducePow, ↓reduceIte]; rw [wrap64_id (by omega) (by omega)]; rfl, .inr ⟨_, _, by simp only [go_sem, Nat.reduceAdd, Nat.reduceMul, Nat.reduceSub, Nat.reduceBEq, Nat.reduceEqDiff, Nat.reduceLeDiff, Nat.reduceLT, Int.reduceLT, Int.reduceLE, Int.reduceGE, Int.reduceGT, Int.reduceEq, Int.reduceBEq, Int.reduceNeg, Int.reduceToNat, reduceCtorEq, Nat.reducePow, Int.reducePow, ↓reduceIte]; rfl, by simp only [go_sem, Nat.reduceAdd, Nat.reduceMul, Nat.reduceSub, Nat.reduceBEq, Nat.reduceEqDiff, Nat.reduceLeDiff, Nat.reduceLT, Int.reduceLT, Int.reduceLE, Int.reduceGE, Int.reduceGT, Int.reduceEq, Int.reduceBEq, Int.reduceNeg, Int.reduceToNat, reduceCtorEq, Nat.reducePow, Int.reducePow, ↓reduceIte]; rfl, by simp only [go_sem, Nat.reduceAdd, Nat.reduceMul, Nat.reduceSub, Nat.reduceBEq, Nat.reduceEqDiff, Nat.reduceLeDiff, Nat.reduceLT, Int.reduceLT, Int.reduceLE, Int.reduceGE, Int.reduceGT, Int.reduceEq, Int.reduceBEq, Int.reduceNeg, Int.reduceToNat, reduceCtorEq, Nat.reducePow, Int.reducePow, ↓reduceIte]; omega, ?_, by simp [hlen']⟩⟩
              · simp only [List.mem_cons, forall_eq_or_imp, Tr.depth]
                exact ⟨by omega, fun x hx => by have := hsd x (by simp [hx]); omega⟩
              · rw [hpop, List.take_of_length_le (by simp)]; simp [Tr.depth]
          · simp at hstk
        · split at hstk
          · rename_i h0 h1 h2
            split at hstk
            · rename_i b' a s
              rcases hst with ⟨h, _⟩ | ⟨b, blk, h3, hb, hbn, htk, hlen⟩
              · simp at h
              · simp only [List.length_cons] at h3 hlen hsl htk
                have hda := hsd a (by simp)
                have hdb := hsd b' (by simp)
                have hpa := a.depth_pos
                have hpb := b'.depth_pos
                have hs38 : s.length ≤ 274877906944 := by omega
                have htop := stack_top (s := a :: s) htk
                have hpop1 := stack_pop (s := a :: s) htk
                simp only [List.length_cons] at htop hpop1
                have htop2 := stack_top hpop1
                have hpop := stack_pop hpop1
                have w1 : IntKind.i64.wrap (((s.length + 1 + 1 : Nat) : Int) - 1) = ((s.length + 1 : Nat) : Int) := by rw [wrap64_id (by omega) (by omega)]; omega
                have w1' : IntKind.i64.wrap (((s.length + 1 : Nat) : Int) - 1) = (s.length : Int) := by rw [wrap64_id (by omega) (by omega)]; omega
                have w2 : IntKind.i64.wrap (((max a.depth b'.depth : Nat) : Int) + 1) = ((max a.depth b'.depth + 1 : Nat) : Int) := by rw [wrap64_id (by omega) (by omega)]; omega
                have hlt2 : ((s.length : Nat) : Int) < ((s.length + 1 : Nat) : Int) := by omega
                have hle2 : ((s.length : Nat) : Int) ≤ ((s.length + 1 : Nat) : Int) := by omega
                have hlt3 : ((s.length + 1 : Nat) : Int) < ((s.length + 1 + 1 : Nat) : Int) := by omega
                have hle3 : ((s.length + 1 : Nat) : Int) ≤ ((s.length + 1 + 1 : Nat) : Int) := by omega
                have hlen' : s.length ≤ blk.length := by omega
                have hlen1 : s.length + 1 ≤ blk.length := by omega
                have hd0 : ((0 : Int) < (b'.depth : Int)) := by omega
                have hmx : (if (b'.depth : Int) < (a.depth : Int) then (a.depth : Int) else (b'.depth : Int)) = ((max a.depth b'.depth : Nat) : Int) := by split <;> omega
                simp only [go_sem, Nat.reduceAdd, Nat.reduceMul, Nat.reduceSub, Nat.reduceBEq, Nat.reduceEqDiff, Nat.reduceLeDiff, Nat.reduceLT, Int.reduceLT, Int.reduceLE, Int.reduceGE, Int.reduceGT, Int.reduceEq, Int.reduceBEq, Int.reduceNeg, Int.reduceToNat, reduceCtorEq, Nat.reducePow, Int.reducePow, ↓reduceIte, h2, cast0, cast1, AW_loop, h3, h10, h11, h12, hb, upd1_old _ _ _ _ _ hbn, old_ne hbn, new_ne hbn, hlen', hlen1, hs38, w1, hlt3, hle3, htop, hd0]
                rw [AW_inLoop]
                simp only [go_sem, Nat.reduceAdd, Nat.reduceMul, Nat.reduceSub, Nat.reduceBEq, Nat.reduceEqDiff, Nat.reduceLeDiff, Nat.reduceLT, Int.reduceLT, Int.reduceLE, Int.reduceGE, Int.reduceGT, Int.reduceEq, Int.reduceBEq, Int.reduceNeg, Int.reduceToNat, reduceCtorEq, Nat.reducePow, Int.reducePow, ↓reduceIte, h2, cast0, cast1, w01, h3, h10, h11, h12, hb, upd1_old _ _ _ _ _ hbn, old_ne hbn, new_ne hbn, hlen', hlen1, hs38, w1', hlt2, hle2, htop2, hmx]
                rw [AW_inLoop]
                simp only [go_sem, Nat.reduceAdd, Nat.reduceMul, Nat.reduceSub, Nat.reduceBEq, Nat.reduceEqDiff, Nat.reduceLeDiff, Nat.reduceLT, Int.reduceLT, Int.reduceLE, Int.reduceGE, Int.reduceGT, Int.reduceEq, Int.reduceBEq, Int.reduceNeg, Int.reduceToNat, reduceCtorEq, Nat.reducePow, Int.reducePow, ↓reduceIte, h2, cast0, cast1, w12, h3, h10, h11, h12, hb, upd1_old _ _ _ _ _ hbn, old_ne hbn, new_ne hbn, hlen', hs38, w2]
                refine next (m - 1) _ (by omega) ⟨i + 1, .bin c[i] a b' :: s, by omega, by simp; omega, ?_, hstk, by simp only [go_sem, Nat.reduceAdd, Nat.reduceMul, Nat.reduceSub, Nat.reduceBEq, Nat.reduceEqDiff, Nat.reduceLeDiff, Nat.reduceLT, Int.reduceLT, Int.reduceLE, Int.reduceGE, Int.reduceGT, Int.reduceEq, Int.reduceBEq, Int.reduceNeg, Int.reduceToNat, reduceCtorEq, Nat.reducePow, Int.reducePow, ↓reduceIte, h10, encC], by simp only [go_sem, Nat.reduceAdd, Nat.reduceMul, Nat.reduceSub, Nat.reduceBEq, Nat.reduceEqDiff, Nat.reduceLeDiff, Nat.reduceLT, Int.reduceLT, Int.reduceLE, Int.reduceGE, Int.reduceGT, Int.reduceEq, Int.reduceBEq, Int.reduceNeg, Int.reduceToNat, reduceCtorEq, Nat.reducePow, Int.reducePow, ↓reduceIte, h11], by simp only [go_sem, Nat.reduceAdd, Nat.reduceMul, Nat.reduceSub, Nat.reduceBEq, Nat.reduceEqDiff, Nat.reduceLeDiff, Nat.reduceLT, Int.reduceLT, Int.reduceLE, Int.reduceGE, Int.reduceGT, Int.reduceEq, Int.reduceBEq, Int.reduceNeg, Int.reduceToNat, reduceCtorEq, Nat.reducePow, Int.reducePow, ↓reduceIte]; rw [wrap64_id (by omega) (by omega)]; rfl, .inr ⟨_, _, by simp only [go_sem, Nat.reduceAdd, Nat.reduceMul, Nat.reduceSub, Nat.reduceBEq, Nat.reduceEqDiff, Nat.reduceLeDiff, Nat.reduceLT, Int.reduceLT, Int.reduceLE, Int.reduceGE, Int.reduceGT, Int.reduceEq, Int.reduceBEq, Int.reduceNeg, Int.reduceToNat, reduceCtorEq, Nat.reducePow, Int.reducePow, ↓reduceIte]; rfl, by simp only [go_sem, Nat.reduceAdd, Nat.reduceMul, Nat.reduceSub, Nat.reduceBEq, Nat.reduceEqDiff, Nat.reduceLeDiff, Nat.reduceLT, Int.reduceLT, Int.reduceLE, Int.reduceGE, Int.reduceGT, Int.reduceEq, Int.reduceBEq, Int.reduceNeg, Int.reduceToNat, reduceCtorEq, Nat.reducePow, Int.reducePow, ↓reduceIte]; rfl, by simp only [go_sem, Nat.reduceAdd, Nat.reduceMul, Nat.reduceSub, Nat.reduceBEq, Nat.reduceEqDiff, Nat.reduceLeDiff, Nat.reduceLT, Int.reduceLT, Int.reduceLE, Int.reduceGE, Int.reduceGT, Int.reduceEq, Int.reduceBEq, Int.reduceNeg, Int.reduceToNat, reduceCtorEq, Nat.reducePow, Int.reducePow, ↓reduceIte]; omega, ?_, by simp [hlen']⟩⟩
                · simp only [List.mem_cons, forall_eq_or_imp, Tr.depth]
                  exact ⟨by omega, fun x hx => by have := hsd x (by simp [hx]); omega⟩
                · rw [hpop, List.take_of_length_le (by simp)]; simp [Tr.depth]
            · simp at hstk
          · simp at hstk
    · simp only [decide_eq_false_iff_not] at hc
      have hnil : c.drop i = [] := List.drop_eq_nil_of_le (by omega)
      rw [hnil] at hstk
      simp only [stk, Option.some.injEq] at hstk
      subst hstk
      rcases hst with ⟨h, _⟩ | ⟨b, blk, h3, hb, hbn, htk, hlen⟩
      · simp at h
      · have htop := stack_top htk
        simp only [List.length_nil] at htop
        have : blk.head? = some (.int .i64 t.depth) := by cases blk <;> simp_all
        simp only [go_sem, Nat.reduceAdd, Nat.reduceMul, Nat.reduceSub, Nat.reduceBEq, Nat.reduceEqDiff, Nat.reduceLeDiff, Nat.reduceLT, Int.reduceLT, Int.reduceLE, Int.reduceGE, Int.reduceGT, Int.reduceEq, Int.reduceBEq, Int.reduceNeg, Int.reduceToNat, reduceCtorEq, Nat.reducePow, Int.reducePow, ↓reduceIte, h3, h10, h11, h12, hb, this, cast1, List.length_nil]
        exact .mk (by simp only [go_sem, Nat.reduceAdd, Nat.reduceMul, Nat.reduceSub, Nat.reduceBEq, Nat.reduceEqDiff, Nat.reduceLeDiff, Nat.reduceLT, Int.reduceLT, Int.reduceLE, Int.reduceGE, Int.reduceGT, Int.reduceEq, Int.reduceBEq, Int.reduceNeg, Int.reduceToNat, reduceCtorEq, Nat.reducePow, Int.reducePow, ↓reduceIte])

end Go.Proofs.Ytmcejlhkohbdfaa
