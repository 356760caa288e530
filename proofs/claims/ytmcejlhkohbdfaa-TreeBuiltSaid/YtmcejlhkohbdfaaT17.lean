/- TreeBuilt. -/
import Derived.Test.YtmcejlhkohbdfaaT16
set_option linter.unusedVariables false
set_option linter.unusedSimpArgs false
namespace Go.Proofs.Ytmcejlhkohbdfaa
open Go Go.Ab Go.Num

/-- Nodes, of which some have nil in the place of their words. -/
def encN' (p : Nd × Bool) : AV := .agg [.int .i64 p.1.op, .int .i64 p.1.i, if p.2 then .nilsl else .sl 1 (p.1.n.map fun x : Nat => .int .u32 (x : Int))]
theorem elt_nd' : Elt 3 encN' := ⟨by omega, fun p => ⟨[.int .i64 p.1.op, .int .i64 p.1.i, if p.2 then .nilsl else .sl 1 (p.1.n.map fun x : Nat => .int .u32 (x : Int))], rfl, rfl, by rcases p with ⟨x, b⟩; cases b <;> rfl, rfl⟩⟩
theorem le_nd' (l : List (Nd × Bool)) (h : ∀ p ∈ l, p.2 = true → p.1.n = []) : LeL [AV.sl 3 (l.map encN')] [encC (l.map (·.1))] :=
  .cons (AV.le_sl (by simp) fun i x y hx hy => by
    simp only [List.getElem?_map, Option.map_eq_some_iff] at hx hy
    obtain ⟨p, hp, rfl⟩ := hx
    obtain ⟨q, ⟨p', hp', rfl⟩, rfl⟩ := hy
    rw [hp] at hp'; cases hp'
    refine ⟨_, _, rfl, rfl, .cons (AV.le_refl _) (.cons (AV.le_refl _) (.cons ?_ .nil)), rfl⟩
    rcases p with ⟨x, b⟩
    cases b with
    | false => exact AV.le_refl _
    | true =>
      have := h _ (List.mem_of_getElem? hp) rfl
      simp only at this
      simp only [this, if_true, List.map_nil]
      exact AV.le_nil 1) .nil
theorem flat_nd' (l : List Nd) : flatC encN' (l.map fun x => (x, false)) = flatC encN l := by simp only [flatC, List.flatMap_map]; rfl
theorem flat_nd'' (l : List Nd) (op i : Int) : flatC encN' ((l.map fun x => (x, false)) ++ [(nz (op, i), true)]) = flatC encN l ++ [.int .i64 op, .int .i64 i, .nilsl] := by
  rw [flatC_snoc, flat_nd']; rfl
theorem own_frz' {h : Heap} {b n : Nat} {l : List (Nd × Bool)} (hn : n = l.length) (hb : h b = some (flatC encN' l)) : frz1 h (.own b 0 n 3) = .sl 3 (l.map encN') := by
  subst hn; exact frz1_flatC elt_nd' hb

theorem own_args' {h : Heap} {b n : Nat} (l : List (Nd × Bool)) (hn : n = l.length) (hb : h b = some (flatC encN' l)) : [AV.own b 0 n 3].map (frz2 h) = [.sl 3 (l.map encN')] := congrArg (fun x => [x]) (own_frz' hn hb)
theorem own_args {h : Heap} {b n : Nat} (l : List Nd) (hn : n = l.length) (hb : h b = some (flatC encN l)) : [AV.own b 0 n 3].map (frz2 h) = [encC l] := congrArg (fun x => [x]) (own_frz hn hb)

set_option maxHeartbeats 4000000 in
theorem c_built (a b : List Nd) (i : Int) (hda : ∀ x ∈ a, Wd x.n) (hdb : ∀ x ∈ b, Wd x.n) : PCalls Try.prog 5 [encC a, encC b, .int .i64 i] (.bool true) := by
  refine pcalls_of_AW (pa := []) (fn := Try.f5) (ts := [6]) follows_mixed Try.func5 rfl rfl (by kernel_rfl) (by kernel_rfl) (by rw [Try.ntmps5]; simp) ?_
  simp only [go_sem, Nat.reduceAdd, Nat.reduceMul, Nat.reduceSub, Nat.reduceBEq, Nat.reduceEqDiff, Nat.reduceLeDiff, Nat.reduceLT, Int.reduceLT, Int.reduceLE, Int.reduceGE, Int.reduceGT, Int.reduceEq, Int.reduceBEq, Int.reduceNeg, Int.reduceToNat, reduceCtorEq, Nat.reducePow, Int.reducePow, ↓reduceIte]
  refine callS_p (c_long a 50 10 (by omega)) ?_
  cases hla : longB a 50 10 with
  | true =>
    simp only [go_sem, Nat.reduceAdd, Nat.reduceMul, Nat.reduceSub, Nat.reduceBEq, Nat.reduceEqDiff, Nat.reduceLeDiff, Nat.reduceLT, Int.reduceLT, Int.reduceLE, Int.reduceGE, Int.reduceGT, Int.reduceEq, Int.reduceBEq, Int.reduceNeg, Int.reduceToNat, reduceCtorEq, Nat.reducePow, Int.reducePow, ↓reduceIte]
    refine callS_p c_works ?_
    simp only [go_sem, Nat.reduceAdd, Nat.reduceMul, Nat.reduceSub, Nat.reduceBEq, Nat.reduceEqDiff, Nat.reduceLeDiff, Nat.reduceLT, Int.reduceLT, Int.reduceLE, Int.reduceGE, Int.reduceGT, Int.reduceEq, Int.reduceBEq, Int.reduceNeg, Int.reduceToNat, reduceCtorEq, Nat.reducePow, Int.reducePow, ↓reduceIte]
    exact .mk (by simp only [go_sem, Nat.reduceAdd, Nat.reduceMul, Nat.reduceSub, Nat.reduceBEq, Nat.reduceEqDiff, Nat.reduceLeDiff, Nat.reduceLT, Int.reduceLT, Int.reduceLE, Int.reduceGE, Int.reduceGT, Int.reduceEq, Int.reduceBEq, Int.reduceNeg, Int.reduceToNat, reduceCtorEq, Nat.reducePow, Int.reducePow, ↓reduceIte])
  | false =>
    simp only [go_sem, Nat.reduceAdd, Nat.reduceMul, Nat.reduceSub, Nat.reduceBEq, Nat.reduceEqDiff, Nat.reduceLeDiff, Nat.reduceLT, Int.reduceLT, Int.reduceLE, Int.reduceGE, Int.reduceGT, Int.reduceEq, Int.reduceBEq, Int.reduceNeg, Int.reduceToNat, reduceCtorEq, Nat.reducePow, Int.reducePow, ↓reduceIte]
    refine callS_p (c_long b 50 10 (by omega)) ?_
    cases hlb : longB b 50 10 with
    | true =>
      simp only [go_sem, Nat.reduceAdd, Nat.reduceMul, Nat.reduceSub, Nat.reduceBEq, Nat.reduceEqDiff, Nat.reduceLeDiff, Nat.reduceLT, Int.reduceLT, Int.reduceLE, Int.reduceGE, Int.reduceGT, Int.reduceEq, Int.reduceBEq, Int.reduceNeg, Int.reduceToNat, reduceCtorEq, Nat.reducePow, Int.reducePow, ↓reduceIte]
      refine callS_p c_works ?_
      simp only [go_sem, Nat.reduceAdd, Nat.reduceMul, Nat.reduceSub, Nat.reduceBEq, Nat.reduceEqDiff, Nat.reduceLeDiff, Nat.reduceLT, Int.reduceLT, Int.reduceLE, Int.reduceGE, Int.reduceGT, Int.reduceEq, Int.reduceBEq, Int.reduceNeg, Int.reduceToNat, reduceCtorEq, Nat.reducePow, Int.reducePow, ↓reduceIte]
      exact .mk (by simp only [go_sem, Nat.reduceAdd, Nat.reduceMul, Nat.reduceSub, Nat.reduceBEq, Nat.reduceEqDiff, Nat.reduceLeDiff, Nat.reduceLT, Int.reduceLT, Int.reduceLE, Int.reduceGE, Int.reduceGT, Int.reduceEq, Int.reduceBEq, Int.reduceNeg, Int.reduceToNat, reduceCtorEq, Nat.reducePow, Int.reducePow, ↓reduceIte])
    | false =>
      have oka := okC_of hla (by omega) (by omega) hda
      have okb := okC_of hlb (by omega) (by omega) hdb
      have la := oka.1
      have lb := okb.1
      simp only [go_sem, Nat.reduceAdd, Nat.reduceMul, Nat.reduceSub, Nat.reduceBEq, Nat.reduceEqDiff, Nat.reduceLeDiff, Nat.reduceLT, Int.reduceLT, Int.reduceLE, Int.reduceGE, Int.reduceGT, Int.reduceEq, Int.reduceBEq, Int.reduceNeg, Int.reduceToNat, reduceCtorEq, Nat.reducePow, Int.reducePow, ↓reduceIte]
      refine callS_p (c_rwrong a la) ?_
      by_cases hwa : 0 ≤ wrong a
      · have h1 := dec_true hwa
        simp only [go_sem, Nat.reduceAdd, Nat.reduceMul, Nat.reduceSub, Nat.reduceBEq, Nat.reduceEqDiff, Nat.reduceLeDiff, Nat.reduceLT, Int.reduceLT, Int.reduceLE, Int.reduceGE, Int.reduceGT, Int.reduceEq, Int.reduceBEq, Int.reduceNeg, Int.reduceToNat, reduceCtorEq, Nat.reducePow, Int.reducePow, ↓reduceIte, h1]
        refine callS_p c_works ?_
        simp only [go_sem, Nat.reduceAdd, Nat.reduceMul, Nat.reduceSub, Nat.reduceBEq, Nat.reduceEqDiff, Nat.reduceLeDiff, Nat.reduceLT, Int.reduceLT, Int.reduceLE, Int.reduceGE, Int.reduceGT, Int.reduceEq, Int.reduceBEq, Int.reduceNeg, Int.reduceToNat, reduceCtorEq, Nat.reducePow, Int.reducePow, ↓reduceIte]
        exact .mk (by simp only [go_sem, Nat.reduceAdd, Nat.reduceMul, Nat.reduceSub, Nat.reduceBEq, Nat.reduceEqDiff, Nat.reduceLeDiff, Nat.reduceLT, Int.reduceLT, Int.reduceLE, Int.reduceGE, Int.reduceGT, Int.reduceEq, Int.reduceBEq, Int.reduceNeg, Int.reduceToNat, reduceCtorEq, Nat.reducePow, Int.reducePow, ↓reduceIte])
      · have h1 := dec_false hwa
        simp only [go_sem, Nat.reduceAdd, Nat.reduceMul, Nat.reduceSub, Nat.reduceBEq, Nat.reduceEqDiff, Nat.reduceLeDiff, Nat.reduceLT, Int.reduceLT, Int.reduceLE, Int.reduceGE, Int.reduceGT, Int.reduceEq, Int.reduceBEq, Int.reduceNeg, Int.reduceToNat, reduceCtorEq, Nat.reducePow, Int.reducePow, ↓reduceIte, h1]
        refine callS_p (c_rwrong b lb) ?_
        by_cases hwb : 0 ≤ wrong b
        · have h2 := dec_true hwb
          simp only [go_sem, Nat.reduceAdd, Nat.reduceMul, Nat.reduceSub, Nat.reduceBEq, Nat.reduceEqDiff, Nat.reduceLeDiff, Nat.reduceLT, Int.reduceLT, Int.reduceLE, Int.reduceGE, Int.reduceGT, Int.reduceEq, Int.reduceBEq, Int.reduceNeg, Int.reduceToNat, reduceCtorEq, Nat.reducePow, Int.reducePow, ↓reduceIte, h2]
          refine callS_p c_works ?_
          simp only [go_sem, Nat.reduceAdd, Nat.reduceMul, Nat.reduceSub, Nat.reduceBEq, Nat.reduceEqDiff, Nat.reduceLeDiff, Nat.reduceLT, Int.reduceLT, Int.reduceLE, Int.reduceGE, Int.reduceGT, Int.reduceEq, Int.reduceBEq, Int.reduceNeg, Int.reduceToNat, reduceCtorEq, Nat.reducePow, Int.reducePow, ↓reduceIte]
          exact .mk (by simp only [go_sem, Nat.reduceAdd, Nat.reduceMul, Nat.reduceSub, Nat.reduceBEq, Nat.reduceEqDiff, Nat.reduceLeDiff, Nat.reduceLT, Int.reduceLT, Int.reduceLE, Int.reduceGE, Int.reduceGT, Int.reduceEq, Int.reduceBEq, Int.reduceNeg, Int.reduceToNat, reduceCtorEq, Nat.reducePow, Int.reducePow, ↓reduceIte])
        · have h2 := dec_false hwb
          obtain ⟨s, hs, rfl⟩ := parse (show wrong a < 0 by omega)
          obtain ⟨t, ht, rfl⟩ := parse (show wrong b < 0 by omega)
          simp only [go_sem, Nat.reduceAdd, Nat.reduceMul, Nat.reduceSub, Nat.reduceBEq, Nat.reduceEqDiff, Nat.reduceLeDiff, Nat.reduceLT, Int.reduceLT, Int.reduceLE, Int.reduceGE, Int.reduceGT, Int.reduceEq, Int.reduceBEq, Int.reduceNeg, Int.reduceToNat, reduceCtorEq, Nat.reducePow, Int.reducePow, ↓reduceIte, h2]
          refine callS_p (c_to _ la) ?_
          simp only [go_sem, Nat.reduceAdd, Nat.reduceMul, Nat.reduceSub, Nat.reduceBEq, Nat.reduceEqDiff, Nat.reduceLeDiff, Nat.reduceLT, Int.reduceLT, Int.reduceLE, Int.reduceGE, Int.reduceGT, Int.reduceEq, Int.reduceBEq, Int.reduceNeg, Int.reduceToNat, reduceCtorEq, Nat.reducePow, Int.reducePow, ↓reduceIte]
          refine callS_p (c_to _ lb) ?_
          have hfs := flatN_len s.flat
          have hft := flatN_len t.flat
          have take_s : (flatC encN s.flat).take (s.flat.length * 3) = flatC encN s.flat := List.take_of_length_le (Nat.le_of_eq hfs)
          have hst38 : s.flat.length + t.flat.length ≤ 274877906944 := by omega
          have hct : (flatC encN s.flat ++ flatC encN t.flat).length = (s.flat.length + t.flat.length) * 3 := by rw [List.length_append, hfs, hft]; omega
          have take_c : (flatC encN s.flat ++ flatC encN t.flat).take ((s.flat.length + t.flat.length) * 3) = flatC encN s.flat ++ flatC encN t.flat := List.take_of_length_le (Nat.le_of_eq hct)
          have ha38 : s.flat.length ≤ 274877906944 := by omega
          have hb38 : t.flat.length ≤ 274877906944 := by omega
          simp only [go_sem, Nat.reduceAdd, Nat.reduceMul, Nat.reduceSub, Nat.reduceBEq, Nat.reduceEqDiff, Nat.reduceLeDiff, Nat.reduceLT, Int.reduceLT, Int.reduceLE, Int.reduceGE, Int.reduceGT, Int.reduceEq, Int.reduceBEq, Int.reduceNeg, Int.reduceToNat, reduceCtorEq, Nat.reducePow, Int.reducePow, ↓reduceIte, encC, ha38, hb38, cellsD_map, hfs, hft, take_s, hst38, hct, take_c]
          have hS : (Tr.bin (nz (8, 0)) s t).ok := ⟨show arity 8 = 2 by decide, hs, ht⟩
          have hP : (Tr.un (nz (11, i)) s).ok := ⟨show arity 11 = 1 by decide, hs⟩
          have okz : ∀ op i, okN (nz (op, i)) := fun op i => ⟨by simp [nz], Wd.nil⟩
          have okS : okC (Tr.bin (nz (8, 0)) s t).flat := ⟨by
              have h3 : s.flat.length ≤ 50 := by simp [longB] at hla; omega
              have h4 : t.flat.length ≤ 50 := by simp [longB] at hlb; omega
              simp only [Tr.flat, List.length_append, List.length_singleton]; omega, fun x hx => by
            simp only [Tr.flat, List.mem_append, List.mem_singleton] at hx
            rcases hx with hx | hx | rfl
            · exact oka.2 x hx
            · exact okb.2 x hx
            · exact okz _ _⟩
          have okP : okC (Tr.un (nz (11, i)) s).flat := ⟨by
              have h3 : s.flat.length ≤ 50 := by simp [longB] at hla; omega
              simp only [Tr.flat, List.length_append, List.length_singleton]; omega, fun x hx => by
            simp only [Tr.flat, List.mem_append, List.mem_singleton] at hx
            rcases hx with hx | rfl
            · exact oka.2 x hx
            · exact okz _ _⟩
          have hlS : (s.flat ++ t.flat).length < 1000000 := by
            have h3 : s.flat.length ≤ 50 := by simp [longB] at hla; omega
            have h4 : t.flat.length ≤ 50 := by simp [longB] at hlb; omega
            rw [List.length_append]; omega
          have cS := c_parts _ hS okS
          have lS := le_nd' (((s.flat ++ t.flat).map fun x => (x, false)) ++ [(nz (8, 0), true)]) (fun p hp => by
            simp only [List.mem_append, List.mem_map, List.mem_singleton] at hp
            rcases hp with ⟨x, _, rfl⟩ | rfl
            · simp
            · intro _; rfl)
          have eS : (((s.flat ++ t.flat).map fun x => (x, false)) ++ [(nz (8, 0), true)]).map (·.1) = (Tr.bin (nz (8, 0)) s t).flat := by simp [Tr.flat, Function.comp_def]
          rw [eS] at lS
          have cP := c_parts _ hP okP
          have lP := le_nd' ((s.flat.map fun x => (x, false)) ++ [(nz (11, i), true)]) (fun p hp => by
            simp only [List.mem_append, List.mem_map, List.mem_singleton] at hp
            rcases hp with ⟨x, _, rfl⟩ | rfl
            · simp
            · intro _; rfl)
          have eP : ((s.flat.map fun x => (x, false)) ++ [(nz (11, i), true)]).map (·.1) = (Tr.un (nz (11, i)) s).flat := by simp [Tr.flat, Function.comp_def]
          rw [eP] at lP
          have hwt : wrong (s.flat ++ t.flat) = (s.flat.length + t.flat.length : Nat) := by
            unfold wrong
            rw [wr_flat hs _ _ _ (by omega), ← List.append_nil t.flat, wr_flat ht _ _ _ (by omega)]
            simp [wr]
          simp only [Tr.kids, List.map_cons, List.map_nil] at cS cP
          refine callS_q (cS.args_le lS) (own_args' (((s.flat ++ t.flat).map fun x => (x, false)) ++ [(nz (8, 0), true)]) (by simp) (by simp only [go_sem, Nat.reduceAdd, Nat.reduceMul, Nat.reduceSub, Nat.reduceBEq, Nat.reduceEqDiff, Nat.reduceLeDiff, Nat.reduceLT, Int.reduceLT, Int.reduceLE, Int.reduceGE, Int.reduceGT, Int.reduceEq, Int.reduceBEq, Int.reduceNeg, Int.reduceToNat, reduceCtorEq, Nat.reducePow, Int.reducePow, ↓reduceIte]; rw [flat_nd'', flatC_app])) (by simp only [go_sem, Nat.reduceAdd, Nat.reduceMul, Nat.reduceSub, Nat.reduceBEq, Nat.reduceEqDiff, Nat.reduceLeDiff, Nat.reduceLT, Int.reduceLT, Int.reduceLE, Int.reduceGE, Int.reduceGT, Int.reduceEq, Int.reduceBEq, Int.reduceNeg, Int.reduceToNat, reduceCtorEq, Nat.reducePow, Int.reducePow, ↓reduceIte]; rfl) ?_
          simp only [go_sem, Nat.reduceAdd, Nat.reduceMul, Nat.reduceSub, Nat.reduceBEq, Nat.reduceEqDiff, Nat.reduceLeDiff, Nat.reduceLT, Int.reduceLT, Int.reduceLE, Int.reduceGE, Int.reduceGT, Int.reduceEq, Int.reduceBEq, Int.reduceNeg, Int.reduceToNat, reduceCtorEq, Nat.reducePow, Int.reducePow, ↓reduceIte, encP]
          refine callS_q (cP.args_le lP) (own_args' ((s.flat.map fun x => (x, false)) ++ [(nz (11, i), true)]) (by simp) (by simp only [go_sem, Nat.reduceAdd, Nat.reduceMul, Nat.reduceSub, Nat.reduceBEq, Nat.reduceEqDiff, Nat.reduceLeDiff, Nat.reduceLT, Int.reduceLT, Int.reduceLE, Int.reduceGE, Int.reduceGT, Int.reduceEq, Int.reduceBEq, Int.reduceNeg, Int.reduceToNat, reduceCtorEq, Nat.reducePow, Int.reducePow, ↓reduceIte]; rw [flat_nd''])) (by simp only [go_sem, Nat.reduceAdd, Nat.reduceMul, Nat.reduceSub, Nat.reduceBEq, Nat.reduceEqDiff, Nat.reduceLeDiff, Nat.reduceLT, Int.reduceLT, Int.reduceLE, Int.reduceGE, Int.reduceGT, Int.reduceEq, Int.reduceBEq, Int.reduceNeg, Int.reduceToNat, reduceCtorEq, Nat.reducePow, Int.reducePow, ↓reduceIte]; rfl) ?_
          simp only [go_sem, Nat.reduceAdd, Nat.reduceMul, Nat.reduceSub, Nat.reduceBEq, Nat.reduceEqDiff, Nat.reduceLeDiff, Nat.reduceLT, Int.reduceLT, Int.reduceLE, Int.reduceGE, Int.reduceGT, Int.reduceEq, Int.reduceBEq, Int.reduceNeg, Int.reduceToNat, reduceCtorEq, Nat.reducePow, Int.reducePow, ↓reduceIte, encP]
          refine callS_q (c_wrong _ hlS) (own_args (s.flat ++ t.flat) (by rw [List.length_append]) (by simp only [go_sem, Nat.reduceAdd, Nat.reduceMul, Nat.reduceSub, Nat.reduceBEq, Nat.reduceEqDiff, Nat.reduceLeDiff, Nat.reduceLT, Int.reduceLT, Int.reduceLE, Int.reduceGE, Int.reduceGT, Int.reduceEq, Int.reduceBEq, Int.reduceNeg, Int.reduceToNat, reduceCtorEq, Nat.reducePow, Int.reducePow, ↓reduceIte]; rw [flatC_app])) (by simp only [go_sem, Nat.reduceAdd, Nat.reduceMul, Nat.reduceSub, Nat.reduceBEq, Nat.reduceEqDiff, Nat.reduceLeDiff, Nat.reduceLT, Int.reduceLT, Int.reduceLE, Int.reduceGE, Int.reduceGT, Int.reduceEq, Int.reduceBEq, Int.reduceNeg, Int.reduceToNat, reduceCtorEq, Nat.reducePow, Int.reducePow, ↓reduceIte]; rfl) ?_
          rw [hwt]
          simp only [go_sem, Nat.reduceAdd, Nat.reduceMul, Nat.reduceSub, Nat.reduceBEq, Nat.reduceEqDiff, Nat.reduceLeDiff, Nat.reduceLT, Int.reduceLT, Int.reduceLE, Int.reduceGE, Int.reduceGT, Int.reduceEq, Int.reduceBEq, Int.reduceNeg, Int.reduceToNat, reduceCtorEq, Nat.reducePow, Int.reducePow, ↓reduceIte, encC, cast0, cast1, cast2]
          refine callS_p (c_same _ _ oka oka) ?_
          simp only [go_sem, Nat.reduceAdd, Nat.reduceMul, Nat.reduceSub, Nat.reduceBEq, Nat.reduceEqDiff, Nat.reduceLeDiff, Nat.reduceLT, Int.reduceLT, Int.reduceLE, Int.reduceGE, Int.reduceGT, Int.reduceEq, Int.reduceBEq, Int.reduceNeg, Int.reduceToNat, reduceCtorEq, Nat.reducePow, Int.reducePow, ↓reduceIte, sameL_refl, encC, cast1, cast2]
          refine callS_p (c_same _ _ okb okb) ?_
          simp only [go_sem, Nat.reduceAdd, Nat.reduceMul, Nat.reduceSub, Nat.reduceBEq, Nat.reduceEqDiff, Nat.reduceLeDiff, Nat.reduceLT, Int.reduceLT, Int.reduceLE, Int.reduceGE, Int.reduceGT, Int.reduceEq, Int.reduceBEq, Int.reduceNeg, Int.reduceToNat, reduceCtorEq, Nat.reducePow, Int.reducePow, ↓reduceIte, sameL_refl, encC, cast1, cast2]
          refine callS_p (c_same _ _ oka oka) ?_
          simp only [go_sem, Nat.reduceAdd, Nat.reduceMul, Nat.reduceSub, Nat.reduceBEq, Nat.reduceEqDiff, Nat.reduceLeDiff, Nat.reduceLT, Int.reduceLT, Int.reduceLE, Int.reduceGE, Int.reduceGT, Int.reduceEq, Int.reduceBEq, Int.reduceNeg, Int.reduceToNat, reduceCtorEq, Nat.reducePow, Int.reducePow, ↓reduceIte, sameL_refl]
          refine callS_p c_works ?_
          simp only [go_sem, Nat.reduceAdd, Nat.reduceMul, Nat.reduceSub, Nat.reduceBEq, Nat.reduceEqDiff, Nat.reduceLeDiff, Nat.reduceLT, Int.reduceLT, Int.reduceLE, Int.reduceGE, Int.reduceGT, Int.reduceEq, Int.reduceBEq, Int.reduceNeg, Int.reduceToNat, reduceCtorEq, Nat.reducePow, Int.reducePow, ↓reduceIte]
          exact .mk (by simp only [go_sem, Nat.reduceAdd, Nat.reduceMul, Nat.reduceSub, Nat.reduceBEq, Nat.reduceEqDiff, Nat.reduceLeDiff, Nat.reduceLT, Int.reduceLT, Int.reduceLE, Int.reduceGE, Int.reduceGT, Int.reduceEq, Int.reduceBEq, Int.reduceNeg, Int.reduceToNat, reduceCtorEq, Nat.reducePow, Int.reducePow, ↓reduceIte])

end Go.Proofs.Ytmcejlhkohbdfaa
