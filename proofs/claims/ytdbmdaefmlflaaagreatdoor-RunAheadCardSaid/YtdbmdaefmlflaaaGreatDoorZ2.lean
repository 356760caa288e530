/- Parts of the proof, joined: Ab6, Ab7, Ab8, H, Ab9, Ab10, Ab11, Ab12, Ab13, Ab14, W1, N1, N2, Ab15, Ab16. -/
import Derived.Scope
import Derived.Test.YtdbmdaefmlflaaaGreatDoorProg
import Derived.ProofKit
import Derived.Deep.Strs
import Derived.OpenShut
import Derived.Test.YtdbmdaefmlflaaaGreatDoorZ1

set_option linter.unusedVariables false
set_option linter.unusedSimpArgs false
set_option maxRecDepth 10000
namespace Go.Ab
open Go.RowKit

structure FRel (nt : Nat) (I : Imm) (M : Mp) (st : ASt) (a : Act) (w : World) : Prop where
  defers : a.defers = []
  size : a.tmps.size = nt
  tmps : ∀ t, VRel I M (st.τ t) (a.tmps.getD t undef)
  heap : HRel I M st.h st.n w

/-! ### Own slices turned to values -/
/-- An own slice's blocks, taken as only read. -/
theorem frz1_rel {I J : Imm} {M : Mp} {h : Heap} {n : Nat} {w : World} (H : HRel I M h n w) (hIJ : ILe I J) {x : AV} {v : Value} (hx : VRel I M x v)
    (hJ : ∀ i ∈ ids1 x, ∀ A sz, M i = .live A sz → J A.block = w.heap[A.block]?) : PRel J (frz1 h x) v := by
  cases x with
  | own b off len e =>
    simp only [frz1]
    split
    case h_2 => exact .undef _
    rename_i blk hb
    split
    case isFalse => exact .undef _
    rename_i hc
    obtain ⟨c1, c2, c3⟩ := hc
    obtain ⟨A, cap, rfl, hA, hcap, hm⟩ := hx.own_inv
    by_cases hl0 : len = 0
    · subst hl0; exact .sl0 _ _ _
    rcases hm with hm | ⟨B, sz, hm, hB⟩
    · have := H.no b (fun A sz h => by rw [hm] at h; cases h)
      rw [hb] at this; cases this
    obtain ⟨g1, g2, blk', c, el, g3, g4, g5, g6, g7, g8⟩ := H.live b B sz hm
    have g5' : c.size = sz.1 := congrArg Prod.fst g5
    rw [hb] at g3
    cases g3
    rcases hB with hB | ⟨rfl, hB⟩
    · omega
    have hcl : (cut blk off (len * e)).length = len * e := by simp [cut]; omega
    have hcg : ∀ j y, (cut blk off (len * e))[j]? = some y → blk[off + j]? = some y := fun j y hy => by
      unfold cut at hy
      rw [List.getElem?_take] at hy
      split at hy
      · rw [List.getElem?_drop] at hy; exact hy
      · cases hy
    have hle : len * e ≤ cap * e := Nat.mul_le_mul_right _ hcap
    refine .sl e _ ⟨B.block, B.off + off, none⟩ len cap c el (0, 0) (fun h0 => hl0 (by have := congrArg List.length h0; rw [chunk_length] at this; exact this)) (chunk_length _ _ _).symm hcap rfl
      (by rw [hJ b (by simp [ids1]) B sz hm]; exact g4) (by dsimp only; omega) (fun i x hx' => ?_) (fun i x cs j y u hx' hcs hy hu => ?_)
    · obtain ⟨cs', h1, h2, h3, _⟩ := chunk_get c2 len _ (by rw [hcl]; exact Nat.le_refl _) c3 i x hx'
      exact ⟨cs', h1, h2, h3⟩
    · obtain ⟨cs', h1, h2, h3, h4⟩ := chunk_get c2 len _ (by rw [hcl]; exact Nat.le_refl _) c3 i x hx'
      rw [hcs] at h1
      cases h1
      have h5 := h4 j y hy
      have h6 := hcg _ _ h5
      have hfl : y.flat1 = true := (List.all_eq_true.1 c3) y (List.mem_of_getElem? h5)
      exact (flat1_rel hfl (g8 _ y u h6 (by rw [← hu]; congr 1; dsimp only; omega))).mono hIJ
  | int k n => exact (flat1_rel rfl hx).mono hIJ
  | bool b => exact (flat1_rel rfl hx).mono hIJ
  | str s => exact (flat1_rel rfl hx).mono hIJ
  | nilsl => exact (flat1_rel rfl hx).mono hIJ
  | sl e l => exact (flat1_rel rfl hx).mono hIJ
  | pp cs => exact (flat1_rel rfl hx).mono hIJ
  | nilp => exact (flat1_rel rfl hx).mono hIJ
  | opq => exact (flat1_rel rfl hx).mono hIJ
  | ptr b off => exact .opq _ (hx.one rfl)
  | tptr b k t => exact .opq _ (hx.one rfl)
  | bsl b len t => exact .opq _ (hx.one rfl)
  | bptr b t => exact .opq _ (hx.one rfl)
  | func f cap => exact .opq _ (hx.one rfl)
  | ifc t x => exact .opq _ (hx.one rfl)
  | _ => exact .undef _

theorem frz2_rel {I J : Imm} {M : Mp} {h : Heap} {n : Nat} {w : World} (H : HRel I M h n w) (hIJ : ILe I J) {x : AV} {v : Value} (hx : VRel I M x v)
    (hJ : ∀ i ∈ ids2 x, ∀ A sz, M i = .live A sz → J A.block = w.heap[A.block]?) : PRel J (frz2 h x) v := by
  cases x with
  | agg cs =>
    obtain ⟨vs, rfl, hs, hv⟩ := hx.agg_inv
    refine .agg _ _ (by simpa using hs) fun i y u hy hu => ?_
    simp only [List.getElem?_map, Option.map_eq_some_iff] at hy
    obtain ⟨z, hz, rfl⟩ := hy
    exact frz1_rel H hIJ (hv i z u hz hu) fun j hj => hJ j (by simp only [ids2, List.mem_flatMap]; exact ⟨z, List.mem_of_getElem? hz, hj⟩)
  | _ => exact frz1_rel H hIJ hx hJ

theorem scal1_rel {I J : Imm} {x : AV} {v : Value} (hs : x.scal1 = true) (h : PRel I x v) : PRel J x v := by
  cases h <;> first | exact .int _ _ | exact .bool _ | exact .str _ | simp [AV.scal1] at hs
theorem scal2_rel {I J : Imm} {x : AV} {v : Value} (hs : x.scal2 = true) (h : PRel I x v) : PRel J x v := by
  cases x with
  | agg cs =>
    cases h with
    | agg _ vs h1 h2 => exact .agg _ _ h1 fun i y u hy hu => scal1_rel ((List.all_eq_true.1 hs) y (List.mem_of_getElem? hy)) (h2 i y u hy hu)
  | _ => exact scal1_rel hs h
theorem scalar_rel {I J : Imm} {x : AV} {v : Value} (hs : x.scalar = true) (h : PRel I x v) : PRel J x v := by
  cases x with
  | tup cs =>
    cases h with
    | tup _ vs h1 h2 => exact .tup _ _ h1 fun i y u hy hu => scal2_rel ((List.all_eq_true.1 hs) y (List.mem_of_getElem? hy)) (h2 i y u hy hu)
  | _ => exact scal2_rel hs h

theorem updH_ids (ids : List Nat) (h : Heap) (i : Nat) : updH h (ids.map (·, none)) i = if i ∈ ids then none else h i := by
  induction ids generalizing h with
  | nil => simp [updH]
  | cons j r ih =>
    simp only [List.map_cons, updH, ih]
    by_cases h1 : i ∈ r
    · simp [h1]
    · by_cases h2 : i = j <;> simp [h1, h2]

/-- How a call with values alone is used, in the middle of a run. -/
theorem pcall_use {P : Program} {f : FuncId} {args : List AV} {cargs : Array Value} {v : AV} {I : Imm} {M : Mp} {h : Heap} {n : Nat} {w : World} (H : HRel I M h n w) (hargs : AllRel I M args cargs) (hP : PCalls P f (args.map (frz2 h)) v) :
    Calls P f cargs w fun e w' => ∃ cv I' M', e = .returned cv ∧ VRel I' M' v cv ∧ HRel I' M' (updH h (callOut v (args.flatMap ids2)).up) n w' ∧ Ext I M w I' M' w' ∧ (∀ j, M j = MS.fresh → M' j = MS.fresh) := by
  classical
  have himmlt : ∀ b o, I b = some o → b < w.heap.size := fun b o hb => by
    have := H.imm b o hb
    rcases Nat.lt_or_ge b w.heap.size with h | h
    · exact h
    · simp [Array.getElem?_eq_none h] at this
  let ids := args.flatMap ids2
  let J : Imm := fun b => if ∃ i ∈ ids, ∃ A sz, M i = .live A sz ∧ A.block = b then w.heap[b]? else I b
  have hIJ : ILe I J := fun b o hb => by
    show (if _ then _ else _) = _
    split
    · exact H.imm b o hb
    · exact hb
  have hJimm : ∀ b o, J b = some o → w.heap[b]? = some o := fun b o hb => by
    by_cases hc : ∃ i ∈ ids, ∃ A sz, M i = .live A sz ∧ A.block = b
    · have : J b = w.heap[b]? := if_pos hc
      rw [← this]; exact hb
    · have : J b = I b := if_neg hc
      rw [this] at hb; exact H.imm b o hb
  have hJids : ∀ i ∈ ids, ∀ A sz, M i = .live A sz → J A.block = w.heap[A.block]? := fun i hi A sz hm => if_pos ⟨i, hi, A, sz, hm, rfl⟩
  have hJargs : AllRel J M0 (args.map (frz2 h)) cargs := by
    refine ⟨by rw [List.length_map]; exact hargs.1, fun i x u hx hu => ?_⟩
    simp only [List.getElem?_map, Option.map_eq_some_iff] at hx
    obtain ⟨z, hz, rfl⟩ := hx
    exact .pure _ _ (frz2_rel H hIJ (hargs.2 i z u hz hu) fun j hj => hJids j (List.mem_flatMap.2 ⟨z, List.mem_of_getElem? hz, hj⟩))
  refine (hP.2 J w cargs hJimm hJargs).mono fun e w' ⟨cv, I', he, hle, himm, hv, hb, hnew⟩ => ?_
  have hkeep : ∀ b, b < w.heap.size → w'.heap[b]? = w.heap[b]? := fun b hb' => hb.block b hb'
  by_cases hsc : v.scalar = true
  · have hup : (callOut v (args.flatMap ids2)).up = [] := by simp [callOut, hsc]
    rw [hup]
    refine ⟨cv, I, M, he, .pure _ _ (scalar_rel hsc hv), ⟨fun b o hbo => ?_, H.fr, H.no, fun i A sz hm => ?_, H.inj⟩, ⟨hb.os, hb.tape, hb.output, hb.size, fun b hb' _ => hkeep b hb', .refl _, .refl _, fun _ _ h _ => h, fun _ h => .inl h⟩, fun _ h => h⟩
    · rw [hkeep b (himmlt b o hbo)]; exact H.imm b o hbo
    · obtain ⟨g1, g2, b', c', el', g3, g4, g5⟩ := H.live i A sz hm
      exact ⟨g1, g2, b', c', el', g3, by rw [hkeep _ (Live.lt H ⟨i, A, sz, hm, rfl⟩)]; exact g4, g5⟩
  · have hup : (callOut v (args.flatMap ids2)).up = ids.map (·, none) := by simp [callOut, hsc, ids]
    rw [hup]
    let M' : Mp := fun i => match M i with | .live A sz => if i ∈ ids then .gone else .live A sz | s => s
    have hM'live : ∀ i A sz, M' i = .live A sz → M i = .live A sz ∧ i ∉ ids := fun i A sz hm => by
      simp only [M'] at hm
      split at hm
      · split at hm
        · cases hm
        · rename_i h1 h2; cases hm; exact ⟨h1, h2⟩
      · rename_i hne; exact absurd hm (hne A sz)
    have hMM : MLe M M' := fun i => by
      cases hmi : M i with
      | fresh => trivial
      | gone => simp only [M', hmi]
      | live A sz =>
        by_cases hi : i ∈ ids
        · simp only [M', hmi, if_pos hi]; exact .inr trivial
        · simp only [M', hmi, if_neg hi]; exact .inl trivial
    have hII : ILe I I' := hIJ.trans hle
    have hfr : ∀ j, M j = MS.fresh → M' j = MS.fresh := fun j hj => by simp only [M', hj]
    refine ⟨cv, I', M', he, .pure _ _ hv, ⟨himm, fun i hi => hfr i (H.fr i hi), fun i hi => ?_, fun i A sz hm => ?_, fun i j A sz B sz' hi hj hbb => H.inj i j A sz B sz' (hM'live _ _ _ hi).1 (hM'live _ _ _ hj).1 hbb⟩,
      ⟨hb.os, hb.tape, hb.output, hb.size, fun b hb' _ => hkeep b hb', hII, hMM, fun b hb' hI hn => ?_, fun b ⟨i, A, sz, hm, hbb⟩ => .inl ⟨i, A, sz, (hM'live _ _ _ hm).1, hbb⟩⟩, hfr⟩
    · rw [updH_ids]
      by_cases hid : i ∈ ids
      · rw [if_pos hid]
      · rw [if_neg hid]
        refine H.no i fun A sz hm => hi A sz ?_
        simp only [M', hm, if_neg hid]
    · obtain ⟨hm1, hm2⟩ := hM'live i A sz hm
      obtain ⟨g1, g2, b', c', el', g3, g4, g5, g6, g7, g8⟩ := H.live i A sz hm1
      have hlt := Live.lt H ⟨i, A, sz, hm1, rfl⟩
      refine ⟨g1, hnew A.block hlt ?_, b', c', el', by rw [updH_ids, if_neg hm2]; exact g3, by rw [hkeep _ hlt]; exact g4, g5, g6, g7, fun j x u hx hu => (g8 j x u hx hu).mono hII hMM⟩
      have : J A.block = I A.block := if_neg (by
        rintro ⟨k, hk, B, sz', hB, hbb⟩
        have := H.inj k i B sz' A sz hB hm1 hbb
        subst this
        exact hm2 hk)
      rw [this]; exact g2
    · refine hnew b hb' ?_
      have : J b = I b := if_neg (by
        rintro ⟨k, hk, B, sz', hB, hbb⟩
        exact hn ⟨k, B, sz', hB, hbb⟩)
      rw [this]; exact hI

/-- How a call with values alone is used, in the middle of a run; own slices among its arguments are only read from then on. -/
theorem pcall_freeze {P : Program} {f : FuncId} {args : List AV} {cargs : Array Value} {v : AV} {I : Imm} {M : Mp} {h : Heap} {n : Nat} {w : World} (H : HRel I M h n w) (hargs : AllRel I M args cargs) (hP : PCalls P f (args.map (frz2 h)) v) :
    Calls P f cargs w fun e w' => ∃ cv I' M', e = .returned cv ∧ VRel I' M' v cv ∧ HRel I' M' (updH h ((args.flatMap ids2).map (·, none))) n w' ∧ Ext I M w I' M' w' ∧ (∀ j, M j = MS.fresh → M' j = MS.fresh) ∧ (∀ x u, VRel I M x u → VRel I' M' (frzT (args.flatMap ids2) h x) u) := by
  classical
  have himmlt : ∀ b o, I b = some o → b < w.heap.size := fun b o hb => by
    have := H.imm b o hb
    rcases Nat.lt_or_ge b w.heap.size with h | h
    · exact h
    · simp [Array.getElem?_eq_none h] at this
  let ids := args.flatMap ids2
  let J : Imm := fun b => if ∃ i ∈ ids, ∃ A sz, M i = .live A sz ∧ A.block = b then w.heap[b]? else I b
  have hIJ : ILe I J := fun b o hb => by
    show (if _ then _ else _) = _
    split
    · exact H.imm b o hb
    · exact hb
  have hJimm : ∀ b o, J b = some o → w.heap[b]? = some o := fun b o hb => by
    by_cases hc : ∃ i ∈ ids, ∃ A sz, M i = .live A sz ∧ A.block = b
    · have : J b = w.heap[b]? := if_pos hc
      rw [← this]; exact hb
    · have : J b = I b := if_neg hc
      rw [this] at hb; exact H.imm b o hb
  have hJids : ∀ i ∈ ids, ∀ A sz, M i = .live A sz → J A.block = w.heap[A.block]? := fun i hi A sz hm => if_pos ⟨i, hi, A, sz, hm, rfl⟩
  have hJargs : AllRel J M0 (args.map (frz2 h)) cargs := by
    refine ⟨by rw [List.length_map]; exact hargs.1, fun i x u hx hu => ?_⟩
    simp only [List.getElem?_map, Option.map_eq_some_iff] at hx
    obtain ⟨z, hz, rfl⟩ := hx
    exact .pure _ _ (frz2_rel H hIJ (hargs.2 i z u hz hu) fun j hj => hJids j (List.mem_flatMap.2 ⟨z, List.mem_of_getElem? hz, hj⟩))
  refine (hP.2 J w cargs hJimm hJargs).mono fun e w' ⟨cv, I', he, hle, himm, hv, hb, hnew⟩ => ?_
  have hkeep : ∀ b, b < w.heap.size → w'.heap[b]? = w.heap[b]? := fun b hb' => hb.block b hb'
  let M' : Mp := fun i => match M i with | .live A sz => if i ∈ ids then .gone else .live A sz | s => s
  have hM'live : ∀ i A sz, M' i = .live A sz → M i = .live A sz ∧ i ∉ ids := fun i A sz hm => by
    simp only [M'] at hm
    split at hm
    · split at hm
      · cases hm
      · rename_i h1 h2; cases hm; exact ⟨h1, h2⟩
    · rename_i hne; exact absurd hm (hne A sz)
  have hMM : MLe M M' := fun i => by
    cases hmi : M i with
    | fresh => trivial
    | gone => simp only [M', hmi]
    | live A sz =>
      by_cases hi : i ∈ ids
      · simp only [M', hmi, if_pos hi]; exact .inr trivial
      · simp only [M', hmi, if_neg hi]; exact .inl trivial
  have hII : ILe I I' := hIJ.trans hle
  have hfr : ∀ j, M j = MS.fresh → M' j = MS.fresh := fun j hj => by simp only [M', hj]
  refine ⟨cv, I', M', he, .pure _ _ hv, ⟨himm, fun i hi => hfr i (H.fr i hi), fun i hi => ?_, fun i A sz hm => ?_, fun i j A sz B sz' hi hj hbb => H.inj i j A sz B sz' (hM'live _ _ _ hi).1 (hM'live _ _ _ hj).1 hbb⟩,
    ⟨hb.os, hb.tape, hb.output, hb.size, fun b hb' _ => hkeep b hb', hII, hMM, fun b hb' hI hn => ?_, fun b ⟨i, A, sz, hm, hbb⟩ => .inl ⟨i, A, sz, (hM'live _ _ _ hm).1, hbb⟩⟩, hfr, fun x u hx => ?_⟩
  · rw [updH_ids]
    by_cases hid : i ∈ ids
    · rw [if_pos hid]
    · rw [if_neg hid]
      refine H.no i fun A sz hm => hi A sz ?_
      simp only [M', hm, if_neg hid]
  · obtain ⟨hm1, hm2⟩ := hM'live i A sz hm
    obtain ⟨g1, g2, b', c', el', g3, g4, g5, g6, g7, g8⟩ := H.live i A sz hm1
    have hlt := Live.lt H ⟨i, A, sz, hm1, rfl⟩
    refine ⟨g1, hnew A.block hlt ?_, b', c', el', by rw [updH_ids, if_neg hm2]; exact g3, by rw [hkeep _ hlt]; exact g4, g5, g6, g7, fun j x u hx hu => (g8 j x u hx hu).mono hII hMM⟩
    have : J A.block = I A.block := if_neg (by
      rintro ⟨k, hk, B, sz', hB, hbb⟩
      have := H.inj k i B sz' A sz hB hm1 hbb
      subst this
      exact hm2 hk)
    rw [this]; exact g2
  · refine hnew b hb' ?_
    have : J b = I b := if_neg (by
      rintro ⟨k, hk, B, sz', hB, hbb⟩
      exact hn ⟨k, B, sz', hB, hbb⟩)
    rw [this]; exact hI
  · have hI' : ∀ i ∈ ids, ∀ A sz, M i = .live A sz → I' A.block = w.heap[A.block]? := fun i hi A sz hm => by
      have h1 := hJids i hi A sz hm
      have hlt := Live.lt H ⟨i, A, sz, hm, rfl⟩
      rw [Array.getElem?_eq_getElem hlt] at h1 ⊢
      exact hle _ _ h1
    have one : ∀ x u, VRel I M x u → VRel I' M' (frzT1 ids h x) u := fun x u hx => by
      cases x with
      | own b off len e =>
        simp only [frzT1]
        by_cases hb' : b ∈ ids
        · rw [if_pos hb']
          exact .pure _ _ (frz1_rel H hII hx fun i hi => (by simp only [ids1, List.mem_singleton] at hi; subst hi; exact hI' i hb'))
        · rw [if_neg hb']; exact hx.mono hII hMM
      | _ => exact hx.mono hII hMM
    cases x with
    | agg cs =>
      obtain ⟨vs, rfl, hs, hv'⟩ := hx.agg_inv
      refine .agg _ _ (by simpa using hs) fun i y u hy hu => ?_
      simp only [List.getElem?_map, Option.map_eq_some_iff] at hy
      obtain ⟨z, hz, rfl⟩ := hy
      exact one _ _ (hv' i z u hz hu)
    | _ => exact one _ _ hx

section
variable {P : Program} {pa : List Tmp} {nt : Nat} {I : Imm} {M : Mp} {st : ASt} {a : Act} {w : World} {ops : Array Oper}

theorem put_rel {I' : Imm} {M' : Mp} (hI : ILe I I') (hM : MLe M M') (hsz : a.tmps.size = nt) (ht : ∀ t, VRel I M (st.τ t) (a.tmps.getD t undef)) {d : Option Tmp} (hd : ∀ t : Nat, d = some t → t < nt) {x : AV} {v : Value} (hv : VRel I' M' x v) :
    (a.put d v).tmps.size = nt ∧ (a.put d v).defers = a.defers ∧ ∀ t, VRel I' M' (putT st.τ d x t) ((a.put d v).tmps.getD t undef) := by
  cases d with
  | none => exact ⟨hsz, rfl, fun t => (ht t).mono hI hM⟩
  | some d =>
    have hd' := hd d rfl
    refine ⟨by simp [Act.put, hsz], rfl, fun t => ?_⟩
    simp only [putT, Act.put]
    by_cases e : t = d
    · subst e
      rw [if_pos rfl]
      have : t < a.tmps.size := by omega
      simp [Array.getD, this]
      exact hv
    · rw [if_neg e]
      have := (ht t).mono hI hM
      simp only [Array.getD_eq_getD_getElem?] at this ⊢
      rw [Array.getElem?_setIfInBounds_ne (fun h => e h.symm)]
      exact this

theorem awant_sound {o : Oper} (hsz : a.tmps.size = nt) (ht : ∀ t, VRel I M (st.τ t) (a.tmps.getD t undef)) (hops : ∀ (i : Nat) (o : Oper) (t : Nat), ops[i]? = some o → o.dst = some t → t < nt) {b : Bool} (h : awant ops o st.τ = some b) :
    Region.wanted o (yielded ops a.tmps) = b := by
  unfold awant at h
  unfold Region.wanted
  split at h
  · rename_i hg; simp only [hg]; cases h; rfl
  · rename_i g want hg
    simp only [hg]
    split at h
    · rename_i d hd
      have hdn : d < nt := by
        cases ho : ops[g]? with
        | none => simp [ho] at hd
        | some o' => simp only [ho, Option.bind_some] at hd; exact hops g o' d ho hd
      have hlt : (d : Nat) < a.tmps.size := by rw [hsz]; exact hdn
      have h1 := ht d
      have hget : a.tmps[d]? = some (a.tmps.getD d undef) := by simp [Array.getD, hlt]
      unfold yielded
      rw [hd]
      simp only [Option.bind_some, hget]
      split at h
      · rename_i c hc
        rw [hc] at h1
        rw [h1.bool_inv]
        cases h
        cases c <;> cases want <;> rfl
      · rename_i vs hc
        rw [hc] at h1
        obtain ⟨us, hu, _⟩ := h1.tup_inv
        rw [hu]
        cases h
        rfl
      · cases h
    · rename_i hd
      unfold yielded
      rw [hd]
      cases h
      rfl

/-- An outcome, carried out. -/
theorem res_sound {slot : Nat} {o : Oper} {out : Out} (F : FRel nt I M st a w) (hops : ∀ (i : Nat) (o : Oper) (t : Nat), ops[i]? = some o → o.dst = some t → t < nt) {i : Nat} (hi : ops[i]? = some o) (hs : M slot = .fresh) (hn : slot < st.n)
    (hr : Res P pa ops slot o st out) {Q : Exit → Act → World → Prop} {K : Act → World → Prop}
    (hK : ∀ a' w' I' M', FRel nt I' M' (app st o out) a' w' → Ext I M w I' M' w' → (∀ j, j ≠ slot → M j = MS.fresh → M' j = MS.fresh) → K a' w') : wpOp P ops Q i K a w := by
  have hd : ∀ t : Nat, o.dst = some t → t < nt := fun t ht => hops i o t hi ht
  unfold wpOp
  simp only [hi]
  rcases hr with ⟨hw, hr⟩ | ⟨hw, rfl⟩
  · rw [awant_sound F.size F.tmps hops hw]
    simp only [if_true]
    refine .inl ?_
    rcases hr with hr | ⟨f, args, v, hcall, hP, rfl⟩
    · obtain ⟨v, w', I', M', hrun, hv, hh, he, hfr⟩ := aop_sound F.heap (fun x => aev_rel F.tmps x) hs hn hr
      obtain ⟨p1, p2, p3⟩ := put_rel (st := st) he.imm he.mp F.size F.tmps hd hv
      have fin := hK (a.put o.dst v) w' I' M' ⟨by rw [p2]; exact F.defers, p1, p3, hh⟩ he hfr
      unfold Oper.wp
      rcases hrun with hrun | ⟨hrun, rfl⟩
      · rw [hrun]; exact fin
      · rw [hrun]; exact fin
    · obtain ⟨cargs, hrun, hargs⟩ := call_sound (o := o) (ρ := a.eval) (w := w) (M := M) (I := I) (fun x => aev_rel F.tmps x) hcall hP.1
      unfold Oper.wp
      rw [hrun]
      refine (pcall_use F.heap hargs hP).mono fun e w' ⟨cv, I', M', he, hv, hh, hx, hfr⟩ => ?_
      subst he
      obtain ⟨p1, p2, p3⟩ := put_rel (st := st) hx.imm hx.mp F.size F.tmps hd hv
      exact hK (a.put o.dst cv) w' I' M' ⟨by rw [p2]; exact F.defers, p1, p3, hh⟩ hx fun j _ => hfr j
  · rw [awant_sound F.size F.tmps hops hw]
    simp only [Bool.false_eq_true, if_false]
    obtain ⟨p1, p2, p3⟩ := put_rel (st := st) (.refl I) (.refl M) F.size F.tmps hd (x := .tup []) (v := undef) (.pure _ _ (.tup [] #[] rfl (fun i x v hx => by simp at hx)))
    exact hK _ w I M ⟨by rw [p2]; exact F.defers, p1, p3, F.heap⟩ (.refl _ _ _) fun _ _ h => h

/-- The text's order. -/
theorem swalk_sound {Q : Exit → Act → World → Prop} {K : ASt → Prop} (top : Nat) (hops : ∀ (i : Nat) (o : Oper) (t : Nat), ops[i]? = some o → o.dst = some t → t < nt) : ∀ (l : List Oper) (i slot : Nat) (st : ASt) (I : Imm) (M : Mp) (a : Act) (w : World),
    (∀ j, l[j]? = ops[i + j]?) → FRel nt I M st a w → (∀ j, slot ≤ j → j < top → M j = MS.fresh) → slot + l.length ≤ top → top ≤ st.n → SWalk P pa ops l slot st K →
    (∀ st' I' M' a' w', K st' → FRel nt I' M' st' a' w' → Ext I M w I' M' w' → st.n ≤ st'.n → (∀ j, j < slot → M j = MS.fresh → M' j = MS.fresh) → Q .normal a' w') →
    wpOps P ops Q (List.range' i l.length) a w
  | [], i, slot, st, I, M, a, w, _, F, _, _, _, h, hQ => by
    simp only [List.length_nil, List.range'_zero, wpOps]
    exact hQ st I M a w h F (.refl _ _ _) (Nat.le_refl _) fun _ _ h => h
  | o :: rest, i, slot, st, I, M, a, w, hl, F, hfr, hsn, htop, h, hQ => by
    have hi : ops[i]? = some o := by simpa using (hl 0).symm
    have hl' : ∀ j, rest[j]? = ops[i + 1 + j]? := fun j => by have := hl (j + 1); simpa [Nat.add_assoc, Nat.add_comm 1 j] using this
    simp only [List.length_cons] at hsn ⊢
    rw [List.range'_succ, wpOps_cons]
    have step : ∀ out, Res P pa ops slot o st out → SWalk P pa ops rest (slot + 1) (app st o out) K → wpOp P ops Q i (wpOps P ops Q (List.range' (i + 1) rest.length)) a w := fun out hr hk =>
      res_sound F hops hi (hfr slot (Nat.le_refl _) (by omega)) (by omega) hr fun a' w' I' M' F' he hf' =>
        swalk_sound top hops rest (i + 1) (slot + 1) (app st o out) I' M' a' w' hl' F' (fun j hj hj' => hf' j (by omega) (hfr j (by omega) hj')) (by omega) (by simpa only [app] using htop) hk
          fun st'' I'' M'' a'' w'' hK'' F'' he'' hn'' hf'' => hQ st'' I'' M'' a'' w'' hK'' F'' (he.trans he'') hn'' fun j hj hm => hf'' j (by omega) (hf' j (by omega) hm)
    simp only [SWalk] at h
    split at h
    · rename_i hw
      split at h
      · rename_i out ha; exact step out (.inl ⟨hw, .inl ha⟩) h
      · rename_i f args ha
        rcases h with (⟨v, hP, hk⟩ | ⟨post, hH, hk⟩) | ⟨v, hP, hk⟩
        · exact step _ (.inl ⟨hw, .inr ⟨f, args, v, ha, hP, rfl⟩⟩) hk
        · have hd : ∀ t : Nat, o.dst = some t → t < nt := fun t ht => hops i o t hi ht
          obtain ⟨cargs, hrun, hargs⟩ := call_sound (o := o) (ρ := a.eval) (w := w) (M := M) (I := I) (fun x => aev_rel F.tmps x) ha hH.1
          unfold wpOp
          simp only [hi]
          rw [awant_sound F.size F.tmps hops hw]
          simp only [if_true]
          refine .inl ?_
          unfold Oper.wp
          rw [hrun]
          refine (hH.2 I M w cargs F.heap hargs).mono fun e w' ⟨cv, v, I', M', h', n', he, hpost, hv, hh, hx, hnn, hf'⟩ => ?_
          subst he
          obtain ⟨p1, p2, p3⟩ := put_rel (st := st) hx.imm hx.mp F.size F.tmps hd hv
          exact swalk_sound top hops rest (i + 1) (slot + 1) { τ := putT st.τ o.dst v, h := h', n := n' } I' M' (a.put o.dst cv) w' hl' ⟨by rw [p2]; exact F.defers, p1, p3, hh⟩ (fun j hj hj' => hf' j (by omega) (hfr j (by omega) hj')) (by omega) (by simp only; omega) (hk v h' n' hnn hpost)
            fun st'' I'' M'' a'' w'' hK'' F'' he'' hn'' hf'' => hQ st'' I'' M'' a'' w'' hK'' F'' (hx.trans he'') (by simp only at hn''; omega) fun j hj hm => hf'' j (by omega) (hf' j (by omega) hm)
        · have hd : ∀ t : Nat, o.dst = some t → t < nt := fun t ht => hops i o t hi ht
          obtain ⟨cargs, hrun, hargs⟩ := call_sound (o := o) (ρ := a.eval) (w := w) (M := M) (I := I) (fun x => aev_rel F.tmps x) ha hP.1
          unfold wpOp
          simp only [hi]
          rw [awant_sound F.size F.tmps hops hw]
          simp only [if_true]
          refine .inl ?_
          unfold Oper.wp
          rw [hrun]
          refine (pcall_freeze F.heap hargs hP).mono fun e w' ⟨cv, I', M', he, hv, hh, hx, hf', hfz⟩ => ?_
          subst he
          obtain ⟨p1, p2, p3⟩ := put_rel (st := { st with τ := frzτ (args.flatMap ids2) st.h st.τ }) (I := I') (M := M') (.refl _) (.refl _) F.size (fun t => hfz _ _ (F.tmps t)) hd hv
          exact swalk_sound top hops rest (i + 1) (slot + 1) (frzSt (args.flatMap ids2) st o.dst v) I' M' (a.put o.dst cv) w' hl' ⟨by rw [p2]; exact F.defers, p1, p3, hh⟩ (fun j hj hj' => hf' j (hfr j (by omega) hj')) (by omega) (by simpa only [frzSt] using htop) hk
            fun st'' I'' M'' a'' w'' hK'' F'' he'' hn'' hf'' => hQ st'' I'' M'' a'' w'' hK'' F'' (hx.trans he'') hn'' fun j hj hm => hf'' j (by omega) (hf' j hm)
      · exact h.elim
    · rename_i hw; exact step skipOut (.inr ⟨hw, rfl⟩) h
    · exact h.elim


/-! ### Orders -/
/-- Operations come up in any order; number 'i' comes to 'T i'. -/
def AAny (P : Program) (pa : List Tmp) (ops : Array Oper) (base : Nat) (T : Nat → Out) (K : ASt → Prop) : Nat → Array Bool → ASt → Prop
  | 0, listed, st => Region.ready .any ops listed = [] ∧ K st
  | fuel + 1, listed, st => (Region.ready .any ops listed = [] → K st) ∧
    ∀ i ∈ Region.ready .any ops listed, ∃ o, ops[i]? = some o ∧ Res P pa ops (base + i) o st (T i) ∧ AAny P pa ops base T K fuel (listed.setIfInBounds i true) (app st o (T i))

theorem aany_sound {Q : Exit → Act → World → Prop} {K : ASt → Prop} {base : Nat} {T : Nat → Out} (hops : ∀ (i : Nat) (o : Oper) (t : Nat), ops[i]? = some o → o.dst = some t → t < nt) : ∀ (fuel : Nat) (listed : Array Bool) (st : ASt) (I : Imm) (M : Mp) (a : Act) (w : World),
    listed.size = ops.size → FRel nt I M st a w → (∀ i, i < ops.size → listed.getD i true = false → M (base + i) = .fresh) → base + ops.size ≤ st.n → AAny P pa ops base T K fuel listed st →
    (∀ st' I' M' a' w', K st' → FRel nt I' M' st' a' w' → Ext I M w I' M' w' → st'.n = st.n → (∀ j, j < base → M j = MS.fresh → M' j = MS.fresh) → Q .normal a' w') →
    wpAny P .any ops Q fuel listed a w
  | 0, listed, st, I, M, a, w, _, F, _, _, h, hQ => ⟨h.1, hQ st I M a w h.2 F (.refl _ _ _) rfl fun _ _ h => h⟩
  | fuel + 1, listed, st, I, M, a, w, hls, F, hfr, hn, h, hQ => by
    refine ⟨fun h0 => hQ st I M a w (h.1 h0) F (.refl _ _ _) rfl fun _ _ h => h, fun i hi => ?_⟩
    obtain ⟨o, ho, hr, hk⟩ := h.2 i hi
    have hil : i < ops.size := (Array.getElem?_eq_some_iff.1 ho).1
    have hun := (mem_ready.1 hi).1
    refine res_sound F hops ho (hfr i hil hun) (by omega) hr fun a' w' I' M' F' he hf' => ?_
    refine aany_sound hops fuel _ _ I' M' a' w' (by simp [hls]) F' (fun j hj hlj => ?_) (by simpa only [app] using hn) hk
      fun st'' I'' M'' a'' w'' hK'' F'' he'' hn'' hf'' => hQ st'' I'' M'' a'' w'' hK'' F'' (he.trans he'') (by simpa only [app] using hn'') fun j hj hm => hf'' j hj (hf' j (by omega) hm)
    have hji : j ≠ i := fun e => by
      subst e
      have : j < listed.size := by omega
      simp [Array.getD, this] at hlj
    rw [getD_set_ne true (fun e => hji e.symm)] at hlj
    exact hf' _ (by omega) (hfr j hj hlj)

/-! What one operation comes to hangs on its operands, and on the blocks that it touches, alone. -/
theorem putT_other {τ : Nat → AV} {d : Option Tmp} {v : AV} {t : Nat} (h : ∀ e, d = some e → e ≠ t) : putT τ d v t = τ t := by
  cases d with
  | none => rfl
  | some e => simp only [putT]; rw [if_neg (fun e' => h e rfl e'.symm)]
theorem putT_comm {τ : Nat → AV} {d e : Option Tmp} {u v : AV} (h : ∀ t, d = some t → e ≠ some t) : putT (putT τ d u) e v = putT (putT τ e v) d u := by
  cases d with
  | none => rfl
  | some d =>
    cases e with
    | none => rfl
    | some e =>
      have hne : d ≠ e := fun hh => h d rfl (by rw [hh])
      funext t
      simp only [putT]
      by_cases h1 : t = e <;> by_cases h2 : t = d <;> simp [h1, h2]
      · subst h1; exact absurd h2.symm hne
      · intro h3; exact absurd h3.symm hne
      · intro h3; exact absurd h3 hne

theorem updH_other : ∀ (up : List (Nat × Option Blk)) (h : Heap) (i : Nat), i ∉ up.map (·.1) → updH h up i = h i
  | [], _, _, _ => rfl
  | (j, b) :: r, h, i, hi => by
    simp only [List.map_cons, List.mem_cons, not_or] at hi
    simp only [updH]
    rw [updH_other r _ i hi.2, if_neg hi.1]
theorem updH_congr : ∀ (up : List (Nat × Option Blk)) (h g : Heap) (i : Nat), (i ∉ up.map (·.1) → h i = g i) → updH h up i = updH g up i
  | [], h, g, i, hi => hi (by simp)
  | (j, b) :: r, h, g, i, hi => by
    simp only [updH]
    refine updH_congr r _ _ i fun hr => ?_
    by_cases e : i = j
    · simp only [e, if_pos]
    · simp only [if_neg e]; exact hi (by simp [e, hr])
theorem updH_comm {u v : List (Nat × Option Blk)} (h : Heap) (hd : ∀ x ∈ u.map (·.1), x ∉ v.map (·.1)) : updH (updH h u) v = updH (updH h v) u := by
  funext i
  by_cases hu : i ∈ u.map (·.1)
  · rw [updH_other v _ i (hd i hu)]
    exact updH_congr u _ _ i fun hn => absurd hu hn
  · rw [updH_other u (updH h v) i hu]
    exact updH_congr v _ _ i fun _ => updH_other u h i hu

theorem aev_other {τ : Nat → AV} {d : Option Tmp} {v : AV} {x : Operand} (h : ∀ t, d = some t → x ≠ .tmp t) : aev (putT τ d v) x = aev τ x := by
  cases x with
  | tmp t => exact putT_other fun e he ht => h e he (by rw [ht])
  | _ => rfl

theorem awant_other {o : Oper} {τ : Nat → AV} {d : Option Tmp} {v : AV} (h : ∀ t, d = some t → t ∉ o.looksAt ops) : awant ops o (putT τ d v) = awant ops o τ := by
  unfold awant
  cases hg : o.guard with
  | none => rfl
  | some gw =>
    obtain ⟨g, want⟩ := gw
    simp only
    cases ht : (ops[g]?).bind (·.dst) with
    | none => rfl
    | some t =>
      simp only
      rw [putT_other fun e he hte => h e he (by subst hte; simp [Oper.looksAt, hg, ht])]

/-- Operands that an operation names. -/
theorem operand_mem {o : Oper} {x : Operand} (hx : x ∈ o.op.operands) {t : Nat} (ht : x = .tmp t) : t ∈ o.looksAt ops := by
  subst ht
  exact List.mem_append_left _ (List.mem_filterMap.2 ⟨.tmp t, by simpa using hx, rfl⟩)

/-- What an operation comes to hangs on its operands' values. -/
theorem aop_congr {op : Op} {pu : Bool} {slot : Nat} {ev ev' : Operand → AV} {h : Heap} (hev : ∀ x ∈ op.operands, ev x = ev' x) : aop P pu op slot ev h = aop P pu op slot ev' h := by
  have pairs : ∀ ps : Array (Nat × Operand), (∀ x ∈ ((ps.toList.map (·.2)).toArray : Array Operand), ev x = ev' x) → (ps.toList.map fun (i, x) => (i, ev x)) = (ps.toList.map fun (i, x) => (i, ev' x)) := fun ps hp =>
    List.map_congr_left fun p hm => by
      obtain ⟨i, x⟩ := p
      simp only [hp x (by simp; exact ⟨i, by simpa using hm⟩)]
  cases op with
  | build t ps => simp only [Op.operands] at hev; simp only [aop, pairs ps hev]
  | buildSlice t n ps => simp only [Op.operands] at hev; simp only [aop, pairs ps hev]
  | slice t x lo hi mx =>
    simp only [Op.operands] at hev
    cases lo <;> cases hi <;> cases mx <;> simp_all [aop]
  | makeFunc f first cap =>
    simp only [Op.operands] at hev
    have : cap.toList.map ev = cap.toList.map ev' := List.map_congr_left fun x hx => hev x (by simp; exact .inr (by simpa using hx))
    cases f <;> simp only [aop, this]
  | call c =>
    obtain ⟨callee, args, ts⟩ := c
    simp only [Op.operands, Call.operands] at hev
    have : args.toList.map ev = args.toList.map ev' := List.map_congr_left fun x hx => hev x (by simp; exact .inr (by simpa using hx))
    cases callee with
    | value f => have hf : ev f = ev' f := hev f (by simp); simp only [aop, this, hf]
    | invoke r m => have hr : ev r = ev' r := hev r (by simp); simp only [aop, this, hr]
    | builtin b => simp only [aop, this]
  | _ => simp_all [aop, Op.operands]

theorem aload_local {t : TypeId} {a : AV} {h g : Heap} {out : Out} (ha : aload P h t a = some (.out out)) (hg : ∀ i ∈ out.rd ++ out.up.map (·.1), g i = h i) : aload P g t a = some (.out out) := by
  unfold aload at *
  split at ha
  case h_2 => cases ha
  rename_i gg k e1 e2
  split at ha
  · exact ha
  · rename_i b off
    split at ha
    case h_2 => cases ha
    rename_i blk hb
    split at ha
    case isFalse => cases ha
    rename_i hoff
    cases hv : getAs gg k (blk.drop off) with
    | none => simp [hv] at ha
    | some v =>
      simp only [hv, Option.bind_some, Option.some.injEq, Did.out.injEq] at ha
      subst ha
      simp only [hg b (by simp), hb, if_pos hoff, hv, Option.bind_some]
  · cases ha

theorem astore_local {t : TypeId} {a x : AV} {h g : Heap} {out : Out} (ha : astore P h t a x = some (.out out)) (hg : ∀ i ∈ out.rd ++ out.up.map (·.1), g i = h i) : astore P g t a x = some (.out out) := by
  unfold astore at *
  split at ha
  case h_2 => cases ha
  rename_i k b off cs e1 e2
  split at ha
  case h_2 => cases ha
  rename_i blk hb
  split at ha
  case isFalse => cases ha
  rename_i hc
  simp only [Option.some.injEq, Did.out.injEq] at ha
  subst ha
  simp only [hg b (by simp), hb, if_pos hc]

theorem srcCells_local {e : Nat} {x : AV} {h g : Heap} {new : List AV} {k : Nat} {rd : List Nat} (ha : srcCells h e x = some (new, k, rd)) (hg : ∀ i ∈ rd, g i = h i) : srcCells g e x = some (new, k, rd) := by
  unfold srcCells at *
  split at ha
  · exact ha
  · exact ha
  · rename_i b off len s
    split at ha
    case h_2 => cases ha
    rename_i blk hb
    split at ha
    case isFalse => cases ha
    rename_i hc
    simp only [Option.some.injEq, Prod.mk.injEq] at ha
    obtain ⟨rfl, rfl, rfl⟩ := ha
    simp only [hg b (by simp), hb, if_pos hc]
  · cases ha

theorem aappend_local {pu : Bool} {slot : Nat} {ts : Array TypeId} {x y : AV} {h g : Heap} {out : Out} (ha : aappend P pu slot h ts x y = some (.out out)) (hg : ∀ i ∈ out.rd ++ out.up.map (·.1), g i = h i) : aappend P pu slot g ts x y = some (.out out) := by
  unfold aappend at *
  split at ha
  case h_2 => cases ha
  rename_i e e' e1 e2
  split at ha
  case h_2 => cases ha
  rename_i s by_ z e3 e4 e5
  split at ha
  case isFalse => cases ha
  rename_i hc
  rw [if_pos hc]
  split at ha
  case h_2 => cases ha
  rename_i new k rd hsrc
  split at ha
  case isFalse => cases ha
  rename_i hk
  split at ha
  · by_cases hpu : pu = true
    · rw [if_pos hpu] at ha
      split at ha
      · rename_i se xs
        have : srcCells g (s + 1) (.sl se xs) = some (new, k, rd) := hsrc
        simp only [this, if_pos hk, if_pos hpu]
        exact ha
      · cases ha
    · rw [if_neg hpu] at ha
      by_cases hk0 : k = 0
      · rw [if_pos hk0] at ha
        simp only [Option.some.injEq, Did.out.injEq] at ha
        subst ha
        rw [srcCells_local hsrc (fun i hi => hg i (by simp [hi]))]
        simp only [if_pos hk, if_neg hpu, if_pos hk0]
      · rw [if_neg hk0] at ha
        simp only [Option.some.injEq, Did.out.injEq] at ha
        subst ha
        rw [srcCells_local hsrc (fun i hi => hg i (by simp [hi]))]
        simp only [if_pos hk, if_neg hpu, if_neg hk0]
  · rename_i b off len s'
    split at ha
    case h_2 => cases ha
    rename_i blk hb
    split at ha
    case isFalse => cases ha
    rename_i hc2
    simp only [Option.some.injEq, Did.out.injEq] at ha
    subst ha
    rw [srcCells_local hsrc (fun i hi => hg i (by simp [hi]))]
    simp only [if_pos hk, hg b (by simp), hb, if_pos hc2]
  · cases ha

theorem acopy_local {ts : Array TypeId} {x y : AV} {h g : Heap} {out : Out} (ha : acopy P h ts x y = some (.out out)) (hg : ∀ i ∈ out.rd ++ out.up.map (·.1), g i = h i) : acopy P g ts x y = some (.out out) := by
  unfold acopy at *
  split at ha
  case h_2 => cases ha
  rename_i e e1
  split at ha
  case h_2 => cases ha
  rename_i s e3
  split at ha
  case h_2 => cases ha
  rename_i b off len s' new k rd hsrc
  split at ha
  case h_2 => cases ha
  rename_i blk hb
  split at ha
  case isFalse => cases ha
  rename_i hc
  simp only [Option.some.injEq, Did.out.injEq] at ha
  subst ha
  rw [srcCells_local hsrc (fun i hi => hg i (by simp [hi]))]
  simp only [hg b (by simp), hb, if_pos hc]

theorem aconvert_local {src dst : TypeId} {x : AV} {h g : Heap} {out : Out} (ha : aconvert P h src dst x = some (.out out)) (hg : ∀ i ∈ out.rd ++ out.up.map (·.1), g i = h i) : aconvert P g src dst x = some (.out out) := by
  unfold aconvert at *
  split at ha
  · exact ha
  · exact ha
  · rename_i e b off len hu1 hu2
    split at ha
    case h_2 => cases ha
    rename_i blk hu8 hb
    split at ha
    case isFalse => cases ha
    rename_i hlen
    cases hbo : bytesOf (cut blk off len) with
    | none => rw [hbo] at ha; cases ha
    | some l =>
      have ha' := ha
      rw [hbo] at ha
      simp only [Option.bind_some, Option.some.injEq, Did.out.injEq] at ha
      have hgb : g b = some blk := by rw [hg b (by rw [← ha]; simp), hb]
      simp only [hu8, hgb, if_pos hlen]
      exact ha'
  · rename_i e b k t hu1 hu2
    split at ha
    case h_2 => cases ha
    rename_i s c0 r hsz hb
    simp only [Option.some.injEq, Did.out.injEq] at ha
    have hgb : g b = some (c0 :: r) := by rw [hg b (by rw [← ha]; simp), hb]
    simp only [hsz, hgb, ha]
  · rename_i u b k t hu1 hu2
    split at ha
    case h_2 => cases ha
    rename_i s blk hsz hli hb
    simp only [Option.some.injEq, Did.out.injEq] at ha
    have hgb : g b = some blk := by rw [hg b (by rw [← ha]; simp), hb]
    simp only [hsz, hli, hgb, ha]
  · cases ha

theorem abinH_local {op : BinOp} {t : TypeId} {x y : AV} {h g : Heap} {out : Out} (ha : abinH P h op t x y = some (.out out)) (hg : ∀ i ∈ out.rd ++ out.up.map (·.1), g i = h i) : abinH P g op t x y = some (.out out) := by
  unfold abinH at *
  split at ha
  · split at ha
    · rename_i e blk hu hb
      split at ha
      case h_2 => cases ha
      rename_i s hsz
      split at ha
      case isFalse => cases ha
      rename_i hbb
      simp only [Option.some.injEq, Did.out.injEq] at ha
      have hgb := (hg _ (by rw [← ha]; simp)).trans hb
      simp only [hu, hgb, hsz, if_pos hbb, ha]
    · rename_i e blk hu hb
      split at ha
      case h_2 => cases ha
      rename_i s hsz
      split at ha
      case isFalse => cases ha
      rename_i hbb
      simp only [Option.some.injEq, Did.out.injEq] at ha
      have hgb := (hg _ (by rw [← ha]; simp)).trans hb
      simp only [hu, hgb, hsz, if_pos hbb, ha]
    · cases ha
  · exact ha

theorem asliceH_local {t : TypeId} {x : AV} {lo hi : Option AV} {h g : Heap} {out : Out} (ha : asliceH P h t x lo hi = some (.out out)) (hg : ∀ i ∈ out.rd ++ out.up.map (·.1), g i = h i) : asliceH P g t x lo hi = some (.out out) := by
  unfold asliceH at *
  split at ha
  · rename_i b off
    split at ha
    case h_2 => cases ha
    rename_i m e blk hu hb
    split at ha
    case h_2 => cases ha
    rename_i s hsz
    split at ha
    case isFalse => cases ha
    rename_i hle
    simp only [Option.some.injEq, Did.out.injEq] at ha
    have hgb := (hg _ (by rw [← ha]; simp)).trans hb
    simp only [hu, hgb, hsz, if_pos hle, ha]
  · exact ha

theorem aappendS_local {slot : Nat} {ts : Array TypeId} {x : AV} {s : ByteArray} {h g : Heap} {out : Out} (ha : aappendS P slot h ts x s = some (.out out)) (hg : ∀ i ∈ out.rd ++ out.up.map (·.1), g i = h i) : aappendS P slot g ts x s = some (.out out) := by
  unfold aappendS at *
  split at ha
  case h_2 => cases ha
  split at ha
  case h_2 => cases ha
  rename_i z0 hsz hby hz hu1
  split at ha
  case isFalse => cases ha
  rename_i hs38
  simp only [hsz, hby, hz, hu1, if_pos hs38]
  split at ha
  · exact ha
  · rename_i b len t
    split at ha
    case h_2 => cases ha
    rename_i blk hb
    split at ha
    case isFalse => cases ha
    rename_i hc
    simp only [Option.some.injEq, Did.out.injEq] at ha
    have hgb := (hg b (by rw [← ha]; simp)).trans hb
    simp only [hgb, if_pos hc, ha]
  · cases ha

theorem aunsafeString_local {ts : Array TypeId} {x y : AV} {h g : Heap} {out : Out} (ha : aunsafeString P h ts x y = some (.out out)) (hg : ∀ i ∈ out.rd ++ out.up.map (·.1), g i = h i) : aunsafeString P g ts x y = some (.out out) := by
  unfold aunsafeString at *
  split at ha
  case h_2 => cases ha
  split at ha
  · exact ha
  · rename_i b t
    split at ha
    · rename_i hk0
      rw [if_pos hk0]; exact ha
    rename_i hk0
    rw [if_neg hk0]
    split at ha
    case h_2 => cases ha
    rename_i blk hb
    split at ha
    case isFalse => cases ha
    rename_i hc
    simp only [Option.bind_eq_some_iff] at ha
    obtain ⟨l, hl, ha⟩ := ha
    simp only [Option.some.injEq, Did.out.injEq] at ha
    have hgb := (hg b (by rw [← ha]; simp)).trans hb
    simp only [hgb, if_pos hc, hl, Option.bind_some, ha]
  · cases ha

/-- .. and on the blocks that it touches. -/
theorem aop_local {op : Op} {pu : Bool} {slot : Nat} {ev : Operand → AV} {h g : Heap} {out : Out} (ha : aop P pu op slot ev h = some (.out out)) (hg : ∀ i ∈ out.rd ++ out.up.map (·.1), g i = h i) : aop P pu op slot ev g = some (.out out) := by
  unfold aop at *
  split at ha
  case h_8 => exact aload_local ha hg
  case h_9 => exact astore_local ha hg
  case h_11 => exact abinH_local ha hg
  case h_13 => exact aconvert_local ha hg
  case h_16 => exact asliceH_local ha hg
  case h_22 =>
    unfold abuiltin at *
    split at ha
    · exact aappendS_local ha hg
    · exact aappend_local ha hg
    · exact ha
    · exact ha
    · exact aunsafeString_local ha hg
    · exact ha
    · exact acopy_local ha hg
    all_goals exact ha
  all_goals exact ha

theorem frz1_local {h g : Heap} {x : AV} (hg : ∀ i ∈ ids1 x, g i = h i) : frz1 g x = frz1 h x := by
  cases x with
  | own b off len e => simp only [frz1, hg b (by simp [ids1])]
  | _ => rfl
theorem frz2_local {h g : Heap} {x : AV} (hg : ∀ i ∈ ids2 x, g i = h i) : frz2 g x = frz2 h x := by
  cases x with
  | agg cs =>
    simp only [frz2, AV.agg.injEq]
    exact List.map_congr_left fun y hy => frz1_local fun i hi => hg i (by simp only [ids2, List.mem_flatMap]; exact ⟨y, hy, hi⟩)
  | _ => simp only [frz2]; exact frz1_local (by simpa only [ids2] using hg)

theorem Res_same {slot : Nat} {o : Oper} {st st' : ASt} {out : Out} (hw : awant ops o st'.τ = awant ops o st.τ) (hev : ∀ x ∈ o.op.operands, aev st'.τ x = aev st.τ x) (hg : ∀ i ∈ out.rd ++ out.up.map (·.1), st'.h i = st.h i)
    (h : Res P pa ops slot o st out) : Res P pa ops slot o st' out := by
  unfold Res at *
  rw [hw]
  rcases h with ⟨h1, h2 | ⟨f, args, v, h3, h4, rfl⟩⟩ | h
  · exact .inl ⟨h1, .inl (by rw [aop_congr hev]; exact aop_local h2 hg)⟩
  · have hfz : args.map (frz2 st'.h) = args.map (frz2 st.h) := List.map_congr_left fun x hx => frz2_local fun i hi => hg i (by
      simp only [callOut, List.mem_append]
      exact .inl (List.mem_flatMap.2 ⟨x, hx, hi⟩))
    refine .inl ⟨h1, .inr ⟨f, args, v, ?_, by rw [hfz]; exact h4, rfl⟩⟩
    rw [aop_congr hev]
    rcases aop_call h3 with ⟨g, xs, ts, cap, ho, hgv, ha, hns, hnm⟩ | ⟨r, name, xs, ts, t, x, ho, hr, hd, ha⟩
    · rw [ho]
      simp only [aop, hgv, ha, hns, hnm, Bool.false_eq_true, if_false]
    · rw [ho]
      simp only [aop, hr, hd, ha]
  · exact .inr h

/-- What another operation has done elsewhere makes no difference. -/
theorem Res.local {slot : Nat} {o oj : Oper} {st : ASt} {out outj : Out} (hap : ∀ d, oj.dst = some d → d ∉ o.looksAt ops) (hd : ∀ x ∈ outj.up.map (·.1), x ∉ out.rd ++ out.up.map (·.1)) :
    Res P pa ops slot o st out ↔ Res P pa ops slot o (app st oj outj) out := by
  have hw : awant ops o (app st oj outj).τ = awant ops o st.τ := awant_other hap
  have hev : ∀ x ∈ o.op.operands, aev (app st oj outj).τ x = aev st.τ x := fun x hx => aev_other fun t ht hxt => hap t ht (operand_mem hx hxt)
  have hg : ∀ i ∈ out.rd ++ out.up.map (·.1), (app st oj outj).h i = st.h i := fun i hi => updH_other _ _ _ fun hm => hd i hm hi
  exact ⟨Res_same hw hev hg, Res_same hw.symm (fun x hx => (hev x hx).symm) fun i hi => (hg i hi).symm⟩

theorem aany_first {K : ASt → Prop} {base : Nat} {T : Nat → Out} {i : Nat} {oi : Oper} (hi : ops[i]? = some oi) : ∀ (fuel : Nat) (listed : Array Bool) (st : ASt),
    (∀ j oj, ops[j]? = some oj → j ≠ i → listed.getD j true = false → (∀ e ∈ oj.after, Region.binds .any e = true → e.on ≠ i) → oi.apart ops oj = true ∧ outOk (T i) (T j)) →
    i ∈ Region.ready .any ops listed → Res P pa ops (base + i) oi st (T i) →
    AAny P pa ops base T K fuel (listed.setIfInBounds i true) (app st oi (T i)) → AAny P pa ops base T K (fuel + 1) listed st := by
  intro fuel
  induction fuel with
  | zero =>
    intro listed st _ hr hy H
    refine ⟨fun h => (by rw [h] at hr; cases hr), fun j hj => ?_⟩
    by_cases hji : j = i
    · subst hji; exact ⟨oi, hi, hy, H⟩
    · have := ready_mono hj hji
      rw [H.1] at this
      cases this
  | succ fuel ih =>
    intro listed st hfree hr hy H
    refine ⟨fun h => (by rw [h] at hr; cases hr), fun j hj => ?_⟩
    by_cases hji : j = i
    · subst hji; exact ⟨oi, hi, hy, H⟩
    · obtain ⟨oj, hoj, h1, h2⟩ := H.2 j (ready_mono hj hji)
      obtain ⟨hjun, oj', hoj', hall⟩ := mem_ready.1 hj
      rw [hoj] at hoj'
      cases hoj'
      have hnot : ∀ e ∈ oj.after, Region.binds .any e = true → e.on ≠ i := fun e he hb heq => by
        have h1 := hall e he hb
        have h0 := (mem_ready.1 hr).1
        rw [heq] at h1
        rcases Nat.lt_or_ge i listed.size with h' | h'
        · simp [h'] at h0 h1; rw [h0] at h1; cases h1
        · simp [Array.getElem?_eq_none h'] at h1
      obtain ⟨hap, hout⟩ := hfree j oj hoj hji hjun hnot
      obtain ⟨a1, a2, a3⟩ := Oper.apart_spec hap
      have hrj : Res P pa ops (base + j) oj st (T j) := (Res.local a1 hout.1).2 h1
      have hri : Res P pa ops (base + i) oi (app st oj (T j)) (T i) := (Res.local a3 (fun x hx hx' => by
        rcases List.mem_append.1 hx' with hx' | hx'
        · exact hout.2 x hx hx'
        · exact hout.1 x hx' (List.mem_append.2 (.inr hx)))).1 hy
      refine ⟨oj, hoj, hrj, ih (listed.setIfInBounds j true) _ (fun k ok hk hki hun hno => ?_) (ready_mono hr (Ne.symm hji)) hri ?_⟩
      · refine hfree k ok hk hki ?_ hno
        by_cases hjk : j = k
        · subst hjk; exact hjun
        · rw [getD_set_ne true hjk] at hun; exact hun
      · rw [Array.setIfInBounds_comm _ _ hji]
        have : app (app st oj (T j)) oi (T i) = app (app st oi (T i)) oj (T j) := by
          simp only [app]
          rw [putT_comm (fun t ht hit => a2 t hit ht), updH_comm st.h (fun x hx hx' => hout.1 x hx' (List.mem_append.2 (.inr hx)))]
        rw [this]
        exact h2

theorem logOk_spec : ∀ (log : List (Nat × Out)) (o : Oper) (b : Out), logOk log o b → ∀ p ∈ log, outOk p.2 b ∨ waitsB p.1 o = true
  | [], _, _, _, p, hp => by cases hp
  | (i, a) :: r, o, b, h, p, hp => by
    rcases List.mem_cons.1 hp with rfl | hp
    · exact h.1
    · exact logOk_spec r o b h.2 p hp

theorem cold_of {out : Out} (h : hotB out = false) : out.up = [] ∧ out.rd = [] := by
  unfold hotB at h
  simp only [Bool.not_eq_false', Bool.and_eq_true, List.isEmpty_iff] at h
  exact h
theorem outOk_coldL {a b : Out} (h : a.up = [] ∧ a.rd = []) : outOk a b := by
  unfold outOk disj
  rw [h.1, h.2]
  exact ⟨fun x hx => (by cases hx), fun x _ hx => (by cases hx)⟩
theorem outOk_coldR {a b : Out} (h : b.up = [] ∧ b.rd = []) : outOk a b := by
  unfold outOk disj
  rw [h.1, h.2]
  exact ⟨fun x _ hx => (by cases hx), fun x hx => (by cases hx)⟩

/-- One walk of the text's order serves every order. -/
theorem dwalk_lex {K : ASt → Prop} {base : Nat} : ∀ (l : List Oper) (i : Nat) (st : ASt) (log : List (Nat × Out)), (∀ j, l[j]? = ops[i + j]?) →
    DWalk P pa ops l i (base + i) st log K → ∀ T0 : Nat → Out, (∀ p ∈ log, T0 p.1 = p.2 ∧ p.1 < i) → (∀ j, j < i → j ∉ log.map (·.1) → (T0 j).up = [] ∧ (T0 j).rd = []) →
    ∃ T : Nat → Out, (∀ j, j < i → T j = T0 j) ∧ (∀ j k o, j < k → i ≤ k → ops[k]? = some o → waitsB j o = false → outOk (T j) (T k)) ∧
      ∀ listed : Array Bool, (∀ j, j < i → listed.getD j true = true) → Region.lexFrom .any ops l.length i listed = true → AAny P pa ops base T K l.length listed st
  | [], i, st, log, hl, h, T0, _, _ => by
    refine ⟨T0, fun _ _ => rfl, fun j k o _ hk ho => ?_, fun listed _ hB => ⟨by simpa [Region.lexFrom] using hB, h⟩⟩
    have := hl (k - i)
    rw [show i + (k - i) = k by omega, ho] at this
    simp at this
  | o :: rest, i, st, log, hl, h, T0, hT0, hcold => by
    have hi : ops[i]? = some o := by simpa using (hl 0).symm
    have hl' : ∀ j, rest[j]? = ops[i + 1 + j]? := fun j => by have := hl (j + 1); simpa [Nat.add_assoc, Nat.add_comm 1 j] using this
    have step : ∀ (out : Out) (log' : List (Nat × Out)), Res P pa ops (base + i) o st out → ((hotB out = true ∧ logOk log o out ∧ log' = (i, out) :: log) ∨ (hotB out = false ∧ log' = log)) →
        DWalk P pa ops rest (i + 1) (base + i + 1) (app st o out) log' K →
        ∃ T : Nat → Out, (∀ j, j < i → T j = T0 j) ∧ (∀ j k o, j < k → i ≤ k → ops[k]? = some o → waitsB j o = false → outOk (T j) (T k)) ∧
          ∀ listed : Array Bool, (∀ j, j < i → listed.getD j true = true) → Region.lexFrom .any ops (o :: rest).length i listed = true → AAny P pa ops base T K (o :: rest).length listed st := by
      intro out log' hr hlog hw
      obtain ⟨T, t1, t2, t3⟩ := dwalk_lex rest (i + 1) (app st o out) log' hl' (by rw [← Nat.add_assoc]; exact hw) (fun j => if j = i then out else T0 j)
        (fun p hp => by
          rcases hlog with ⟨_, _, rfl⟩ | ⟨_, rfl⟩
          · rcases List.mem_cons.1 hp with rfl | hp
            · exact ⟨by simp, by simp⟩
            · obtain ⟨g1, g2⟩ := hT0 p hp
              exact ⟨by simp [show p.1 ≠ i by omega, g1], by omega⟩
          · obtain ⟨g1, g2⟩ := hT0 p hp
            exact ⟨by simp [show p.1 ≠ i by omega, g1], by omega⟩)
        (fun j hj hn => by
          by_cases e : j = i
          · subst e
            rcases hlog with ⟨_, _, rfl⟩ | ⟨hc, rfl⟩
            · simp at hn
            · simp only [if_pos]; exact cold_of hc
          · simp only [if_neg e]
            refine hcold j (by omega) fun hm => hn ?_
            rcases hlog with ⟨_, _, rfl⟩ | ⟨_, rfl⟩
            · simp only [List.map_cons, List.mem_cons]; exact .inr hm
            · exact hm)
      have hTi : T i = out := by rw [t1 i (by omega)]; simp
      have hTj : ∀ j, j < i → T j = T0 j := fun j hj => by rw [t1 j (by omega)]; simp [show j ≠ i by omega]
      have hpair : ∀ j k o, j < k → i ≤ k → ops[k]? = some o → waitsB j o = false → outOk (T j) (T k) := fun j k o' hjk hik hk hwt => by
        by_cases e : k = i
        · subst e
          rw [hi] at hk
          cases hk
          rw [hTi, hTj j hjk]
          rcases hlog with ⟨_, hlo, rfl⟩ | ⟨hc, _⟩
          · by_cases hm : j ∈ log.map (·.1)
            · obtain ⟨p, hp, rfl⟩ := List.mem_map.1 hm
              rw [(hT0 p hp).1]
              rcases logOk_spec log o out hlo p hp with h | h
              · exact h
              · rw [hwt] at h; cases h
            · exact outOk_coldL (hcold j hjk hm)
          · exact outOk_coldR (cold_of hc)
        · exact t2 j k o' hjk (by omega) hk hwt
      refine ⟨T, hTj, hpair, fun listed hlis hB => ?_⟩
      simp only [List.length_cons, Region.lexFrom, Bool.and_eq_true] at hB
      obtain ⟨⟨hr1, hf⟩, hB'⟩ := hB
      have hrdy : i ∈ Region.ready .any ops listed := by simpa using hr1
      have hls : i < listed.size := by
        have h0 := (mem_ready.1 hrdy).1
        rcases Nat.lt_or_ge i listed.size with h' | h'
        · exact h'
        · simp [Array.getD, Nat.not_lt.2 h'] at h0
      refine aany_first hi rest.length listed st (fun j oj hoj hji hun hno => ⟨Region.free_spec hi hf j oj hoj hji hun hno, ?_⟩) hrdy (by rw [hTi]; exact hr) ?_
      · have hij : i < j := by
          rcases Nat.lt_trichotomy i j with h' | h' | h'
          · exact h'
          · exact absurd h'.symm hji
          · rw [hlis j h'] at hun; cases hun
        refine hpair i j oj hij (by omega) hoj ?_
        unfold waitsB
        rw [Array.any_eq_false']
        intro e he
        by_cases hb : Region.binds .any e = true
        · have := hno e he hb
          simp [hb, this]
        · simp [hb]
      · rw [hTi]
        refine t3 _ (fun j hj => ?_) hB'
        by_cases e : j = i
        · subst e; simp [Array.getD, hls]
        · rw [getD_set_ne true (fun h => e h.symm)]; exact hlis j (by omega)
    simp only [DWalk] at h
    split at h
    · rename_i hw
      split at h
      · rename_i out ha
        by_cases hh : hotB out = true
        · simp only [hh, if_true] at h; exact step out _ (.inl ⟨hw, .inl ha⟩) (.inl ⟨hh, h.1, rfl⟩) h.2
        · simp only [hh, if_false, Bool.false_eq_true] at h; exact step out _ (.inl ⟨hw, .inl ha⟩) (.inr ⟨by simpa using hh, rfl⟩) h.2
      · rename_i f args ha
        obtain ⟨v, hP, hlo, hk⟩ := h
        by_cases hh : hotB (callOut v (args.flatMap ids2)) = true
        · simp only [hh, if_true] at hlo hk; exact step _ _ (.inl ⟨hw, .inr ⟨f, args, v, ha, hP, rfl⟩⟩) (.inl ⟨hh, hlo, rfl⟩) hk
        · simp only [hh, if_false, Bool.false_eq_true] at hlo hk; exact step _ _ (.inl ⟨hw, .inr ⟨f, args, v, ha, hP, rfl⟩⟩) (.inr ⟨by simpa using hh, rfl⟩) hk
      · exact h.elim
    · rename_i hw; exact step skipOut log (.inr ⟨hw, rfl⟩) (.inr ⟨rfl, rfl⟩) h
    · exact h.elim


/-- A region, in whatever order. -/
theorem region_sound {id : Nat} {draw : Bool} {K : ASt → Prop} {Q : Exit → Act → World → Prop} (hm : P.follows .mixedOrders = true) (hops : ∀ (i : Nat) (o : Oper) (t : Nat), ops[i]? = some o → o.dst = some t → t < nt)
    (hB : draw = true → Region.lexB .any ops = true) (F : FRel nt I M st a w) (h : ARegion P pa ops draw st K)
    (hQ : ∀ st' I' M' a' w', K st' → FRel nt I' M' st' a' w' → Ext I M w I' M' w' → st.n ≤ st'.n → (∀ j, j < st.n → M j = MS.fresh → M' j = MS.fresh) → Q .normal a' w') :
    (Code.region id ops draw).wp P Q a w := by
  have F0 : FRel nt I M { st with n := st.n + ops.size } a w := ⟨F.defers, F.size, F.tmps, F.heap.imm, fun i hi => F.heap.fr i (by simp only at hi; omega), F.heap.no, F.heap.live, F.heap.inj⟩
  unfold ARegion at h
  cases draw with
  | false =>
    simp only [Bool.false_eq_true, if_false] at h
    refine wp_region ?_
    have := swalk_sound (P := P) (Q := Q) (st.n + ops.size) hops ops.toList 0 st.n { st with n := st.n + ops.size } I M a w (fun j => by simp) F0 (fun j hj hj' => F.heap.fr j hj) (by simp) (Nat.le_refl _) h
      (fun st' I' M' a' w' hk F' he hn hf => hQ st' I' M' a' w' hk F' he (by simp only at hn; omega) hf)
    rw [List.range_eq_range']
    simpa using this
  | true =>
    simp only [if_true] at h
    have hB' := hB rfl
    simp only [Region.lexB, Bool.and_eq_true] at hB'
    refine wp_region_any hm ?_
    obtain ⟨T, _, _, hT⟩ := dwalk_lex (P := P) (K := K) (base := st.n) ops.toList 0 _ [] (fun j => by simp) h (fun _ => skipOut) (fun p hp => by cases hp) (fun j hj => by omega)
    have hA := hT (Array.replicate ops.size false) (fun j hj => by omega) (by simpa using hB'.2)
    have Fd : FRel nt I M { st with n := st.n + ops.size } a { w with drawn := w.drawn + 1 } := ⟨F0.defers, F0.size, F0.tmps, F0.heap.drew⟩
    rw [Array.length_toList] at hA
    exact aany_sound hops ops.size _ _ I M a _ (by simp) Fd (fun i hi _ => F.heap.fr _ (by omega)) (Nat.le_refl _) hA
      (fun st' I' M' a' w' hk F' he hn hf => hQ st' I' M' a' w' hk F' ((Ext.drew I M w).trans he) (by simp only at hn; omega) hf)

/-! ### The run -/
def codeOk (nt : Nat) : Code → Bool
  | .region _ ops draw => ops.all (fun o => match o.dst with | some d => decide (d < nt) | none => true) && (!draw || Region.lexB .any ops)
  | .seq a b => codeOk nt a && codeOk nt b
  | .cond _ a b => codeOk nt a && codeOk nt b
  | .block _ c => codeOk nt c
  | .loop c => codeOk nt c
  | .scope c => codeOk nt c
  | _ => true

def itemOk (nt : Nat) : Item → Bool
  | .code c => codeOk nt c
  | .inLoop c => codeOk nt c
  | _ => true

theorem exitTo_ok {id : Nat} : ∀ {k k' : List Item}, (∀ x ∈ k, itemOk nt x = true) → exitTo id k = some k' → ∀ x ∈ k', itemOk nt x = true
  | [], _, _, h => by simp [exitTo] at h
  | x :: k, k', hk, h => by
    have hk' : ∀ x ∈ k, itemOk nt x = true := fun y hy => hk y (List.mem_cons_of_mem _ hy)
    unfold exitTo at h
    split at h
    · rename_i e
      injection e with e1 e2
      subst e2
      split at h
      · cases h; exact hk'
      · exact exitTo_ok hk' h
    · rename_i e
      injection e with e1 e2
      subst e2
      exact exitTo_ok hk' h
    · cases h

theorem codeOk_region {nt id : Nat} {ops : Array Oper} {draw : Bool} (h : codeOk nt (.region id ops draw) = true) :
    (∀ (i : Nat) (o : Oper) (t : Nat), ops[i]? = some o → o.dst = some t → t < nt) ∧ (draw = true → Region.lexB .any ops = true) := by
  simp only [codeOk, Bool.and_eq_true] at h
  refine ⟨fun i o t ho ht => ?_, fun hd => ?_⟩
  · have := (Array.all_eq_true_iff_forall_mem.1 h.1) o (Array.mem_of_getElem? ho)
    simp only [ht, decide_eq_true_eq] at this
    exact this
  · have := h.2
    rw [hd] at this
    simpa using this

theorem AW_sound {Q : ASt → Prop} (hm : P.follows .mixedOrders = true) {k : List Item} {st : ASt} (h : AW P pa Q k st) : (∀ x ∈ k, itemOk nt x = true) → ∀ (I : Imm) (M : Mp) (a : Act) (w : World), FRel nt I M st a w → ∀ (b : Frame) (cs : List Frame),
    ∃ todo a' w' st' I' M', Steps P (lone (b.at a k) cs w) (lone { b.at a' todo with mode := .returning } cs w') ∧ Q st' ∧ FRel nt I' M' st' a' w' ∧ Ext I M w I' M' w' ∧ st.n ≤ st'.n ∧ (∀ j, j < st.n → M j = MS.fresh → M' j = MS.fresh) := by
  refine h (fun k st => (∀ x ∈ k, itemOk nt x = true) → ∀ (I : Imm) (M : Mp) (a : Act) (w : World), FRel nt I M st a w → ∀ (b : Frame) (cs : List Frame),
    ∃ todo a' w' st' I' M', Steps P (lone (b.at a k) cs w) (lone { b.at a' todo with mode := .returning } cs w') ∧ Q st' ∧ FRel nt I' M' st' a' w' ∧ Ext I M w I' M' w' ∧ st.n ≤ st'.n ∧ (∀ j, j < st.n → M j = MS.fresh → M' j = MS.fresh)) ?_
  clear h k st
  intro k st h hk I M a w F b cs
  have tail : ∀ {x : Item} {k' : List Item}, k = x :: k' → ∀ y ∈ k', itemOk nt y = true := fun e y hy => hk y (by rw [e]; exact List.mem_cons_of_mem _ hy)
  have hd : ∀ {x : Item} {k' : List Item}, k = x :: k' → itemOk nt x = true := fun e => hk _ (by rw [e]; exact List.mem_cons_self ..)
  have go : ∀ {k' : List Item} {a' : Act}, step P (lone (b.at a k) cs w) = .next (lone (b.at a k') cs w) → _ → _ := fun {k'} {a'} hs (hx : ∃ todo a' w' st' I' M', Steps P (lone (b.at a k') cs w) (lone { b.at a' todo with mode := .returning } cs w') ∧ Q st' ∧ FRel nt I' M' st' a' w' ∧ Ext I M w I' M' w' ∧ st.n ≤ st'.n ∧ (∀ j, j < st.n → M j = MS.fresh → M' j = MS.fresh)) =>
    (let ⟨todo, a', w', st', I', M', h1, h2⟩ := hx; (⟨todo, a', w', st', I', M', .head hs h1, h2⟩ : ∃ todo a' w' st' I' M', Steps P (lone (b.at a k) cs w) (lone { b.at a' todo with mode := .returning } cs w') ∧ Q st' ∧ FRel nt I' M' st' a' w' ∧ Ext I M w I' M' w' ∧ st.n ≤ st'.n ∧ (∀ j, j < st.n → M j = MS.fresh → M' j = MS.fresh)))
  unfold stepF at h
  split at h
  · exact ⟨[], a, w, st, I, M, .one step_end, h, F, .refl _ _ _, Nat.le_refl _, fun _ _ h => h⟩
  · exact go (a' := a) step_skip (h (tail rfl) I M a w F b cs)
  · rename_i x y k'
    have h1 := hd rfl
    simp only [itemOk, codeOk, Bool.and_eq_true] at h1
    refine go (a' := a) step_seq (h (fun z hz => ?_) I M a w F b cs)
    rcases List.mem_cons.1 hz with rfl | hz
    · exact h1.1
    · rcases List.mem_cons.1 hz with rfl | hz
      · exact h1.2
      · exact tail rfl z hz
  · rename_i c x y k'
    have h1 := hd rfl
    simp only [itemOk, codeOk, Bool.and_eq_true] at h1
    split at h
    · rename_i t hc
      have hv := aev_rel F.tmps c
      rw [hc] at hv
      have hb := hv.bool_inv
      cases t with
      | true =>
        refine go (a' := a) (k' := .code x :: k') (by have := step_cond (P := P) (b := b) (k := k') (cs := cs) (w := w) (x := x) (y := y) hb; simpa using this) (h.1 rfl (fun z hz => ?_) I M a w F b cs)
        rcases List.mem_cons.1 hz with rfl | hz
        · exact h1.1
        · exact tail rfl z hz
      | false =>
        refine go (a' := a) (k' := .code y :: k') (by have := step_cond (P := P) (b := b) (k := k') (cs := cs) (w := w) (x := x) (y := y) hb; simpa using this) (h.2 rfl (fun z hz => ?_) I M a w F b cs)
        rcases List.mem_cons.1 hz with rfl | hz
        · exact h1.2
        · exact tail rfl z hz
    · exact h.elim
  · rename_i id c k'
    have h1 := hd rfl
    simp only [itemOk, codeOk] at h1
    refine go (a' := a) step_block (h (fun z hz => ?_) I M a w F b cs)
    rcases List.mem_cons.1 hz with rfl | hz
    · exact h1
    · rcases List.mem_cons.1 hz with rfl | hz
      · rfl
      · exact tail rfl z hz
  · rename_i c k'
    have h1 := hd rfl
    simp only [itemOk, codeOk] at h1
    refine go (a' := a) step_loop (h (fun z hz => ?_) I M a w F b cs)
    rcases List.mem_cons.1 hz with rfl | hz
    · exact h1
    · rcases List.mem_cons.1 hz with rfl | hz
      · exact h1
      · exact tail rfl z hz
  · rename_i id k'
    split at h
    · rename_i k'' he
      exact go (a' := a) (step_exit he) (h (exitTo_ok (tail rfl) he) I M a w F b cs)
    · exact h.elim
  · exact ⟨_, a, w, st, I, M, .one step_ret, h, F, .refl _ _ _, Nat.le_refl _, fun _ _ h => h⟩
  · rename_i id ops draw k'
    have h1 := hd rfl
    obtain ⟨o1, o2⟩ := codeOk_region (id := id) h1
    have hwp := region_sound (id := id) (Q := fun e a' w' => e = .normal ∧ ∃ st' I' M', ((∀ x ∈ k', itemOk nt x = true) → ∀ (I : Imm) (M : Mp) (a : Act) (w : World), FRel nt I M st' a w → ∀ (b : Frame) (cs : List Frame),
        ∃ todo a' w' st'' I' M', Steps P (lone (b.at a k') cs w) (lone { b.at a' todo with mode := .returning } cs w') ∧ Q st'' ∧ FRel nt I' M' st'' a' w' ∧ Ext I M w I' M' w' ∧ st'.n ≤ st''.n ∧ (∀ j, j < st'.n → M j = MS.fresh → M' j = MS.fresh)) ∧
        FRel nt I' M' st' a' w' ∧ Ext I M w I' M' w' ∧ st.n ≤ st'.n ∧ (∀ j, j < st.n → M j = MS.fresh → M' j = MS.fresh)) hm o1 o2 F h
      (fun st' I' M' a' w' hS F' he hn hf => ⟨rfl, st', I', M', hS, F', he, hn, hf⟩)
    obtain ⟨e, a', w', ⟨rfl, st', I', M', hS, F', he, hn, hf⟩, harr⟩ := hwp b k' cs
    obtain ⟨todo, a'', w'', st'', I'', M'', s1, s2, s3, s4, s5, s6⟩ := hS (tail rfl) I' M' a' w' F' b cs
    exact ⟨todo, a'', w'', st'', I'', M'', Steps.trans harr s1, s2, s3, he.trans s4, Nat.le_trans hn s5, fun j hj hmj => s6 j (by omega) (hf j hj hmj)⟩
  · exact go (a' := a) step_inBlock (h (tail rfl) I M a w F b cs)
  · rename_i c k'
    have h1 := hd rfl
    refine go (a' := a) step_inLoop (h (fun z hz => ?_) I M a w F b cs)
    rcases List.mem_cons.1 hz with rfl | hz
    · exact h1
    · exact hk z hz
  · rename_i c k'
    have h1 := hd rfl
    simp only [itemOk, codeOk] at h1
    refine go (a' := a) step_scope (h (fun z hz => ?_) I M a w F b cs)
    rcases List.mem_cons.1 hz with rfl | hz
    · exact h1
    · rcases List.mem_cons.1 hz with rfl | hz
      · rfl
      · exact tail rfl z hz
  · exact go (a' := a) step_label (h (tail rfl) I M a w F b cs)
  · exact go (a' := a) step_inScope (h (tail rfl) I M a w F b cs)
  · exact h.elim
end
end Go.Ab

set_option linter.unusedVariables false
set_option linter.unusedSimpArgs false
set_option maxRecDepth 10000
namespace Go.Ab
open Go.RowKit

/-- What is said by one value is said by the other one. -/
def AV.le (a b : AV) : Prop := ∀ (I : Imm) (v : Value), PRel I a v → PRel I b v
theorem AV.le_refl (a : AV) : a.le a := fun _ _ h => h
theorem AV.le_of_eq {a b : AV} (h : a = b) : a.le b := h ▸ AV.le_refl a
theorem AV.le_undef (a : AV) : a.le .undef := fun _ v _ => .undef v
theorem AV.le_nil (e : Nat) : AV.nilsl.le (.sl e []) := fun _ _ h => by cases h; exact .sl0 _ _ _
theorem AV.le_agg {a b : List AV} (hl : a.length = b.length) (h : ∀ (i : Nat) x y, a[i]? = some x → b[i]? = some y → x.le y) : (AV.agg a).le (.agg b) := fun I v hv => by
  cases hv with
  | agg _ vs h1 h2 => exact .agg _ _ (by omega) fun i y u hy hu => (by
      have hi : i < a.length := by have := (List.getElem?_eq_some_iff.1 hy).1; omega
      exact h i a[i] y (List.getElem?_eq_getElem hi) hy I u (h2 i a[i] u (List.getElem?_eq_getElem hi) hu))
theorem AV.le_tup {a b : List AV} (hl : a.length = b.length) (h : ∀ (i : Nat) x y, a[i]? = some x → b[i]? = some y → x.le y) : (AV.tup a).le (.tup b) := fun I v hv => by
  cases hv with
  | tup _ vs h1 h2 => exact .tup _ _ (by omega) fun i y u hy hu => (by
      have hi : i < a.length := by have := (List.getElem?_eq_some_iff.1 hy).1; omega
      exact h i a[i] y (List.getElem?_eq_getElem hi) hy I u (h2 i a[i] u (List.getElem?_eq_getElem hi) hu))
theorem AV.le_tup2 {a b c d : AV} (h1 : a.le c) (h2 : b.le d) : (AV.tup [a, b]).le (.tup [c, d]) := AV.le_tup rfl fun i x y hx hy => by
  match i with
  | 0 => simp at hx hy; subst hx; subst hy; exact h1
  | 1 => simp at hx hy; subst hx; subst hy; exact h2
  | i + 2 => simp at hx

def resV (ts : List Tmp) (τ : Nat → AV) : AV := match ts with
  | [t] => τ t
  | ts => .tup (ts.map τ)

def resC (ts : List Tmp) (tmps : Array Value) : Value := match ts with
  | [t] => tmps.getD t undef
  | ts => .tuple (ts.map fun t => tmps.getD t undef).toArray

section
variable {P : Program}

theorem results_run {fn : Func} {ts : List Tmp} (h : fn.results = (ts.map .tmp).toArray) (tmps : Array Value) (w : World) : (results fn tmps).run P w = .ok (resC ts tmps) w := by
  have key : ∀ (g : ResultVar → Sem Value), (∀ t, g (.tmp t) = pure (tmps.getD t undef)) → ((ts.map ResultVar.tmp).toArray).mapM g = pure (ts.map fun t => tmps.getD t undef).toArray := fun g hg => by
    rw [List.mapM_toArray]
    have : (ts.map ResultVar.tmp).mapM g = pure (ts.map fun t => tmps.getD t undef) := by
      clear h
      induction ts with
      | nil => rfl
      | cons t ts ih => simp only [List.map_cons, List.mapM_cons, ih, hg, pure_bind]
    rw [this]; simp
  unfold results
  rw [h, key _ (fun t => rfl)]
  simp only [pure_bind, Sem.run_pure]
  match ts with
  | [] => rfl
  | [t] => rfl
  | t :: u :: r => simp [resC]

theorem resV_rel {I : Imm} {M : Mp} {τ : Nat → AV} {tmps : Array Value} (h : ∀ t, VRel I M (τ t) (tmps.getD t undef)) (ts : List Tmp) : VRel I M (resV ts τ) (resC ts tmps) := by
  have gen : ∀ ts : List Tmp, VRel I M (.tup (ts.map τ)) (.tuple (ts.map fun t => tmps.getD t undef).toArray) := fun ts =>
    .tup _ _ (by simp) fun i x v hx hv => by
      simp only [List.getElem?_map, Option.map_eq_some_iff] at hx
      simp only [List.getElem?_toArray, List.getElem?_map, Option.map_eq_some_iff] at hv
      obtain ⟨t, ht, rfl⟩ := hx
      obtain ⟨t', ht', rfl⟩ := hv
      rw [ht] at ht'
      cases ht'
      exact h t
  match ts with
  | [] => exact gen []
  | [t] => exact h t
  | t :: u :: r => exact gen _

/-- All own blocks, taken as only read. -/
theorem frz_all {I : Imm} {M : Mp} {h : Heap} {n : Nat} {w : World} (H : HRel I M h n w) : ∃ J : Imm, ILe I J ∧ (∀ b o, J b = some o → w.heap[b]? = some o) ∧ (∀ b, ¬ Live M b → J b = I b) ∧
    ∀ {x : AV} {v : Value}, VRel I M x v → PRel J (frz h x) v := by
  classical
  let J : Imm := fun b => if Live M b then w.heap[b]? else I b
  have hIJ : ILe I J := fun b o hb => by
    show (if _ then _ else _) = _
    split
    · exact H.imm b o hb
    · exact hb
  have hJ : ∀ i A sz, M i = .live A sz → J A.block = w.heap[A.block]? := fun i A sz hm => if_pos ⟨i, A, sz, hm, rfl⟩
  refine ⟨J, hIJ, fun b o hb => ?_, fun b hb => if_neg hb, fun {x v} hx => ?_⟩
  · by_cases hc : Live M b
    · have : J b = w.heap[b]? := if_pos hc
      rw [← this]; exact hb
    · have : J b = I b := if_neg hc
      rw [this] at hb; exact H.imm b o hb
  · cases x with
    | tup cs =>
      obtain ⟨vs, rfl, hs, hv⟩ := hx.tup_inv
      refine .tup _ _ (by simpa using hs) fun i y u hy hu => ?_
      simp only [List.getElem?_map, Option.map_eq_some_iff] at hy
      obtain ⟨z, hz, rfl⟩ := hy
      exact frz2_rel H hIJ (hv i z u hz hu) fun i _ A sz hm => hJ i A sz hm
    | _ => exact frz2_rel H hIJ hx fun i _ A sz hm => hJ i A sz hm

def st0 (args : List AV) (h : Heap) (n : Nat) : ASt := { τ := fun t => args.getD t (.tup []), h, n }

theorem enter_rel {I : Imm} {M : Mp} {h : Heap} {n nt : Nat} {w : World} {args : List AV} {cargs : Array Value} (H : HRel I M h n w) (ha : AllRel I M args cargs) (hl : args.length ≤ nt) :
    FRel nt I M (st0 args h n) { tmps := cargs ++ Array.replicate (nt - cargs.size) undef, defers := [] } w := by
  have hsz := ha.1
  refine ⟨rfl, by simp; omega, fun t => ?_, H⟩
  simp only [st0]
  by_cases ht : t < args.length
  · have h1 : args[t]? = some (args.getD t (.tup [])) := by simp [List.getD, ht]
    have h2 : t < cargs.size := by omega
    have h3 : (cargs ++ Array.replicate (nt - cargs.size) undef).getD t undef = cargs[t] := by
      simp only [Array.getD_eq_getD_getElem?, Array.getElem?_append_left h2, Array.getElem?_eq_getElem h2, Option.getD_some]
    rw [h3]
    exact ha.2 t _ _ h1 (Array.getElem?_eq_getElem h2)
  · have h1 : args.getD t (.tup []) = .tup [] := by simp [List.getD, List.getElem?_eq_none (Nat.le_of_not_lt ht)]
    have h3 : (cargs ++ Array.replicate (nt - cargs.size) undef).getD t undef = undef := by
      simp only [Array.getD_eq_getD_getElem?]
      rw [Array.getElem?_append_right (by omega)]
      rw [Array.getElem?_replicate]
      split <;> rfl
    rw [h1, h3]
    exact .pure _ _ (.tup [] #[] rfl (fun i x v hx => by simp at hx))

/-- A run, as a call. -/
theorem calls_of_AW {pa : List Tmp} {f : FuncId} {fn : Func} {c : Code} {ts : List Tmp} {Q : ASt → Prop} (hm : P.follows .mixedOrders = true) (hf : P.funcs[f]? = some fn) (hb : fn.body = some c) (hr : fn.results = (ts.map .tmp).toArray) (hok : codeOk fn.ntmps c = true)
    {args : List AV} (hl : args.length ≤ fn.ntmps) {I : Imm} {M : Mp} {h : Heap} {n : Nat} (h0 : AW P pa Q [.code c] (st0 args h n)) {w : World} {cargs : Array Value} (H : HRel I M h n w) (ha : AllRel I M args cargs) :
    Calls P f cargs w fun e w' => ∃ cv st I' M', e = .returned cv ∧ Q st ∧ VRel I' M' (resV ts st.τ) cv ∧ HRel I' M' st.h st.n w' ∧ Ext I M w I' M' w' ∧ n ≤ st.n ∧ (∀ j, j < n → M j = MS.fresh → M' j = MS.fresh) := by
  intro cs
  let b : Frame := { (default : Frame) with fn := f, kind := .normal }
  have henter : Frame.enter P f cargs .normal = b.at { tmps := cargs ++ Array.replicate (fn.ntmps - cargs.size) undef, defers := [] } [.code c] := by
    simp [Frame.enter, Frame.at, hf, hb, b]
  have F := enter_rel (nt := fn.ntmps) H ha hl
  obtain ⟨todo, a', w', st', I', M', s1, s2, s3, s4, s5, s6⟩ := AW_sound (nt := fn.ntmps) hm h0 (fun x hx => by simp at hx; subst hx; exact hok) I M _ w F b cs
  rw [← henter] at s1
  refine ⟨.returned _, w', _, ⟨_, st', I', M', rfl, s2, resV_rel s3.tmps ts, s3.heap, s4, s5, s6⟩, s1, rfl, rfl, s3.defers, rfl, fn, hf, results_run hr a'.tmps w'⟩

/-- A contract on own blocks. -/
theorem hcalls_of_AW {pa : List Tmp} {f : FuncId} {fn : Func} {c : Code} {ts : List Tmp} (hm : P.follows .mixedOrders = true) (hf : P.funcs[f]? = some fn) (hb : fn.body = some c) (hr : fn.results = (ts.map .tmp).toArray) (hnm : (fn.name == "runtime.NumGoroutine") = false) (hok : codeOk fn.ntmps c = true)
    {args : List AV} (hl : args.length ≤ fn.ntmps) {h : Heap} {n : Nat} {post : AV → Heap → Nat → Prop} (h0 : AW P pa (fun st => post (resV ts st.τ) st.h st.n) [.code c] (st0 args h n)) : HCalls P f args h n post :=
  ⟨⟨fn, c, hf, hb, hnm⟩, fun I M w cargs H ha => (calls_of_AW hm hf hb hr hok hl h0 H ha).mono fun e w' ⟨cv, st, I', M', he, hq, hv, hh, hx, hn, hfr⟩ => ⟨cv, _, I', M', st.h, st.n, he, hq, hv, hh, hx, hn, hfr⟩⟩

theorem HRel.zero {I : Imm} {w : World} (h : ∀ b o, I b = some o → w.heap[b]? = some o) : HRel I M0 (fun _ => none) 0 w :=
  ⟨h, fun _ _ => rfl, fun _ _ => rfl, fun i A sz hm => (by cases hm), fun i j A sz B sz' hm => (by cases hm)⟩

/-- What a run must answer. -/
def Ret (ts : List Tmp) (v : AV) (st : ASt) : Prop := (frz st.h (resV ts st.τ)).le v

/-- A contract on values alone. -/
theorem pcalls_of_AW {pa : List Tmp} {f : FuncId} {fn : Func} {c : Code} {ts : List Tmp} (hm : P.follows .mixedOrders = true) (hf : P.funcs[f]? = some fn) (hb : fn.body = some c) (hr : fn.results = (ts.map .tmp).toArray) (hnm : (fn.name == "runtime.NumGoroutine") = false) (hok : codeOk fn.ntmps c = true)
    {args : List AV} (hl : args.length ≤ fn.ntmps) {v : AV} (h0 : AW P pa (Ret ts v) [.code c] (st0 args (fun _ => none) 0)) : PCalls P f args v :=
  ⟨⟨fn, c, hf, hb, hnm⟩, fun I w cargs himm ha => (calls_of_AW hm hf hb hr hok hl h0 (.zero himm) ha).mono fun e w' ⟨cv, st, I', M', he, hq, hv, hh, hx, hn, hfr⟩ => by
    obtain ⟨J, j1, j2, j3, j4⟩ := frz_all hh
    have hnl : ∀ b, ¬ Live M0 b := fun b ⟨i, A, sz, hm, _⟩ => by cases hm
    refine ⟨cv, J, he, hx.imm.trans j1, j2, hq J cv (j4 hv), ⟨hx.os, hx.tape, hx.output, hx.size, fun b hb' => hx.keep b hb' (hnl b)⟩, fun b hb' hI => ?_⟩
    rw [j3 b fun hl => (hx.newL b hl).elim (hnl b) fun h' => by omega]
    exact hx.newI b hb' hI (hnl b)⟩

theorem PCalls.le {f : FuncId} {args : List AV} {v u : AV} (h : PCalls P f args v) (hv : v.le u) : PCalls P f args u :=
  ⟨h.1, fun I w cargs hi ha => (h.2 I w cargs hi ha).mono fun e w' ⟨cv, I', h1, h2, h3, h4, h5⟩ => ⟨cv, I', h1, h2, h3, hv _ _ h4, h5⟩⟩
end
end Go.Ab

set_option linter.unusedVariables false
set_option linter.unusedSimpArgs false
set_option maxRecDepth 10000
namespace Go.Ab

section
variable {P : Program} {pa : List Tmp} {Q : ASt → Prop} {k : List Item} {st : ASt} {ops : Array Oper} {K : ASt → Prop}

theorem putT_same (τ : Nat → AV) (d : Nat) (v : AV) : putT τ (some d) v d = v := by simp [putT]
theorem putT_ne (τ : Nat → AV) (d t : Nat) (v : AV) (h : t ≠ d) : putT τ (some d) v t = τ t := by simp [putT, h]
theorem frzτ_app (ids : List Nat) (h : Heap) (τ : Nat → AV) (t : Nat) : frzτ ids h τ t = frzT ids h (τ t) := rfl
theorem putT_none (τ : Nat → AV) (v : AV) : putT τ none v = τ := rfl
theorem updH_nil (h : Heap) : updH h [] = h := rfl
theorem updH_cons (h : Heap) (i : Nat) (b : Option Blk) (r : List (Nat × Option Blk)) : updH h ((i, b) :: r) = updH (upd1 h i b) r := rfl
theorem upd1_same (h : Heap) (i : Nat) (b : Option Blk) : upd1 h i b i = b := by simp [upd1]
theorem upd1_ne (h : Heap) (i j : Nat) (b : Option Blk) (hne : j ≠ i) : upd1 h i b j = h j := by simp [upd1, hne]
/-- A block that was there already is none of those that the call itself has made since. -/
theorem upd1_old (h : Heap) (n i j : Nat) (b : Option Blk) (hj : j < n) : upd1 h (n + i) b j = h j := by simp only [upd1]; rw [if_neg (by omega)]

theorem AW_true {c : Operand} {a b : Code} (h : aev st.τ c = .bool true) : AW P pa Q (.code (.cond c a b) :: k) st = AW P pa Q (.code a :: k) st := by rw [AW_cond, h]; simp
theorem AW_false {c : Operand} {a b : Code} (h : aev st.τ c = .bool false) : AW P pa Q (.code (.cond c a b) :: k) st = AW P pa Q (.code b :: k) st := by rw [AW_cond, h]; simp
/-- A test that is not decided: both ways. -/
theorem AW_ite {c : Operand} {a b : Code} {t : Bool} (h : aev st.τ c = .bool t) (h1 : t = true → AW P pa Q (.code a :: k) st) (h2 : t = false → AW P pa Q (.code b :: k) st) : AW P pa Q (.code (.cond c a b) :: k) st := by
  rw [AW_cond, h]; exact ⟨h1, h2⟩

def waitsL (i : Nat) : List Edge → Bool
  | [] => false
  | e :: r => (Region.binds .any e && e.on == i) || waitsL i r
theorem waitsB_list (i : Nat) (o : Oper) : waitsB i o = waitsL i o.after.toList := by
  unfold waitsB
  rw [← Array.any_toList]
  induction o.after.toList with
  | nil => rfl
  | cons e r ih => simp only [List.any_cons, waitsL, ih]
theorem disj_nil (b : List Nat) : disj [] b = True := by simp [disj]
theorem disj_cons (x : Nat) (a b : List Nat) : disj (x :: a) b = (x ∉ b ∧ disj a b) := by simp [disj]
theorem old_ne {b n : Nat} (h : b < n) (k : Nat) : (b = n + k) = False := eq_false (by omega)
theorem old_ne0 {b n : Nat} (h : b < n) : (b = n) = False := eq_false (by omega)
theorem new_ne {b n : Nat} (h : b < n) (k : Nat) : (n + k = b) = False := eq_false (by omega)
theorem new_ne0 {b n : Nat} (h : b < n) : (n = b) = False := eq_false (by omega)
theorem binds_data (i : Nat) : Region.binds .any { on := i, ground := .data } = true := rfl
theorem binds_chain (i : Nat) : Region.binds .any { on := i, ground := .chain } = true := rfl
theorem binds_guard (i : Nat) : Region.binds .any { on := i, ground := .guard } = true := rfl
theorem binds_phase (i : Nat) : Region.binds .any { on := i, ground := .phase } = true := rfl

/-! ### Statement by statement -/
def callS (P : Program) (pa : List Tmp) (ops : Array Oper) (o : Oper) (rest : List Oper) (slot : Nat) (st : ASt) (K : ASt → Prop) (f : FuncId) (args pargs : List AV) (ids : List Nat) : Prop :=
  (callK P f args st fun v h' n' => SWalk P pa ops rest (slot + 1) { τ := putT st.τ o.dst v, h := h', n := n' } K) ∨
    ∃ v, PCalls P f (args.map (frz2 st.h)) v ∧ SWalk P pa ops rest (slot + 1) (frzSt (args.flatMap ids2) st o.dst v) K

def SW1 (P : Program) (pa : List Tmp) (ops : Array Oper) (o : Oper) (rest : List Oper) (slot : Nat) (st : ASt) (K : ASt → Prop) : Option Bool → Option Did → Prop
  | some true, some (.out out) => SWalk P pa ops rest (slot + 1) (app st o out) K
  | some true, some (.call f args) => callS P pa ops o rest slot st K f args (args.map (frz2 st.h)) (args.flatMap ids2)
  | some false, _ => SWalk P pa ops rest (slot + 1) (app st o skipOut) K
  | _, _ => False

theorem SW1_out {o : Oper} {rest : List Oper} {slot : Nat} {out : Out} : SW1 P pa ops o rest slot st K (some true) (some (.out out)) = SWalk P pa ops rest (slot + 1) (app st o out) K := rfl
theorem SW1_call {o : Oper} {rest : List Oper} {slot : Nat} {f : FuncId} {args : List AV} : SW1 P pa ops o rest slot st K (some true) (some (.call f args)) = callS P pa ops o rest slot st K f args (args.map (frz2 st.h)) (args.flatMap ids2) := rfl
theorem SW1_skip {o : Oper} {rest : List Oper} {slot : Nat} {d : Option Did} : SW1 P pa ops o rest slot st K (some false) d = SWalk P pa ops rest (slot + 1) (app st o skipOut) K := rfl
theorem SWalk_nil {slot : Nat} : SWalk P pa ops [] slot st K = K st := rfl
theorem SWalk_cons {o : Oper} {rest : List Oper} {slot : Nat} : SWalk P pa ops (o :: rest) slot st K = SW1 P pa ops o rest slot st K (awant ops o st.τ) (aop P (isPure pa o) o.op slot (aev st.τ) st.h) := by
  simp only [SWalk]
  cases awant ops o st.τ with
  | none => rfl
  | some b => cases b with
    | false => simp only [SW1]
    | true => cases aop P (isPure pa o) o.op slot (aev st.τ) st.h with
      | none => rfl
      | some d => cases d <;> rfl

theorem callS_p {o : Oper} {rest : List Oper} {slot : Nat} {f : FuncId} {args pargs : List AV} {ids : List Nat} {v : AV} (hP : PCalls P f pargs v)
    (hk : SWalk P pa ops rest (slot + 1) (app st o (callOut v ids)) K) (ha : args.map (frz2 st.h) = pargs := by first | rfl | (simp only [go_sem]; done)) (hi : args.flatMap ids2 = ids := by first | rfl | (simp only [go_sem]; done)) : callS P pa ops o rest slot st K f args pargs ids := by
  subst ha; subst hi
  exact .inl (.inl ⟨v, hP, hk⟩)
/-- A call, after which its arguments are only read. -/
theorem callS_f {o : Oper} {rest : List Oper} {slot : Nat} {f : FuncId} {args pargs : List AV} {ids : List Nat} {v : AV} (hP : PCalls P f pargs v)
    (hk : SWalk P pa ops rest (slot + 1) (frzSt ids st o.dst v) K) (ha : args.map (frz2 st.h) = pargs := by first | rfl | (simp only [go_sem]; done)) (hi : args.flatMap ids2 = ids := by first | rfl | (simp only [go_sem]; done)) : callS P pa ops o rest slot st K f args pargs ids := by
  subst ha; subst hi
  exact .inr ⟨v, hP, hk⟩
/-- As 'callS_p', the arguments' values given apart. -/
theorem callS_q {o : Oper} {rest : List Oper} {slot : Nat} {f : FuncId} {args pargs pargs' : List AV} {ids ids' : List Nat} {v : AV} (hP : PCalls P f pargs' v) (ha : args.map (frz2 st.h) = pargs') (hi : args.flatMap ids2 = ids')
    (hk : SWalk P pa ops rest (slot + 1) (app st o (callOut v ids')) K) : callS P pa ops o rest slot st K f args pargs ids := by
  subst ha; subst hi
  exact .inl (.inl ⟨v, hP, hk⟩)
theorem callS_h {o : Oper} {rest : List Oper} {slot : Nat} {f : FuncId} {args pargs : List AV} {ids : List Nat} {post : AV → Heap → Nat → Prop} (hH : HCalls P f args st.h st.n post)
    (hk : ∀ v h' n', st.n ≤ n' → post v h' n' → SWalk P pa ops rest (slot + 1) { τ := putT st.τ o.dst v, h := h', n := n' } K) : callS P pa ops o rest slot st K f args pargs ids :=
  .inl (.inr ⟨post, hH, hk⟩)

def callD (P : Program) (pa : List Tmp) (ops : Array Oper) (o : Oper) (rest : List Oper) (i slot : Nat) (st : ASt) (log : List (Nat × Out)) (K : ASt → Prop) (f : FuncId) (pargs : List AV) (ids : List Nat) : Prop :=
  ∃ v, PCalls P f pargs v ∧ (if hotB (callOut v ids) then logOk log o (callOut v ids) else True) ∧
    DWalk P pa ops rest (i + 1) (slot + 1) (app st o (callOut v ids)) (if hotB (callOut v ids) then (i, callOut v ids) :: log else log) K

def logIf (b : Bool) (i : Nat) (out : Out) (log : List (Nat × Out)) : List (Nat × Out) := if b then (i, out) :: log else log
def okIf (b : Bool) (log : List (Nat × Out)) (o : Oper) (out : Out) : Prop := if b then logOk log o out else True
theorem logIf_true (i : Nat) (out : Out) (log : List (Nat × Out)) : logIf true i out log = (i, out) :: log := rfl
theorem logIf_false (i : Nat) (out : Out) (log : List (Nat × Out)) : logIf false i out log = log := rfl
theorem okIf_true (log : List (Nat × Out)) (o : Oper) (out : Out) : okIf true log o out = logOk log o out := rfl
theorem okIf_false (log : List (Nat × Out)) (o : Oper) (out : Out) : okIf false log o out = True := rfl

def DW1 (P : Program) (pa : List Tmp) (ops : Array Oper) (o : Oper) (rest : List Oper) (i slot : Nat) (st : ASt) (log : List (Nat × Out)) (K : ASt → Prop) : Option Bool → Option Did → Prop
  | some true, some (.out out) => okIf (hotB out) log o out ∧ DWalk P pa ops rest (i + 1) (slot + 1) (app st o out) (logIf (hotB out) i out log) K
  | some true, some (.call f args) => callD P pa ops o rest i slot st log K f (args.map (frz2 st.h)) (args.flatMap ids2)
  | some false, _ => DWalk P pa ops rest (i + 1) (slot + 1) (app st o skipOut) log K
  | _, _ => False

theorem DW1_out {o : Oper} {rest : List Oper} {i slot : Nat} {log : List (Nat × Out)} {out : Out} : DW1 P pa ops o rest i slot st log K (some true) (some (.out out)) = (okIf (hotB out) log o out ∧ DWalk P pa ops rest (i + 1) (slot + 1) (app st o out) (logIf (hotB out) i out log) K) := rfl
theorem DW1_call {o : Oper} {rest : List Oper} {i slot : Nat} {log : List (Nat × Out)} {f : FuncId} {args : List AV} : DW1 P pa ops o rest i slot st log K (some true) (some (.call f args)) = callD P pa ops o rest i slot st log K f (args.map (frz2 st.h)) (args.flatMap ids2) := rfl
theorem DW1_skip {o : Oper} {rest : List Oper} {i slot : Nat} {log : List (Nat × Out)} {d : Option Did} : DW1 P pa ops o rest i slot st log K (some false) d = DWalk P pa ops rest (i + 1) (slot + 1) (app st o skipOut) log K := rfl
theorem DWalk_nil {i slot : Nat} {log : List (Nat × Out)} : DWalk P pa ops [] i slot st log K = K st := rfl
theorem DWalk_cons {o : Oper} {rest : List Oper} {i slot : Nat} {log : List (Nat × Out)} : DWalk P pa ops (o :: rest) i slot st log K = DW1 P pa ops o rest i slot st log K (awant ops o st.τ) (aop P (isPure pa o) o.op slot (aev st.τ) st.h) := by
  simp only [DWalk]
  cases awant ops o st.τ with
  | none => rfl
  | some b => cases b with
    | false => simp only [DW1]
    | true => cases aop P (isPure pa o) o.op slot (aev st.τ) st.h with
      | none => rfl
      | some d => cases d <;> rfl

theorem callD_p {o : Oper} {rest : List Oper} {i slot : Nat} {log : List (Nat × Out)} {f : FuncId} {pargs : List AV} {ids : List Nat} {v : AV} (hP : PCalls P f pargs v)
    (hk : okIf (hotB (callOut v ids)) log o (callOut v ids) ∧ DWalk P pa ops rest (i + 1) (slot + 1) (app st o (callOut v ids)) (logIf (hotB (callOut v ids)) i (callOut v ids) log) K) : callD P pa ops o rest i slot st log K f pargs ids :=
  ⟨v, hP, hk.1, hk.2⟩

theorem ARegion_true : ARegion P pa ops true st K = DWalk P pa ops ops.toList 0 st.n { st with n := st.n + ops.size } [] K := rfl
theorem ARegion_false : ARegion P pa ops false st K = SWalk P pa ops ops.toList st.n { st with n := st.n + ops.size } K := rfl

theorem isPure_none (pa : List Tmp) (o : Oper) (h : o.dst = none) : isPure pa o = false := by unfold isPure; rw [h]
theorem isPure_some (pa : List Tmp) (o : Oper) : isPure pa o = (match o.dst with | some d => pa.contains d | none => false) := rfl
theorem isPure_nil (o : Oper) : isPure [] o = false := by unfold isPure; cases o.dst <;> rfl
end

def orI (k : IntKind) (x y : Int) : Int := k.wrap (BitVec.ofInt k.bits x ||| BitVec.ofInt k.bits y).toNat
def andI (k : IntKind) (x y : Int) : Int := k.wrap (BitVec.ofInt k.bits x &&& BitVec.ofInt k.bits y).toNat
section
variable (k : IntKind) (x y : Int)
theorem abi_add : abinInt .add k x y = some (.int k (k.wrap (x + y))) := rfl
theorem abi_sub : abinInt .sub k x y = some (.int k (k.wrap (x - y))) := rfl
theorem abi_mul : abinInt .mul k x y = some (.int k (k.wrap (x * y))) := rfl
theorem abi_quo : abinInt .quo k x y = if y = 0 then none else some (.int k (k.wrap (x.tdiv y))) := rfl
theorem abi_rem : abinInt .rem k x y = if y = 0 then none else some (.int k (x.tmod y)) := rfl
theorem abi_and : abinInt .and k x y = some (.int k (andI k x y)) := rfl
theorem abi_or : abinInt .or k x y = some (.int k (orI k x y)) := rfl
theorem abi_xor : abinInt .xor k x y = some (.int k (k.wrap (BitVec.ofInt k.bits x ^^^ BitVec.ofInt k.bits y).toNat)) := rfl
theorem abi_andNot : abinInt .andNot k x y = some (.int k (k.wrap (BitVec.ofInt k.bits x &&& ~~~ (BitVec.ofInt k.bits y)).toNat)) := rfl
theorem abi_eql : abinInt .eql k x y = some (.bool (x == y)) := rfl
theorem abi_neq : abinInt .neq k x y = some (.bool (x != y)) := rfl
theorem abi_lss : abinInt .lss k x y = some (.bool (x < y)) := rfl
theorem abi_leq : abinInt .leq k x y = some (.bool (x ≤ y)) := rfl
theorem abi_gtr : abinInt .gtr k x y = some (.bool (x > y)) := rfl
theorem abi_geq : abinInt .geq k x y = some (.bool (x ≥ y)) := rfl
end

theorem aev_tmp (τ : Nat → AV) (t : Nat) : aev τ (.tmp t) = τ t := rfl
theorem aev_const (τ : Nat → AV) (v : Value) : aev τ (.const v) = absV v := rfl
theorem aev_func (τ : Nat → AV) (f : FuncId) : aev τ (.func f) = .func f [] := rfl

theorem getAs_false (n : Nat) (cs : List AV) : getAs false n cs = cs.head? := rfl
theorem getAs_true {n : Nat} {cs : List AV} (h : n ≤ cs.length) : getAs true n cs = some (.agg (cs.take n)) := by simp [getAs, h]

/-- A value's cells. -/
def cellsD (x : AV) : List AV := (x.cells?).getD []
theorem cellsD_app (x : AV) : cellsD x = (x.cells?).getD [] := rfl
theorem srcCells_nil (h : Heap) (e : Nat) : srcCells h e .nilsl = some ([], 0, []) := rfl
theorem srcCells_sl (h : Heap) (e s : Nat) (xs : List AV) : srcCells h e (.sl s xs) = if s = e then some (xs.flatMap cellsD, xs.length, []) else none := rfl
theorem srcCells_own (h : Heap) (e b off len s : Nat) : srcCells h e (.own b off len s) = (match h b with
    | some blk => if s = e ∧ off + len * e ≤ blk.length then some (cut blk off (len * e), len, [b]) else none
    | none => none) := rfl

/-- A flat struct's types, where its values may be held against each other. -/
def flatTs (P : Program) (t : TypeId) : Option (List TypeId) := match P.underlying t with
  | some (.struct fs) => if flatType P t fs then some (fs.toList.map (·.type)) else none
  | _ => none
def tyEq (P : Program) : List TypeId → List AV → List AV → Option Bool
  | [], [], [] => some true
  | t :: ts, x :: xs, y :: ys => match scEq P t x y, tyEq P ts xs ys with
    | some a, some b => some (a && b)
    | _, _ => none
  | _, _, _ => none
theorem flatEq_ty (P : Program) : ∀ (fs : List Field) (xs ys : List AV), flatEq P fs xs ys = tyEq P (fs.map (·.type)) xs ys
  | [], [], [] => rfl
  | [], [], _ :: _ => rfl
  | [], _ :: _, [] => rfl
  | [], _ :: _, _ :: _ => rfl
  | _ :: _, [], _ => rfl
  | _ :: _, _ :: _, [] => rfl
  | f :: fs, x :: xs, y :: ys => by
    simp only [flatEq, List.map_cons, tyEq, flatEq_ty P fs xs ys]
    rcases scEq P f.type x y with _ | a <;> rcases tyEq P (fs.map (·.type)) xs ys with _ | b <;> rfl
theorem aeq_agg (P : Program) (t : TypeId) (xs ys : List AV) : aeq P t (.agg xs) (.agg ys) = (match flatTs P t with | some ts => tyEq P ts xs ys | none => none) := by
  unfold aeq flatTs
  rcases hu : P.underlying t with _ | u
  · rfl
  · cases u with
    | struct fs =>
      simp only
      by_cases hf : flatType P t fs = true
      · rw [if_pos hf, if_pos hf]; exact flatEq_ty P _ _ _
      · rw [if_neg hf, if_neg hf]
    | _ => rfl
theorem aeq_bool (P : Program) (t : TypeId) (a b : Bool) : aeq P t (.bool a) (.bool b) = (match P.underlying t with | some .bool => some (a == b) | _ => none) := rfl
theorem aeq_nil_nil (P : Program) (t : TypeId) : aeq P t .nilsl .nilsl = (match P.underlying t with | some (.slice _) => some true | _ => none) := rfl
theorem aeq_own_nil (P : Program) (t : TypeId) (b o l e : Nat) : aeq P t (.own b o l e) .nilsl = (match P.underlying t with | some (.slice _) => some false | _ => none) := rfl
theorem aeq_sl_nil (P : Program) (t : TypeId) (e : Nat) (x : AV) (l : List AV) : aeq P t (.sl e (x :: l)) .nilsl = (match P.underlying t with | some (.slice _) => some false | _ => none) := rfl
theorem aeq_nilp (P : Program) (t : TypeId) : aeq P t .nilp .nilp = (match P.underlying t with | some (.pointer _) => some true | _ => none) := rfl
theorem aeq_ptr (P : Program) (t : TypeId) (b o : Nat) : aeq P t (.ptr b o) .nilp = (match P.underlying t with | some (.pointer _) => some false | _ => none) := rfl
theorem aeq_tptr (P : Program) (t : TypeId) (b k : Nat) (u : TypeId) : aeq P t (.tptr b k u) .nilp = (match P.underlying t with | some (.pointer _) => some false | _ => none) := rfl
theorem aeq_bsl (P : Program) (t : TypeId) (b l : Nat) (u : TypeId) : aeq P t (.bsl b l u) .nilsl = (match P.underlying t with | some (.slice _) => some false | _ => none) := rfl
theorem aeq_pp (P : Program) (t : TypeId) (cs : List AV) : aeq P t (.pp cs) .nilp = (match P.underlying t with | some (.pointer _) => some false | _ => none) := rfl

theorem wrap64_id {x : Int} (h0 : -9223372036854775808 ≤ x) (h1 : x ≤ 9223372036854775807) : IntKind.i64.wrap x = x := by
  unfold IntKind.wrap
  simp only [show IntKind.i64.bits = 64 from rfl, show IntKind.i64.signed = true from rfl, Bool.true_and, decide_eq_true_eq]
  split <;> omega
theorem wrapu32_id {x : Int} (h0 : 0 ≤ x) (h1 : x < 4294967296) : IntKind.u32.wrap x = x := by
  unfold IntKind.wrap
  simp only [show IntKind.u32.bits = 32 from rfl, show IntKind.u32.signed = false from rfl, Bool.false_and, Bool.false_eq_true, if_false]
  omega
theorem wrapu64_id {x : Int} (h0 : 0 ≤ x) (h1 : x < 18446744073709551616) : IntKind.u64.wrap x = x := by
  unfold IntKind.wrap
  simp only [show IntKind.u64.bits = 64 from rfl, show IntKind.u64.signed = false from rfl, Bool.false_and, Bool.false_eq_true, if_false]
  omega

theorem getD_map_lt {α : Type} (f : α → AV) (l : List α) (i : Nat) (d : AV) (h : i < l.length) : (l.map f).getD i d = f l[i] := by simp [List.getD, h]
theorem cast0 : ((0 : Nat) : Int) = 0 := rfl
theorem cast1 : ((1 : Nat) : Int) = 1 := rfl
theorem cast2 : ((2 : Nat) : Int) = 2 := rfl
theorem toNat_cast (i : Nat) : ((i : Int)).toNat = i := rfl

theorem Ret.mk {ts : List Tmp} {v : AV} {st : ASt} (h : frz st.h (resV ts st.τ) = v) : Ret ts v st := AV.le_of_eq h

section
variable (h : Heap)
theorem frz1_int (k : IntKind) (n : Int) : frz1 h (.int k n) = .int k n := rfl
theorem frz1_bool (b : Bool) : frz1 h (.bool b) = .bool b := rfl
theorem frz1_str (s : ByteArray) : frz1 h (.str s) = .str s := rfl
theorem frz1_nilsl : frz1 h .nilsl = .nilsl := rfl
theorem frz1_sl (e : Nat) (l : List AV) : frz1 h (.sl e l) = .sl e l := rfl
theorem frz1_ifc (t : TypeId) (x : AV) : frz1 h (.ifc t x) = .opq := rfl
theorem frz1_ptr (b o : Nat) : frz1 h (.ptr b o) = .opq := rfl
theorem frz1_opq : frz1 h .opq = .opq := rfl
theorem frz2_ptr (b o : Nat) : frz2 h (.ptr b o) = .opq := rfl
theorem frz2_opq : frz2 h .opq = .opq := rfl
theorem frz1_nilp : frz1 h .nilp = .nilp := rfl
theorem frz2_nilp : frz2 h .nilp = .nilp := rfl
theorem frz1_pp (l : List AV) : frz1 h (.pp l) = .pp l := rfl
theorem frz1_own (b off len e : Nat) : frz1 h (.own b off len e) = (match h b with
    | some blk => if off + len * e ≤ blk.length ∧ 0 < e ∧ (cut blk off (len * e)).all (·.flat1) then .sl e (chunk e len (cut blk off (len * e))) else .undef
    | none => .undef) := rfl
theorem frz2_int (k : IntKind) (n : Int) : frz2 h (.int k n) = .int k n := rfl
theorem frz2_bool (b : Bool) : frz2 h (.bool b) = .bool b := rfl
theorem frz2_str (s : ByteArray) : frz2 h (.str s) = .str s := rfl
theorem frz2_nilsl : frz2 h .nilsl = .nilsl := rfl
theorem frz2_sl (e : Nat) (l : List AV) : frz2 h (.sl e l) = .sl e l := rfl
theorem frz2_pp (l : List AV) : frz2 h (.pp l) = .pp l := rfl
theorem frz2_own (b off len e : Nat) : frz2 h (.own b off len e) = frz1 h (.own b off len e) := rfl
theorem frz2_agg (cs : List AV) : frz2 h (.agg cs) = .agg (cs.map (frz1 h)) := rfl
theorem frz_int (k : IntKind) (n : Int) : frz h (.int k n) = .int k n := rfl
theorem frz_bool (b : Bool) : frz h (.bool b) = .bool b := rfl
theorem frz_str (s : ByteArray) : frz h (.str s) = .str s := rfl
theorem frz_nilsl : frz h .nilsl = .nilsl := rfl
theorem frz_sl (e : Nat) (l : List AV) : frz h (.sl e l) = .sl e l := rfl
theorem frz_own (b off len e : Nat) : frz h (.own b off len e) = frz1 h (.own b off len e) := rfl
theorem frz_agg (cs : List AV) : frz h (.agg cs) = .agg (cs.map (frz1 h)) := rfl
theorem frz_tup (cs : List AV) : frz h (.tup cs) = .tup (cs.map (frz2 h)) := rfl
end

attribute [go_sem] frz1_ptr frz1_opq frz2_ptr frz2_opq frz1_nilp frz2_nilp frz1_int frz1_bool frz1_str frz1_nilsl frz1_sl frz1_pp frz1_own frz2_int frz2_bool frz2_str frz2_nilsl frz2_sl frz2_pp frz2_own frz2_agg frz_int frz_bool frz_str frz_nilsl frz_sl frz_own frz_agg frz_tup
attribute [go_sem] frzSt frzτ_app frzT frzT1 putT_same putT_ne putT_none updH_nil updH_cons upd1_same upd1_ne AW_true AW_false AW_seq AW_skip AW_block AW_exit AW_ret AW_inBlock AW_scope AW_label AW_inScope AW_nil AW_region ARegion_true ARegion_false
  SWalk_nil SWalk_cons SW1_out SW1_call SW1_skip DWalk_nil DWalk_cons DW1_out DW1_call DW1_skip logIf_true logIf_false okIf_true okIf_false isPure_nil isPure_some List.contains_cons aev_tmp aev_const aev_func aop awant app skipOut absV absV.abs1 pureOut exitTo
  hotB outOk disj_nil disj_cons logOk waitsB_list waitsL binds_data binds_chain binds_guard binds_phase callOut ids1 ids2 AV.scalar AV.scal2 AV.scal1 AV.flat1 AV.single AV.cells?
  aload astore aint abinH asliceH aappendS aunsafeString abin abi_add abi_sub abi_mul abi_quo abi_rem abi_and abi_or abi_xor abi_andNot abi_eql abi_neq abi_lss abi_leq abi_gtr abi_geq aslice afieldAddr apart afield aindexAddr aindex afill places abuild abuildSlice repCells amake cellsD_app srcCells_nil srcCells_sl srcCells_own aappend acopy alen abuiltin aconvert amax2 amin2 aun lay cut chunk scEq tyEq aeq_agg aeq_bool aeq_nil_nil aeq_own_nil aeq_sl_nil aeq_nilp aeq_ptr aeq_pp aeq_tptr aeq_bsl resV st0
  getAs_false getAs_true
  Option.bind_some Option.bind_none Option.map_some Option.map_none List.map_cons List.map_nil List.flatMap_cons List.flatMap_nil List.append_nil List.nil_append List.cons_append List.size_toArray List.length_cons List.length_nil List.length_map
  List.getElem?_toArray List.getElem?_cons_zero List.getElem?_cons_succ List.getElem?_nil List.head?_cons List.head?_nil List.headD_cons List.drop_zero List.drop_succ_cons List.drop_nil List.take_succ_cons List.take_zero List.take_nil List.all_cons List.all_nil List.isEmpty_nil List.isEmpty_cons
  List.toList_toArray List.getD_cons_zero List.getD_cons_succ List.getD_nil List.mem_cons List.not_mem_nil List.foldlM_cons List.foldlM_nil List.mapM_cons List.mapM_nil Option.pure_def Option.bind_eq_bind List.contains_nil
  Nat.zero_add Nat.add_zero Nat.mul_one Nat.one_mul Nat.zero_mul Nat.le_refl Nat.zero_le Nat.succ_ne_zero Int.toNat_natCast Int.natCast_nonneg Nat.add_assoc Nat.add_left_cancel_iff Nat.add_eq_left Nat.left_eq_add Nat.sub_zero
  beq_self_eq_true bne_self_eq_false beq_true beq_false ge_iff_le gt_iff_lt Bool.not_true Bool.not_false Bool.and_true Bool.true_and Bool.and_false Bool.false_and Bool.or_true Bool.true_or Bool.or_false Bool.false_or Bool.and_self Bool.or_self Bool.false_eq_true Bool.true_eq_false
  if_true if_false ite_true ite_false and_true true_and and_self and_false false_and or_true true_or or_false false_or or_self not_true not_false_eq_true true_implies false_implies implies_true forall_const forall_eq ne_eq decide_true decide_false decide_eq_true_eq eq_self

/- Literals are reckoned by the same rewriting. -/
attribute [go_sem] Nat.reduceAdd Nat.reduceMul Nat.reduceSub Nat.reduceBEq Nat.reduceEqDiff Nat.reduceLeDiff Nat.reduceLT Int.reduceLT Int.reduceLE Int.reduceGE Int.reduceGT Int.reduceEq Int.reduceBEq Int.reduceNeg Int.reduceToNat reduceCtorEq Nat.reducePow Int.reducePow
end Go.Ab

namespace Go.Proofs.YtdbmdaefmlflaaaGreatDoor
open Go.Ab
theorem follows_mixed : Tryz.prog.follows .mixedOrders = true := by kernel_rfl
theorem ts_2 : tsize Tryz.prog 2 = some 1 := by kernel_rfl
theorem tb_2 : tbytes Tryz.prog 2 = some 8 := by kernel_rfl
theorem tg_2 : tagg Tryz.prog 2 = some false := by kernel_rfl
theorem tz_2 : zcells Tryz.prog 2 = some [.int .i64 0] := by kernel_rfl
theorem bl_2 : isBld Tryz.prog 2 = false := by kernel_rfl
theorem ts_3 : tsize Tryz.prog 3 = some 1 := by kernel_rfl
theorem tb_3 : tbytes Tryz.prog 3 = some 8 := by kernel_rfl
theorem tg_3 : tagg Tryz.prog 3 = some false := by kernel_rfl
theorem tz_3 : zcells Tryz.prog 3 = some [.int .i64 0] := by kernel_rfl
theorem bl_3 : isBld Tryz.prog 3 = false := by kernel_rfl
theorem ts_4 : tsize Tryz.prog 4 = some 1 := by kernel_rfl
theorem tb_4 : tbytes Tryz.prog 4 = some 1 := by kernel_rfl
theorem tg_4 : tagg Tryz.prog 4 = some false := by kernel_rfl
theorem tz_4 : zcells Tryz.prog 4 = some [.bool false] := by kernel_rfl
theorem bl_4 : isBld Tryz.prog 4 = false := by kernel_rfl
theorem ts_5 : tsize Tryz.prog 5 = some 1 := by kernel_rfl
theorem tb_5 : tbytes Tryz.prog 5 = some 1 := by kernel_rfl
theorem tg_5 : tagg Tryz.prog 5 = some false := by kernel_rfl
theorem tz_5 : zcells Tryz.prog 5 = some [.int .u8 0] := by kernel_rfl
theorem bl_5 : isBld Tryz.prog 5 = false := by kernel_rfl
theorem iu_5 : isU8 Tryz.prog 5 = true := by kernel_rfl
theorem ro_5 : rowOk Tryz.prog 5 = true := by kernel_rfl
theorem ts_9 : tsize Tryz.prog 9 = some 1 := by kernel_rfl
theorem tb_9 : tbytes Tryz.prog 9 = some 16 := by kernel_rfl
theorem tg_9 : tagg Tryz.prog 9 = some false := by kernel_rfl
theorem tz_9 : zcells Tryz.prog 9 = some [.str ⟨#[]⟩] := by kernel_rfl
theorem bl_9 : isBld Tryz.prog 9 = false := by kernel_rfl
theorem ts_12 : tsize Tryz.prog 12 = some 1 := by kernel_rfl
theorem tb_12 : tbytes Tryz.prog 12 = some 8 := by kernel_rfl
theorem tg_12 : tagg Tryz.prog 12 = some false := by kernel_rfl
theorem tz_12 : zcells Tryz.prog 12 = some [.int .u64 0] := by kernel_rfl
theorem bl_12 : isBld Tryz.prog 12 = false := by kernel_rfl
theorem ts_13 : tsize Tryz.prog 13 = some 2 := by kernel_rfl
theorem tb_13 : tbytes Tryz.prog 13 = some 24 := by kernel_rfl
theorem tg_13 : tagg Tryz.prog 13 = some true := by kernel_rfl
theorem tz_13 : zcells Tryz.prog 13 = some [.str ⟨#[]⟩, .int .u64 0] := by kernel_rfl
theorem bl_13 : isBld Tryz.prog 13 = false := by kernel_rfl
theorem ts_19 : tsize Tryz.prog 19 = some 1 := by kernel_rfl
theorem tb_19 : tbytes Tryz.prog 19 = some 8 := by kernel_rfl
theorem tg_19 : tagg Tryz.prog 19 = some true := by kernel_rfl
theorem tz_19 : zcells Tryz.prog 19 = some [.nilp] := by kernel_rfl
theorem bl_19 : isBld Tryz.prog 19 = false := by kernel_rfl
theorem ts_21 : tsize Tryz.prog 21 = some 1 := by kernel_rfl
theorem tb_21 : tbytes Tryz.prog 21 = some 4 := by kernel_rfl
theorem tg_21 : tagg Tryz.prog 21 = some false := by kernel_rfl
theorem tz_21 : zcells Tryz.prog 21 = some [.int .i32 0] := by kernel_rfl
theorem bl_21 : isBld Tryz.prog 21 = false := by kernel_rfl
theorem ts_22 : tsize Tryz.prog 22 = some 1 := by kernel_rfl
theorem tb_22 : tbytes Tryz.prog 22 = some 24 := by kernel_rfl
theorem tg_22 : tagg Tryz.prog 22 = some false := by kernel_rfl
theorem tz_22 : zcells Tryz.prog 22 = some [.nilsl] := by kernel_rfl
theorem te_22 : telem Tryz.prog 22 = some 55 := by kernel_rfl
theorem bl_22 : isBld Tryz.prog 22 = false := by kernel_rfl
theorem ts_23 : tsize Tryz.prog 23 = some 1 := by kernel_rfl
theorem tb_23 : tbytes Tryz.prog 23 = some 24 := by kernel_rfl
theorem tg_23 : tagg Tryz.prog 23 = some false := by kernel_rfl
theorem tz_23 : zcells Tryz.prog 23 = some [.nilsl] := by kernel_rfl
theorem te_23 : telem Tryz.prog 23 = some 3 := by kernel_rfl
theorem bl_23 : isBld Tryz.prog 23 = false := by kernel_rfl
theorem ts_24 : tsize Tryz.prog 24 = some 4 := by kernel_rfl
theorem tb_24 : tbytes Tryz.prog 24 = some 64 := by kernel_rfl
theorem tg_24 : tagg Tryz.prog 24 = some true := by kernel_rfl
theorem tz_24 : zcells Tryz.prog 24 = some [.nilsl, .nilsl, .int .i64 0, .int .i64 0] := by kernel_rfl
theorem bl_24 : isBld Tryz.prog 24 = false := by kernel_rfl
theorem ts_25 : tsize Tryz.prog 25 = some 4 := by kernel_rfl
theorem tb_25 : tbytes Tryz.prog 25 = some 64 := by kernel_rfl
theorem tg_25 : tagg Tryz.prog 25 = some true := by kernel_rfl
theorem tz_25 : zcells Tryz.prog 25 = some [.nilsl, .nilsl, .int .i64 0, .int .i64 0] := by kernel_rfl
theorem bl_25 : isBld Tryz.prog 25 = false := by kernel_rfl
theorem ts_26 : tsize Tryz.prog 26 = some 1 := by kernel_rfl
theorem tb_26 : tbytes Tryz.prog 26 = some 24 := by kernel_rfl
theorem tg_26 : tagg Tryz.prog 26 = some false := by kernel_rfl
theorem tz_26 : zcells Tryz.prog 26 = some [.nilsl] := by kernel_rfl
theorem te_26 : telem Tryz.prog 26 = some 92 := by kernel_rfl
theorem bl_26 : isBld Tryz.prog 26 = false := by kernel_rfl
theorem ts_27 : tsize Tryz.prog 27 = some 3 := by kernel_rfl
theorem tb_27 : tbytes Tryz.prog 27 = some 56 := by kernel_rfl
theorem tg_27 : tagg Tryz.prog 27 = some true := by kernel_rfl
theorem tz_27 : zcells Tryz.prog 27 = some [.bool false, .nilsl, .nilsl] := by kernel_rfl
theorem bl_27 : isBld Tryz.prog 27 = false := by kernel_rfl
theorem ts_28 : tsize Tryz.prog 28 = some 3 := by kernel_rfl
theorem tb_28 : tbytes Tryz.prog 28 = some 56 := by kernel_rfl
theorem tg_28 : tagg Tryz.prog 28 = some true := by kernel_rfl
theorem tz_28 : zcells Tryz.prog 28 = some [.bool false, .nilsl, .nilsl] := by kernel_rfl
theorem bl_28 : isBld Tryz.prog 28 = false := by kernel_rfl
theorem ts_29 : tsize Tryz.prog 29 = some 1 := by kernel_rfl
theorem tb_29 : tbytes Tryz.prog 29 = some 24 := by kernel_rfl
theorem tg_29 : tagg Tryz.prog 29 = some false := by kernel_rfl
theorem tz_29 : zcells Tryz.prog 29 = some [.nilsl] := by kernel_rfl
theorem te_29 : telem Tryz.prog 29 = some 28 := by kernel_rfl
theorem bl_29 : isBld Tryz.prog 29 = false := by kernel_rfl
theorem ts_30 : tsize Tryz.prog 30 = some 5 := by kernel_rfl
theorem tb_30 : tbytes Tryz.prog 30 = some 104 := by kernel_rfl
theorem tg_30 : tagg Tryz.prog 30 = some true := by kernel_rfl
theorem tz_30 : zcells Tryz.prog 30 = some [.bool false, .nilsl, .nilsl, .nilsl, .nilsl] := by kernel_rfl
theorem bl_30 : isBld Tryz.prog 30 = false := by kernel_rfl
theorem ts_31 : tsize Tryz.prog 31 = some 5 := by kernel_rfl
theorem tb_31 : tbytes Tryz.prog 31 = some 104 := by kernel_rfl
theorem tg_31 : tagg Tryz.prog 31 = some true := by kernel_rfl
theorem tz_31 : zcells Tryz.prog 31 = some [.bool false, .nilsl, .nilsl, .nilsl, .nilsl] := by kernel_rfl
theorem bl_31 : isBld Tryz.prog 31 = false := by kernel_rfl
theorem ts_35 : tsize Tryz.prog 35 = some 1 := by kernel_rfl
theorem tb_35 : tbytes Tryz.prog 35 = some 24 := by kernel_rfl
theorem tg_35 : tagg Tryz.prog 35 = some false := by kernel_rfl
theorem tz_35 : zcells Tryz.prog 35 = some [.nilsl] := by kernel_rfl
theorem te_35 : telem Tryz.prog 35 = some 58 := by kernel_rfl
theorem bl_35 : isBld Tryz.prog 35 = false := by kernel_rfl
theorem ts_36 : tsize Tryz.prog 36 = some 4 := by kernel_rfl
theorem tb_36 : tbytes Tryz.prog 36 = some 64 := by kernel_rfl
theorem tg_36 : tagg Tryz.prog 36 = some true := by kernel_rfl
theorem tz_36 : zcells Tryz.prog 36 = some [.nilsl, .nilsl, .int .i64 0, .int .i64 0] := by kernel_rfl
theorem bl_36 : isBld Tryz.prog 36 = false := by kernel_rfl
theorem ts_37 : tsize Tryz.prog 37 = some 4 := by kernel_rfl
theorem tb_37 : tbytes Tryz.prog 37 = some 64 := by kernel_rfl
theorem tg_37 : tagg Tryz.prog 37 = some true := by kernel_rfl
theorem tz_37 : zcells Tryz.prog 37 = some [.nilsl, .nilsl, .int .i64 0, .int .i64 0] := by kernel_rfl
theorem bl_37 : isBld Tryz.prog 37 = false := by kernel_rfl
theorem ts_39 : tsize Tryz.prog 39 = some 2 := by kernel_rfl
theorem tb_39 : tbytes Tryz.prog 39 = some 32 := by kernel_rfl
theorem tg_39 : tagg Tryz.prog 39 = some true := by kernel_rfl
theorem tz_39 : zcells Tryz.prog 39 = some [.bool false, .nilsl] := by kernel_rfl
theorem bl_39 : isBld Tryz.prog 39 = false := by kernel_rfl
theorem ts_40 : tsize Tryz.prog 40 = some 2 := by kernel_rfl
theorem tb_40 : tbytes Tryz.prog 40 = some 32 := by kernel_rfl
theorem tg_40 : tagg Tryz.prog 40 = some true := by kernel_rfl
theorem tz_40 : zcells Tryz.prog 40 = some [.bool false, .nilsl] := by kernel_rfl
theorem bl_40 : isBld Tryz.prog 40 = false := by kernel_rfl
theorem ts_41 : tsize Tryz.prog 41 = some 3 := by kernel_rfl
theorem tb_41 : tbytes Tryz.prog 41 = some 56 := by kernel_rfl
theorem tg_41 : tagg Tryz.prog 41 = some true := by kernel_rfl
theorem tz_41 : zcells Tryz.prog 41 = some [.bool false, .nilsl, .nilsl] := by kernel_rfl
theorem bl_41 : isBld Tryz.prog 41 = false := by kernel_rfl
theorem ts_42 : tsize Tryz.prog 42 = some 3 := by kernel_rfl
theorem tb_42 : tbytes Tryz.prog 42 = some 56 := by kernel_rfl
theorem tg_42 : tagg Tryz.prog 42 = some true := by kernel_rfl
theorem tz_42 : zcells Tryz.prog 42 = some [.bool false, .nilsl, .nilsl] := by kernel_rfl
theorem bl_42 : isBld Tryz.prog 42 = false := by kernel_rfl
theorem ts_43 : tsize Tryz.prog 43 = some 1 := by kernel_rfl
theorem tb_43 : tbytes Tryz.prog 43 = some 24 := by kernel_rfl
theorem tg_43 : tagg Tryz.prog 43 = some false := by kernel_rfl
theorem tz_43 : zcells Tryz.prog 43 = some [.nilsl] := by kernel_rfl
theorem te_43 : telem Tryz.prog 43 = some 42 := by kernel_rfl
theorem bl_43 : isBld Tryz.prog 43 = false := by kernel_rfl
theorem ts_44 : tsize Tryz.prog 44 = some 5 := by kernel_rfl
theorem tb_44 : tbytes Tryz.prog 44 = some 104 := by kernel_rfl
theorem tg_44 : tagg Tryz.prog 44 = some true := by kernel_rfl
theorem tz_44 : zcells Tryz.prog 44 = some [.bool false, .nilsl, .nilsl, .nilsl, .nilsl] := by kernel_rfl
theorem bl_44 : isBld Tryz.prog 44 = false := by kernel_rfl
theorem ts_45 : tsize Tryz.prog 45 = some 5 := by kernel_rfl
theorem tb_45 : tbytes Tryz.prog 45 = some 104 := by kernel_rfl
theorem tg_45 : tagg Tryz.prog 45 = some true := by kernel_rfl
theorem tz_45 : zcells Tryz.prog 45 = some [.bool false, .nilsl, .nilsl, .nilsl, .nilsl] := by kernel_rfl
theorem bl_45 : isBld Tryz.prog 45 = false := by kernel_rfl
theorem ts_47 : tsize Tryz.prog 47 = some 4 := by kernel_rfl
theorem tb_47 : tbytes Tryz.prog 47 = some 32 := by kernel_rfl
theorem tg_47 : tagg Tryz.prog 47 = some true := by kernel_rfl
theorem tz_47 : zcells Tryz.prog 47 = some [.int .i64 0, .int .i64 0, .int .i64 0, .int .i64 0] := by kernel_rfl
theorem bl_47 : isBld Tryz.prog 47 = false := by kernel_rfl
theorem ts_48 : tsize Tryz.prog 48 = some 4 := by kernel_rfl
theorem tb_48 : tbytes Tryz.prog 48 = some 32 := by kernel_rfl
theorem tg_48 : tagg Tryz.prog 48 = some true := by kernel_rfl
theorem tz_48 : zcells Tryz.prog 48 = some [.int .i64 0, .int .i64 0, .int .i64 0, .int .i64 0] := by kernel_rfl
theorem tf_48 : flatTs Tryz.prog 48 = some [3, 3, 3, 3] := by kernel_rfl
theorem bl_48 : isBld Tryz.prog 48 = false := by kernel_rfl
theorem ts_54 : tsize Tryz.prog 54 = some 6 := by kernel_rfl
theorem tb_54 : tbytes Tryz.prog 54 = some 80 := by kernel_rfl
theorem tg_54 : tagg Tryz.prog 54 = some true := by kernel_rfl
theorem tz_54 : zcells Tryz.prog 54 = some [.int .i64 0, .int .i64 0, .int .i64 0, .bool false, .nilsl, .nilsl] := by kernel_rfl
theorem bl_54 : isBld Tryz.prog 54 = false := by kernel_rfl
theorem ts_55 : tsize Tryz.prog 55 = some 6 := by kernel_rfl
theorem tb_55 : tbytes Tryz.prog 55 = some 80 := by kernel_rfl
theorem tg_55 : tagg Tryz.prog 55 = some true := by kernel_rfl
theorem tz_55 : zcells Tryz.prog 55 = some [.int .i64 0, .int .i64 0, .int .i64 0, .bool false, .nilsl, .nilsl] := by kernel_rfl
theorem bl_55 : isBld Tryz.prog 55 = false := by kernel_rfl
theorem ts_57 : tsize Tryz.prog 57 = some 6 := by kernel_rfl
theorem tb_57 : tbytes Tryz.prog 57 = some 80 := by kernel_rfl
theorem tg_57 : tagg Tryz.prog 57 = some true := by kernel_rfl
theorem tz_57 : zcells Tryz.prog 57 = some [.int .i64 0, .int .i64 0, .int .i64 0, .bool false, .nilsl, .nilsl] := by kernel_rfl
theorem bl_57 : isBld Tryz.prog 57 = false := by kernel_rfl
theorem ts_58 : tsize Tryz.prog 58 = some 6 := by kernel_rfl
theorem tb_58 : tbytes Tryz.prog 58 = some 80 := by kernel_rfl
theorem tg_58 : tagg Tryz.prog 58 = some true := by kernel_rfl
theorem tz_58 : zcells Tryz.prog 58 = some [.int .i64 0, .int .i64 0, .int .i64 0, .bool false, .nilsl, .nilsl] := by kernel_rfl
theorem bl_58 : isBld Tryz.prog 58 = false := by kernel_rfl
theorem ts_64 : tsize Tryz.prog 64 = some 1 := by kernel_rfl
theorem tb_64 : tbytes Tryz.prog 64 = some 8 := by kernel_rfl
theorem tg_64 : tagg Tryz.prog 64 = some false := by kernel_rfl
theorem tz_64 : zcells Tryz.prog 64 = some [.nilp] := by kernel_rfl
theorem bl_64 : isBld Tryz.prog 64 = false := by kernel_rfl
theorem pe_64 : pelem Tryz.prog 64 = some 84 := by kernel_rfl
theorem ts_66 : tsize Tryz.prog 66 = some 1 := by kernel_rfl
theorem tb_66 : tbytes Tryz.prog 66 = some 8 := by kernel_rfl
theorem tg_66 : tagg Tryz.prog 66 = some true := by kernel_rfl
theorem tz_66 : zcells Tryz.prog 66 = some [.nilp] := by kernel_rfl
theorem bl_66 : isBld Tryz.prog 66 = false := by kernel_rfl
theorem ts_67 : tsize Tryz.prog 67 = some 1 := by kernel_rfl
theorem tb_67 : tbytes Tryz.prog 67 = some 8 := by kernel_rfl
theorem tg_67 : tagg Tryz.prog 67 = some true := by kernel_rfl
theorem tz_67 : zcells Tryz.prog 67 = some [.nilp] := by kernel_rfl
theorem dp_Add_67 : dispatch Tryz.prog 67 "Add" = some 121 := by kernel_rfl
theorem dp_Fits_67 : dispatch Tryz.prog 67 "Fits" = some 122 := by kernel_rfl
theorem dp_Mul_67 : dispatch Tryz.prog 67 "Mul" = some 123 := by kernel_rfl
theorem dp_Neg_67 : dispatch Tryz.prog 67 "Neg" = some 124 := by kernel_rfl
theorem dp_Of_67 : dispatch Tryz.prog 67 "Of" = some 125 := by kernel_rfl
theorem dp_Pow_67 : dispatch Tryz.prog 67 "Pow" = some 126 := by kernel_rfl
theorem dp_Quo_67 : dispatch Tryz.prog 67 "Quo" = some 127 := by kernel_rfl
theorem dp_Sub_67 : dispatch Tryz.prog 67 "Sub" = some 128 := by kernel_rfl
theorem bl_67 : isBld Tryz.prog 67 = false := by kernel_rfl
theorem ts_68 : tsize Tryz.prog 68 = some 1 := by kernel_rfl
theorem tb_68 : tbytes Tryz.prog 68 = some 8 := by kernel_rfl
theorem tg_68 : tagg Tryz.prog 68 = some true := by kernel_rfl
theorem tz_68 : zcells Tryz.prog 68 = some [.nilp] := by kernel_rfl
theorem bl_68 : isBld Tryz.prog 68 = false := by kernel_rfl
theorem ts_69 : tsize Tryz.prog 69 = some 1 := by kernel_rfl
theorem tb_69 : tbytes Tryz.prog 69 = some 8 := by kernel_rfl
theorem tg_69 : tagg Tryz.prog 69 = some true := by kernel_rfl
theorem tz_69 : zcells Tryz.prog 69 = some [.nilp] := by kernel_rfl
theorem dp_Run_69 : dispatch Tryz.prog 69 "Run" = some 19 := by kernel_rfl
theorem bl_69 : isBld Tryz.prog 69 = false := by kernel_rfl
theorem ts_71 : tsize Tryz.prog 71 = some 5 := by kernel_rfl
theorem tb_71 : tbytes Tryz.prog 71 = some 104 := by kernel_rfl
theorem tg_71 : tagg Tryz.prog 71 = some true := by kernel_rfl
theorem tz_71 : zcells Tryz.prog 71 = some [.bool false, .nilsl, .nilsl, .nilsl, .nilsl] := by kernel_rfl
theorem bl_71 : isBld Tryz.prog 71 = false := by kernel_rfl
theorem ts_75 : tsize Tryz.prog 75 = some 1 := by kernel_rfl
theorem tb_75 : tbytes Tryz.prog 75 = some 8 := by kernel_rfl
theorem tg_75 : tagg Tryz.prog 75 = some false := by kernel_rfl
theorem tz_75 : zcells Tryz.prog 75 = some [.int .u64 0] := by kernel_rfl
theorem bl_75 : isBld Tryz.prog 75 = false := by kernel_rfl
theorem ts_76 : tsize Tryz.prog 76 = some 1 := by kernel_rfl
theorem tb_76 : tbytes Tryz.prog 76 = some 24 := by kernel_rfl
theorem tg_76 : tagg Tryz.prog 76 = some false := by kernel_rfl
theorem tz_76 : zcells Tryz.prog 76 = some [.nilsl] := by kernel_rfl
theorem te_76 : telem Tryz.prog 76 = some 9 := by kernel_rfl
theorem bl_76 : isBld Tryz.prog 76 = false := by kernel_rfl
theorem ts_81 : tsize Tryz.prog 81 = some 2 := by kernel_rfl
theorem tb_81 : tbytes Tryz.prog 81 = some 16 := by kernel_rfl
theorem tg_81 : tagg Tryz.prog 81 = some true := by kernel_rfl
theorem tz_81 : zcells Tryz.prog 81 = some [.int .i64 0, .int .i64 0] := by kernel_rfl
theorem bl_81 : isBld Tryz.prog 81 = false := by kernel_rfl
theorem ts_82 : tsize Tryz.prog 82 = some 2 := by kernel_rfl
theorem tb_82 : tbytes Tryz.prog 82 = some 16 := by kernel_rfl
theorem tg_82 : tagg Tryz.prog 82 = some true := by kernel_rfl
theorem tz_82 : zcells Tryz.prog 82 = some [.int .i64 0, .int .i64 0] := by kernel_rfl
theorem tf_82 : flatTs Tryz.prog 82 = some [3, 3] := by kernel_rfl
theorem bl_82 : isBld Tryz.prog 82 = false := by kernel_rfl
theorem ts_83 : tsize Tryz.prog 83 = some 3 := by kernel_rfl
theorem tb_83 : tbytes Tryz.prog 83 = some 24 := by kernel_rfl
theorem tg_83 : tagg Tryz.prog 83 = some true := by kernel_rfl
theorem tz_83 : zcells Tryz.prog 83 = some [.int .i64 0, .int .i64 0, .int .i64 0] := by kernel_rfl
theorem bl_83 : isBld Tryz.prog 83 = false := by kernel_rfl
theorem ts_84 : tsize Tryz.prog 84 = some 3 := by kernel_rfl
theorem tb_84 : tbytes Tryz.prog 84 = some 24 := by kernel_rfl
theorem tg_84 : tagg Tryz.prog 84 = some true := by kernel_rfl
theorem tz_84 : zcells Tryz.prog 84 = some [.int .i64 0, .int .i64 0, .int .i64 0] := by kernel_rfl
theorem bl_84 : isBld Tryz.prog 84 = false := by kernel_rfl
theorem ts_92 : tsize Tryz.prog 92 = some 1 := by kernel_rfl
theorem tb_92 : tbytes Tryz.prog 92 = some 4 := by kernel_rfl
theorem tg_92 : tagg Tryz.prog 92 = some false := by kernel_rfl
theorem tz_92 : zcells Tryz.prog 92 = some [.int .u32 0] := by kernel_rfl
theorem bl_92 : isBld Tryz.prog 92 = false := by kernel_rfl
theorem ts_93 : tsize Tryz.prog 93 = some 1 := by kernel_rfl
theorem tb_93 : tbytes Tryz.prog 93 = some 8 := by kernel_rfl
theorem tg_93 : tagg Tryz.prog 93 = some false := by kernel_rfl
theorem tz_93 : zcells Tryz.prog 93 = some [.int .u64 0] := by kernel_rfl
theorem bl_93 : isBld Tryz.prog 93 = false := by kernel_rfl
theorem ts_97 : tsize Tryz.prog 97 = some 1 := by kernel_rfl
theorem tb_97 : tbytes Tryz.prog 97 = some 8 := by kernel_rfl
theorem tg_97 : tagg Tryz.prog 97 = some false := by kernel_rfl
theorem tz_97 : zcells Tryz.prog 97 = some [.nilp] := by kernel_rfl
theorem bl_97 : isBld Tryz.prog 97 = false := by kernel_rfl
theorem pe_97 : pelem Tryz.prog 97 = some 100 := by kernel_rfl
theorem ts_98 : tsize Tryz.prog 98 = some 1 := by kernel_rfl
theorem tb_98 : tbytes Tryz.prog 98 = some 24 := by kernel_rfl
theorem tg_98 : tagg Tryz.prog 98 = some false := by kernel_rfl
theorem tz_98 : zcells Tryz.prog 98 = some [.nilsl] := by kernel_rfl
theorem te_98 : telem Tryz.prog 98 = some 5 := by kernel_rfl
theorem bl_98 : isBld Tryz.prog 98 = false := by kernel_rfl
theorem ts_99 : tsize Tryz.prog 99 = some 2 := by kernel_rfl
theorem tb_99 : tbytes Tryz.prog 99 = some 32 := by kernel_rfl
theorem tg_99 : tagg Tryz.prog 99 = some true := by kernel_rfl
theorem tz_99 : zcells Tryz.prog 99 = some [.nilp, .nilsl] := by kernel_rfl
theorem bl_99 : isBld Tryz.prog 99 = false := by kernel_rfl
theorem ts_100 : tsize Tryz.prog 100 = some 2 := by kernel_rfl
theorem tb_100 : tbytes Tryz.prog 100 = some 32 := by kernel_rfl
theorem tg_100 : tagg Tryz.prog 100 = some true := by kernel_rfl
theorem tz_100 : zcells Tryz.prog 100 = some [.nilp, .nilsl] := by kernel_rfl
theorem bl_100 : isBld Tryz.prog 100 = true := by kernel_rfl
theorem li_100 : liesB Tryz.prog 100 2 100 = true := by kernel_rfl
theorem ts_123 : tsize Tryz.prog 123 = some 1 := by kernel_rfl
theorem tb_123 : tbytes Tryz.prog 123 = some 8 := by kernel_rfl
theorem tg_123 : tagg Tryz.prog 123 = some false := by kernel_rfl
theorem tz_123 : zcells Tryz.prog 123 = some [.nilp] := by kernel_rfl
theorem bl_123 : isBld Tryz.prog 123 = false := by kernel_rfl
theorem pe_123 : pelem Tryz.prog 123 = some 5 := by kernel_rfl
theorem ts_132 : tsize Tryz.prog 132 = some 9 := by kernel_rfl
theorem tb_132 : tbytes Tryz.prog 132 = some 9 := by kernel_rfl
theorem tg_132 : tagg Tryz.prog 132 = some true := by kernel_rfl
theorem tz_132 : zcells Tryz.prog 132 = some [.int .u8 0, .int .u8 0, .int .u8 0, .int .u8 0, .int .u8 0, .int .u8 0, .int .u8 0, .int .u8 0, .int .u8 0] := by kernel_rfl
theorem bl_132 : isBld Tryz.prog 132 = false := by kernel_rfl
theorem ts_134 : tsize Tryz.prog 134 = some 256 := by kernel_rfl
theorem tb_134 : tbytes Tryz.prog 134 = some 256 := by kernel_rfl
theorem tg_134 : tagg Tryz.prog 134 = some true := by kernel_rfl
theorem tz_134 : zcells Tryz.prog 134 = some [.bool false, .bool false, .bool false, .bool false, .bool false, .bool false, .bool false, .bool false, .bool false, .bool false, .bool false, .bool false, .bool false, .bool false, .bool false, .bool false, .bool false, .bool false, .bool false, .bool false, .bool false, .bool false, .bool false, .bool false, .bool false, .bool false, .bool false, .bool false, .bool false, .bool false, .bool false, .bool false, .bool false, .bool false, .bool false, .bool false, .bool false, .bool false, .bool false, .bool false, .bool false, .bool false, .bool false, .bool false, .bool false, .bool false, .bool false, .bool false, .bool false, .bool false, .bool false, .bool false, .bool false, .bool false, .bool false, .bool false, .bool false, .bool false, .bool false, .bool false, .bool false, .bool false, .bool false, .bool false, .bool false, .bool false, .bool false, .bool false, .bool false, .bool false, .bool false, .bool false, .bool false, .bool false, .bool false, .bool false, .bool false, .bool false, .bool false, .bool false, .bool false, .bool false, .bool false, .bool false, .bool false, .bool false, .bool false, .bool false, .bool false, .bool false, .bool false, .bool false, .bool false, .bool false, .bool false, .bool false, .bool false, .bool false, .bool false, .bool false, .bool false, .bool false, .bool false, .bool false, .bool false, .bool false, .bool false, .bool false, .bool false, .bool false, .bool false, .bool false, .bool false, .bool false, .bool false, .bool false, .bool false, .bool false, .bool false, .bool false, .bool false, .bool false, .bool false, .bool false, .bool false, .bool false, .bool false, .bool false, .bool false, .bool false, .bool false, .bool false, .bool false, .bool false, .bool false, .bool false, .bool false, .bool false, .bool false, .bool false, .bool false, .bool false, .bool false, .bool false, .bool false, .bool false, .bool false, .bool false, .bool false, .bool false, .bool false, .bool false, .bool false, .bool false, .bool false, .bool false, .bool false, .bool false, .bool false, .bool false, .bool false, .bool false, .bool false, .bool false, .bool false, .bool false, .bool false, .bool false, .bool false, .bool false, .bool false, .bool false, .bool false, .bool false, .bool false, .bool false, .bool false, .bool false, .bool false, .bool false, .bool false, .bool false, .bool false, .bool false, .bool false, .bool false, .bool false, .bool false, .bool false, .bool false, .bool false, .bool false, .bool false, .bool false, .bool false, .bool false, .bool false, .bool false, .bool false, .bool false, .bool false, .bool false, .bool false, .bool false, .bool false, .bool false, .bool false, .bool false, .bool false, .bool false, .bool false, .bool false, .bool false, .bool false, .bool false, .bool false, .bool false, .bool false, .bool false, .bool false, .bool false, .bool false, .bool false, .bool false, .bool false, .bool false, .bool false, .bool false, .bool false, .bool false, .bool false, .bool false, .bool false, .bool false, .bool false, .bool false, .bool false, .bool false, .bool false, .bool false, .bool false, .bool false, .bool false, .bool false, .bool false, .bool false, .bool false, .bool false, .bool false, .bool false, .bool false, .bool false, .bool false, .bool false, .bool false, .bool false] := by kernel_rfl
theorem bl_134 : isBld Tryz.prog 134 = false := by kernel_rfl
theorem ts_135 : tsize Tryz.prog 135 = some 256 := by kernel_rfl
theorem tb_135 : tbytes Tryz.prog 135 = some 256 := by kernel_rfl
theorem tg_135 : tagg Tryz.prog 135 = some true := by kernel_rfl
theorem tz_135 : zcells Tryz.prog 135 = some [.bool false, .bool false, .bool false, .bool false, .bool false, .bool false, .bool false, .bool false, .bool false, .bool false, .bool false, .bool false, .bool false, .bool false, .bool false, .bool false, .bool false, .bool false, .bool false, .bool false, .bool false, .bool false, .bool false, .bool false, .bool false, .bool false, .bool false, .bool false, .bool false, .bool false, .bool false, .bool false, .bool false, .bool false, .bool false, .bool false, .bool false, .bool false, .bool false, .bool false, .bool false, .bool false, .bool false, .bool false, .bool false, .bool false, .bool false, .bool false, .bool false, .bool false, .bool false, .bool false, .bool false, .bool false, .bool false, .bool false, .bool false, .bool false, .bool false, .bool false, .bool false, .bool false, .bool false, .bool false, .bool false, .bool false, .bool false, .bool false, .bool false, .bool false, .bool false, .bool false, .bool false, .bool false, .bool false, .bool false, .bool false, .bool false, .bool false, .bool false, .bool false, .bool false, .bool false, .bool false, .bool false, .bool false, .bool false, .bool false, .bool false, .bool false, .bool false, .bool false, .bool false, .bool false, .bool false, .bool false, .bool false, .bool false, .bool false, .bool false, .bool false, .bool false, .bool false, .bool false, .bool false, .bool false, .bool false, .bool false, .bool false, .bool false, .bool false, .bool false, .bool false, .bool false, .bool false, .bool false, .bool false, .bool false, .bool false, .bool false, .bool false, .bool false, .bool false, .bool false, .bool false, .bool false, .bool false, .bool false, .bool false, .bool false, .bool false, .bool false, .bool false, .bool false, .bool false, .bool false, .bool false, .bool false, .bool false, .bool false, .bool false, .bool false, .bool false, .bool false, .bool false, .bool false, .bool false, .bool false, .bool false, .bool false, .bool false, .bool false, .bool false, .bool false, .bool false, .bool false, .bool false, .bool false, .bool false, .bool false, .bool false, .bool false, .bool false, .bool false, .bool false, .bool false, .bool false, .bool false, .bool false, .bool false, .bool false, .bool false, .bool false, .bool false, .bool false, .bool false, .bool false, .bool false, .bool false, .bool false, .bool false, .bool false, .bool false, .bool false, .bool false, .bool false, .bool false, .bool false, .bool false, .bool false, .bool false, .bool false, .bool false, .bool false, .bool false, .bool false, .bool false, .bool false, .bool false, .bool false, .bool false, .bool false, .bool false, .bool false, .bool false, .bool false, .bool false, .bool false, .bool false, .bool false, .bool false, .bool false, .bool false, .bool false, .bool false, .bool false, .bool false, .bool false, .bool false, .bool false, .bool false, .bool false, .bool false, .bool false, .bool false, .bool false, .bool false, .bool false, .bool false, .bool false, .bool false, .bool false, .bool false, .bool false, .bool false, .bool false, .bool false, .bool false, .bool false, .bool false, .bool false, .bool false, .bool false, .bool false, .bool false, .bool false, .bool false, .bool false, .bool false, .bool false, .bool false, .bool false, .bool false, .bool false, .bool false, .bool false] := by kernel_rfl
theorem bl_135 : isBld Tryz.prog 135 = false := by kernel_rfl
theorem ts_139 : tsize Tryz.prog 139 = some 1 := by kernel_rfl
theorem tb_139 : tbytes Tryz.prog 139 = some 8 := by kernel_rfl
theorem tg_139 : tagg Tryz.prog 139 = some false := by kernel_rfl
theorem tz_139 : zcells Tryz.prog 139 = some [.nilp] := by kernel_rfl
theorem bl_139 : isBld Tryz.prog 139 = false := by kernel_rfl
theorem pe_139 : pelem Tryz.prog 139 = some 135 := by kernel_rfl
theorem ts_146 : tsize Tryz.prog 146 = some 3 := by kernel_rfl
theorem tb_146 : tbytes Tryz.prog 146 = some 24 := by kernel_rfl
theorem tg_146 : tagg Tryz.prog 146 = some true := by kernel_rfl
theorem tz_146 : zcells Tryz.prog 146 = some [.int .i64 0, .int .i64 0, .int .i64 0] := by kernel_rfl
theorem bl_146 : isBld Tryz.prog 146 = false := by kernel_rfl
theorem ts_147 : tsize Tryz.prog 147 = some 3 := by kernel_rfl
theorem tb_147 : tbytes Tryz.prog 147 = some 24 := by kernel_rfl
theorem tg_147 : tagg Tryz.prog 147 = some true := by kernel_rfl
theorem tz_147 : zcells Tryz.prog 147 = some [.int .i64 0, .int .i64 0, .int .i64 0] := by kernel_rfl
theorem tf_147 : flatTs Tryz.prog 147 = some [3, 3, 3] := by kernel_rfl
theorem bl_147 : isBld Tryz.prog 147 = false := by kernel_rfl
theorem ts_167 : tsize Tryz.prog 167 = some 1 := by kernel_rfl
theorem tb_167 : tbytes Tryz.prog 167 = some 24 := by kernel_rfl
theorem tg_167 : tagg Tryz.prog 167 = some false := by kernel_rfl
theorem tz_167 : zcells Tryz.prog 167 = some [.nilsl] := by kernel_rfl
theorem te_167 : telem Tryz.prog 167 = some 26 := by kernel_rfl
theorem bl_167 : isBld Tryz.prog 167 = false := by kernel_rfl
theorem ts_172 : tsize Tryz.prog 172 = some 256 := by kernel_rfl
theorem tb_172 : tbytes Tryz.prog 172 = some 256 := by kernel_rfl
theorem tg_172 : tagg Tryz.prog 172 = some true := by kernel_rfl
theorem tz_172 : zcells Tryz.prog 172 = some [.int .u8 0, .int .u8 0, .int .u8 0, .int .u8 0, .int .u8 0, .int .u8 0, .int .u8 0, .int .u8 0, .int .u8 0, .int .u8 0, .int .u8 0, .int .u8 0, .int .u8 0, .int .u8 0, .int .u8 0, .int .u8 0, .int .u8 0, .int .u8 0, .int .u8 0, .int .u8 0, .int .u8 0, .int .u8 0, .int .u8 0, .int .u8 0, .int .u8 0, .int .u8 0, .int .u8 0, .int .u8 0, .int .u8 0, .int .u8 0, .int .u8 0, .int .u8 0, .int .u8 0, .int .u8 0, .int .u8 0, .int .u8 0, .int .u8 0, .int .u8 0, .int .u8 0, .int .u8 0, .int .u8 0, .int .u8 0, .int .u8 0, .int .u8 0, .int .u8 0, .int .u8 0, .int .u8 0, .int .u8 0, .int .u8 0, .int .u8 0, .int .u8 0, .int .u8 0, .int .u8 0, .int .u8 0, .int .u8 0, .int .u8 0, .int .u8 0, .int .u8 0, .int .u8 0, .int .u8 0, .int .u8 0, .int .u8 0, .int .u8 0, .int .u8 0, .int .u8 0, .int .u8 0, .int .u8 0, .int .u8 0, .int .u8 0, .int .u8 0, .int .u8 0, .int .u8 0, .int .u8 0, .int .u8 0, .int .u8 0, .int .u8 0, .int .u8 0, .int .u8 0, .int .u8 0, .int .u8 0, .int .u8 0, .int .u8 0, .int .u8 0, .int .u8 0, .int .u8 0, .int .u8 0, .int .u8 0, .int .u8 0, .int .u8 0, .int .u8 0, .int .u8 0, .int .u8 0, .int .u8 0, .int .u8 0, .int .u8 0, .int .u8 0, .int .u8 0, .int .u8 0, .int .u8 0, .int .u8 0, .int .u8 0, .int .u8 0, .int .u8 0, .int .u8 0, .int .u8 0, .int .u8 0, .int .u8 0, .int .u8 0, .int .u8 0, .int .u8 0, .int .u8 0, .int .u8 0, .int .u8 0, .int .u8 0, .int .u8 0, .int .u8 0, .int .u8 0, .int .u8 0, .int .u8 0, .int .u8 0, .int .u8 0, .int .u8 0, .int .u8 0, .int .u8 0, .int .u8 0, .int .u8 0, .int .u8 0, .int .u8 0, .int .u8 0, .int .u8 0, .int .u8 0, .int .u8 0, .int .u8 0, .int .u8 0, .int .u8 0, .int .u8 0, .int .u8 0, .int .u8 0, .int .u8 0, .int .u8 0, .int .u8 0, .int .u8 0, .int .u8 0, .int .u8 0, .int .u8 0, .int .u8 0, .int .u8 0, .int .u8 0, .int .u8 0, .int .u8 0, .int .u8 0, .int .u8 0, .int .u8 0, .int .u8 0, .int .u8 0, .int .u8 0, .int .u8 0, .int .u8 0, .int .u8 0, .int .u8 0, .int .u8 0, .int .u8 0, .int .u8 0, .int .u8 0, .int .u8 0, .int .u8 0, .int .u8 0, .int .u8 0, .int .u8 0, .int .u8 0, .int .u8 0, .int .u8 0, .int .u8 0, .int .u8 0, .int .u8 0, .int .u8 0, .int .u8 0, .int .u8 0, .int .u8 0, .int .u8 0, .int .u8 0, .int .u8 0, .int .u8 0, .int .u8 0, .int .u8 0, .int .u8 0, .int .u8 0, .int .u8 0, .int .u8 0, .int .u8 0, .int .u8 0, .int .u8 0, .int .u8 0, .int .u8 0, .int .u8 0, .int .u8 0, .int .u8 0, .int .u8 0, .int .u8 0, .int .u8 0, .int .u8 0, .int .u8 0, .int .u8 0, .int .u8 0, .int .u8 0, .int .u8 0, .int .u8 0, .int .u8 0, .int .u8 0, .int .u8 0, .int .u8 0, .int .u8 0, .int .u8 0, .int .u8 0, .int .u8 0, .int .u8 0, .int .u8 0, .int .u8 0, .int .u8 0, .int .u8 0, .int .u8 0, .int .u8 0, .int .u8 0, .int .u8 0, .int .u8 0, .int .u8 0, .int .u8 0, .int .u8 0, .int .u8 0, .int .u8 0, .int .u8 0, .int .u8 0, .int .u8 0, .int .u8 0, .int .u8 0, .int .u8 0, .int .u8 0, .int .u8 0, .int .u8 0, .int .u8 0, .int .u8 0, .int .u8 0, .int .u8 0, .int .u8 0, .int .u8 0, .int .u8 0, .int .u8 0, .int .u8 0, .int .u8 0, .int .u8 0, .int .u8 0, .int .u8 0, .int .u8 0, .int .u8 0, .int .u8 0, .int .u8 0] := by kernel_rfl
theorem bl_172 : isBld Tryz.prog 172 = false := by kernel_rfl
theorem ts_173 : tsize Tryz.prog 173 = some 2 := by kernel_rfl
theorem tb_173 : tbytes Tryz.prog 173 = some 2 := by kernel_rfl
theorem tg_173 : tagg Tryz.prog 173 = some true := by kernel_rfl
theorem tz_173 : zcells Tryz.prog 173 = some [.int .u8 0, .int .u8 0] := by kernel_rfl
theorem bl_173 : isBld Tryz.prog 173 = false := by kernel_rfl
theorem ts_174 : tsize Tryz.prog 174 = some 2 := by kernel_rfl
theorem tb_174 : tbytes Tryz.prog 174 = some 2 := by kernel_rfl
theorem tg_174 : tagg Tryz.prog 174 = some true := by kernel_rfl
theorem tz_174 : zcells Tryz.prog 174 = some [.int .u8 0, .int .u8 0] := by kernel_rfl
theorem tf_174 : flatTs Tryz.prog 174 = some [5, 5] := by kernel_rfl
theorem bl_174 : isBld Tryz.prog 174 = false := by kernel_rfl
theorem ts_175 : tsize Tryz.prog 175 = some 32 := by kernel_rfl
theorem tb_175 : tbytes Tryz.prog 175 = some 32 := by kernel_rfl
theorem tg_175 : tagg Tryz.prog 175 = some true := by kernel_rfl
theorem tz_175 : zcells Tryz.prog 175 = some [.int .u8 0, .int .u8 0, .int .u8 0, .int .u8 0, .int .u8 0, .int .u8 0, .int .u8 0, .int .u8 0, .int .u8 0, .int .u8 0, .int .u8 0, .int .u8 0, .int .u8 0, .int .u8 0, .int .u8 0, .int .u8 0, .int .u8 0, .int .u8 0, .int .u8 0, .int .u8 0, .int .u8 0, .int .u8 0, .int .u8 0, .int .u8 0, .int .u8 0, .int .u8 0, .int .u8 0, .int .u8 0, .int .u8 0, .int .u8 0, .int .u8 0, .int .u8 0] := by kernel_rfl
theorem bl_175 : isBld Tryz.prog 175 = false := by kernel_rfl
theorem ts_196 : tsize Tryz.prog 196 = some 1 := by kernel_rfl
theorem tb_196 : tbytes Tryz.prog 196 = some 8 := by kernel_rfl
theorem tg_196 : tagg Tryz.prog 196 = some false := by kernel_rfl
theorem tz_196 : zcells Tryz.prog 196 = some [.nilp] := by kernel_rfl
theorem bl_196 : isBld Tryz.prog 196 = false := by kernel_rfl
theorem pe_196 : pelem Tryz.prog 196 = some 82 := by kernel_rfl
theorem sm_0 : isSame Tryz.prog 0 = false := by kernel_rfl
theorem mk_0 : mkzT Tryz.prog 0 = none := by kernel_rfl
theorem sm_1 : isSame Tryz.prog 1 = false := by kernel_rfl
theorem mk_1 : mkzT Tryz.prog 1 = none := by kernel_rfl
theorem sm_2 : isSame Tryz.prog 2 = false := by kernel_rfl
theorem mk_2 : mkzT Tryz.prog 2 = none := by kernel_rfl
theorem sm_3 : isSame Tryz.prog 3 = false := by kernel_rfl
theorem mk_3 : mkzT Tryz.prog 3 = none := by kernel_rfl
theorem sm_4 : isSame Tryz.prog 4 = false := by kernel_rfl
theorem mk_4 : mkzT Tryz.prog 4 = none := by kernel_rfl
theorem sm_5 : isSame Tryz.prog 5 = false := by kernel_rfl
theorem mk_5 : mkzT Tryz.prog 5 = none := by kernel_rfl
theorem sm_6 : isSame Tryz.prog 6 = false := by kernel_rfl
theorem mk_6 : mkzT Tryz.prog 6 = none := by kernel_rfl
theorem sm_7 : isSame Tryz.prog 7 = false := by kernel_rfl
theorem mk_7 : mkzT Tryz.prog 7 = none := by kernel_rfl
theorem sm_8 : isSame Tryz.prog 8 = false := by kernel_rfl
theorem mk_8 : mkzT Tryz.prog 8 = none := by kernel_rfl
theorem sm_9 : isSame Tryz.prog 9 = false := by kernel_rfl
theorem mk_9 : mkzT Tryz.prog 9 = none := by kernel_rfl
theorem sm_10 : isSame Tryz.prog 10 = false := by kernel_rfl
theorem mk_10 : mkzT Tryz.prog 10 = none := by kernel_rfl
theorem sm_11 : isSame Tryz.prog 11 = false := by kernel_rfl
theorem mk_11 : mkzT Tryz.prog 11 = none := by kernel_rfl
theorem sm_12 : isSame Tryz.prog 12 = false := by kernel_rfl
theorem mk_12 : mkzT Tryz.prog 12 = none := by kernel_rfl
theorem sm_13 : isSame Tryz.prog 13 = false := by kernel_rfl
theorem mk_13 : mkzT Tryz.prog 13 = none := by kernel_rfl
theorem sm_14 : isSame Tryz.prog 14 = false := by kernel_rfl
theorem mk_14 : mkzT Tryz.prog 14 = none := by kernel_rfl
theorem sm_15 : isSame Tryz.prog 15 = false := by kernel_rfl
theorem mk_15 : mkzT Tryz.prog 15 = none := by kernel_rfl
theorem sm_16 : isSame Tryz.prog 16 = false := by kernel_rfl
theorem mk_16 : mkzT Tryz.prog 16 = none := by kernel_rfl
theorem sm_17 : isSame Tryz.prog 17 = false := by kernel_rfl
theorem mk_17 : mkzT Tryz.prog 17 = none := by kernel_rfl
theorem sm_18 : isSame Tryz.prog 18 = false := by kernel_rfl
theorem mk_18 : mkzT Tryz.prog 18 = none := by kernel_rfl
theorem sm_19 : isSame Tryz.prog 19 = false := by kernel_rfl
theorem mk_19 : mkzT Tryz.prog 19 = none := by kernel_rfl
theorem sm_20 : isSame Tryz.prog 20 = false := by kernel_rfl
theorem mk_20 : mkzT Tryz.prog 20 = none := by kernel_rfl
theorem sm_21 : isSame Tryz.prog 21 = false := by kernel_rfl
theorem mk_21 : mkzT Tryz.prog 21 = none := by kernel_rfl
theorem sm_22 : isSame Tryz.prog 22 = false := by kernel_rfl
theorem mk_22 : mkzT Tryz.prog 22 = none := by kernel_rfl
theorem sm_23 : isSame Tryz.prog 23 = false := by kernel_rfl
theorem mk_23 : mkzT Tryz.prog 23 = none := by kernel_rfl
theorem sm_24 : isSame Tryz.prog 24 = false := by kernel_rfl
theorem mk_24 : mkzT Tryz.prog 24 = none := by kernel_rfl
theorem sm_25 : isSame Tryz.prog 25 = false := by kernel_rfl
theorem mk_25 : mkzT Tryz.prog 25 = none := by kernel_rfl
theorem sm_26 : isSame Tryz.prog 26 = false := by kernel_rfl
theorem mk_26 : mkzT Tryz.prog 26 = none := by kernel_rfl
theorem sm_27 : isSame Tryz.prog 27 = false := by kernel_rfl
theorem mk_27 : mkzT Tryz.prog 27 = none := by kernel_rfl
theorem sm_28 : isSame Tryz.prog 28 = false := by kernel_rfl
theorem mk_28 : mkzT Tryz.prog 28 = none := by kernel_rfl
theorem sm_29 : isSame Tryz.prog 29 = false := by kernel_rfl
theorem mk_29 : mkzT Tryz.prog 29 = none := by kernel_rfl
theorem sm_30 : isSame Tryz.prog 30 = false := by kernel_rfl
theorem mk_30 : mkzT Tryz.prog 30 = none := by kernel_rfl
theorem sm_31 : isSame Tryz.prog 31 = false := by kernel_rfl
theorem mk_31 : mkzT Tryz.prog 31 = none := by kernel_rfl
theorem sm_32 : isSame Tryz.prog 32 = false := by kernel_rfl
theorem mk_32 : mkzT Tryz.prog 32 = none := by kernel_rfl
theorem sm_33 : isSame Tryz.prog 33 = false := by kernel_rfl
theorem mk_33 : mkzT Tryz.prog 33 = none := by kernel_rfl
theorem sm_34 : isSame Tryz.prog 34 = false := by kernel_rfl
theorem mk_34 : mkzT Tryz.prog 34 = none := by kernel_rfl
theorem sm_35 : isSame Tryz.prog 35 = false := by kernel_rfl
theorem mk_35 : mkzT Tryz.prog 35 = none := by kernel_rfl
theorem sm_36 : isSame Tryz.prog 36 = false := by kernel_rfl
theorem mk_36 : mkzT Tryz.prog 36 = none := by kernel_rfl
theorem sm_37 : isSame Tryz.prog 37 = false := by kernel_rfl
theorem mk_37 : mkzT Tryz.prog 37 = none := by kernel_rfl
theorem sm_38 : isSame Tryz.prog 38 = false := by kernel_rfl
theorem mk_38 : mkzT Tryz.prog 38 = none := by kernel_rfl
theorem sm_39 : isSame Tryz.prog 39 = false := by kernel_rfl
theorem mk_39 : mkzT Tryz.prog 39 = none := by kernel_rfl
theorem sm_40 : isSame Tryz.prog 40 = false := by kernel_rfl
theorem mk_40 : mkzT Tryz.prog 40 = none := by kernel_rfl
theorem sm_41 : isSame Tryz.prog 41 = false := by kernel_rfl
theorem mk_41 : mkzT Tryz.prog 41 = none := by kernel_rfl
theorem sm_42 : isSame Tryz.prog 42 = false := by kernel_rfl
theorem mk_42 : mkzT Tryz.prog 42 = none := by kernel_rfl
theorem sm_43 : isSame Tryz.prog 43 = false := by kernel_rfl
theorem mk_43 : mkzT Tryz.prog 43 = none := by kernel_rfl
theorem sm_44 : isSame Tryz.prog 44 = false := by kernel_rfl
theorem mk_44 : mkzT Tryz.prog 44 = none := by kernel_rfl
theorem sm_45 : isSame Tryz.prog 45 = false := by kernel_rfl
theorem mk_45 : mkzT Tryz.prog 45 = none := by kernel_rfl
theorem sm_46 : isSame Tryz.prog 46 = false := by kernel_rfl
theorem mk_46 : mkzT Tryz.prog 46 = none := by kernel_rfl
theorem sm_47 : isSame Tryz.prog 47 = false := by kernel_rfl
theorem mk_47 : mkzT Tryz.prog 47 = none := by kernel_rfl
theorem sm_48 : isSame Tryz.prog 48 = false := by kernel_rfl
theorem mk_48 : mkzT Tryz.prog 48 = none := by kernel_rfl
theorem sm_49 : isSame Tryz.prog 49 = false := by kernel_rfl
theorem mk_49 : mkzT Tryz.prog 49 = none := by kernel_rfl
theorem sm_50 : isSame Tryz.prog 50 = false := by kernel_rfl
theorem mk_50 : mkzT Tryz.prog 50 = none := by kernel_rfl
theorem sm_51 : isSame Tryz.prog 51 = false := by kernel_rfl
theorem mk_51 : mkzT Tryz.prog 51 = none := by kernel_rfl
theorem sm_52 : isSame Tryz.prog 52 = false := by kernel_rfl
theorem mk_52 : mkzT Tryz.prog 52 = none := by kernel_rfl
theorem sm_53 : isSame Tryz.prog 53 = false := by kernel_rfl
theorem mk_53 : mkzT Tryz.prog 53 = none := by kernel_rfl
theorem sm_54 : isSame Tryz.prog 54 = false := by kernel_rfl
theorem mk_54 : mkzT Tryz.prog 54 = none := by kernel_rfl
theorem sm_55 : isSame Tryz.prog 55 = false := by kernel_rfl
theorem mk_55 : mkzT Tryz.prog 55 = none := by kernel_rfl
theorem sm_56 : isSame Tryz.prog 56 = false := by kernel_rfl
theorem mk_56 : mkzT Tryz.prog 56 = none := by kernel_rfl
theorem sm_57 : isSame Tryz.prog 57 = false := by kernel_rfl
theorem mk_57 : mkzT Tryz.prog 57 = none := by kernel_rfl
theorem sm_58 : isSame Tryz.prog 58 = false := by kernel_rfl
theorem mk_58 : mkzT Tryz.prog 58 = none := by kernel_rfl
theorem sm_59 : isSame Tryz.prog 59 = false := by kernel_rfl
theorem mk_59 : mkzT Tryz.prog 59 = none := by kernel_rfl
theorem sm_60 : isSame Tryz.prog 60 = false := by kernel_rfl
theorem mk_60 : mkzT Tryz.prog 60 = none := by kernel_rfl
theorem sm_61 : isSame Tryz.prog 61 = false := by kernel_rfl
theorem mk_61 : mkzT Tryz.prog 61 = none := by kernel_rfl
theorem sm_62 : isSame Tryz.prog 62 = false := by kernel_rfl
theorem mk_62 : mkzT Tryz.prog 62 = none := by kernel_rfl
theorem sm_63 : isSame Tryz.prog 63 = false := by kernel_rfl
theorem mk_63 : mkzT Tryz.prog 63 = none := by kernel_rfl
theorem sm_64 : isSame Tryz.prog 64 = true := by kernel_rfl
theorem mk_64 : mkzT Tryz.prog 64 = none := by kernel_rfl
theorem sm_65 : isSame Tryz.prog 65 = false := by kernel_rfl
theorem mk_65 : mkzT Tryz.prog 65 = some 5 := by kernel_rfl
theorem sm_66 : isSame Tryz.prog 66 = false := by kernel_rfl
theorem mk_66 : mkzT Tryz.prog 66 = none := by kernel_rfl
theorem sm_67 : isSame Tryz.prog 67 = false := by kernel_rfl
theorem mk_67 : mkzT Tryz.prog 67 = none := by kernel_rfl
theorem sm_68 : isSame Tryz.prog 68 = false := by kernel_rfl
theorem mk_68 : mkzT Tryz.prog 68 = none := by kernel_rfl
theorem sm_69 : isSame Tryz.prog 69 = false := by kernel_rfl
theorem mk_69 : mkzT Tryz.prog 69 = none := by kernel_rfl
theorem sm_70 : isSame Tryz.prog 70 = false := by kernel_rfl
theorem mk_70 : mkzT Tryz.prog 70 = none := by kernel_rfl
theorem sm_71 : isSame Tryz.prog 71 = false := by kernel_rfl
theorem mk_71 : mkzT Tryz.prog 71 = none := by kernel_rfl
theorem sm_72 : isSame Tryz.prog 72 = false := by kernel_rfl
theorem mk_72 : mkzT Tryz.prog 72 = none := by kernel_rfl
theorem sm_73 : isSame Tryz.prog 73 = false := by kernel_rfl
theorem mk_73 : mkzT Tryz.prog 73 = none := by kernel_rfl
theorem sm_74 : isSame Tryz.prog 74 = false := by kernel_rfl
theorem mk_74 : mkzT Tryz.prog 74 = none := by kernel_rfl
theorem sm_75 : isSame Tryz.prog 75 = false := by kernel_rfl
theorem mk_75 : mkzT Tryz.prog 75 = none := by kernel_rfl
theorem sm_76 : isSame Tryz.prog 76 = false := by kernel_rfl
theorem mk_76 : mkzT Tryz.prog 76 = none := by kernel_rfl
theorem sm_77 : isSame Tryz.prog 77 = false := by kernel_rfl
theorem mk_77 : mkzT Tryz.prog 77 = none := by kernel_rfl
theorem sm_78 : isSame Tryz.prog 78 = false := by kernel_rfl
theorem mk_78 : mkzT Tryz.prog 78 = none := by kernel_rfl
theorem sm_79 : isSame Tryz.prog 79 = false := by kernel_rfl
theorem mk_79 : mkzT Tryz.prog 79 = none := by kernel_rfl
theorem sm_80 : isSame Tryz.prog 80 = false := by kernel_rfl
theorem mk_80 : mkzT Tryz.prog 80 = none := by kernel_rfl
theorem sm_81 : isSame Tryz.prog 81 = false := by kernel_rfl
theorem mk_81 : mkzT Tryz.prog 81 = none := by kernel_rfl
theorem sm_82 : isSame Tryz.prog 82 = false := by kernel_rfl
theorem mk_82 : mkzT Tryz.prog 82 = none := by kernel_rfl
theorem sm_83 : isSame Tryz.prog 83 = false := by kernel_rfl
theorem mk_83 : mkzT Tryz.prog 83 = none := by kernel_rfl
theorem sm_84 : isSame Tryz.prog 84 = false := by kernel_rfl
theorem mk_84 : mkzT Tryz.prog 84 = none := by kernel_rfl
theorem sm_85 : isSame Tryz.prog 85 = false := by kernel_rfl
theorem mk_85 : mkzT Tryz.prog 85 = none := by kernel_rfl
theorem sm_86 : isSame Tryz.prog 86 = false := by kernel_rfl
theorem mk_86 : mkzT Tryz.prog 86 = none := by kernel_rfl
theorem sm_87 : isSame Tryz.prog 87 = false := by kernel_rfl
theorem mk_87 : mkzT Tryz.prog 87 = none := by kernel_rfl
theorem sm_88 : isSame Tryz.prog 88 = false := by kernel_rfl
theorem mk_88 : mkzT Tryz.prog 88 = none := by kernel_rfl
theorem sm_89 : isSame Tryz.prog 89 = false := by kernel_rfl
theorem mk_89 : mkzT Tryz.prog 89 = none := by kernel_rfl
theorem sm_90 : isSame Tryz.prog 90 = false := by kernel_rfl
theorem mk_90 : mkzT Tryz.prog 90 = none := by kernel_rfl
theorem sm_91 : isSame Tryz.prog 91 = false := by kernel_rfl
theorem mk_91 : mkzT Tryz.prog 91 = none := by kernel_rfl
theorem sm_92 : isSame Tryz.prog 92 = false := by kernel_rfl
theorem mk_92 : mkzT Tryz.prog 92 = none := by kernel_rfl
theorem sm_93 : isSame Tryz.prog 93 = false := by kernel_rfl
theorem mk_93 : mkzT Tryz.prog 93 = none := by kernel_rfl
theorem sm_94 : isSame Tryz.prog 94 = false := by kernel_rfl
theorem mk_94 : mkzT Tryz.prog 94 = none := by kernel_rfl
theorem sm_95 : isSame Tryz.prog 95 = false := by kernel_rfl
theorem mk_95 : mkzT Tryz.prog 95 = none := by kernel_rfl
theorem sm_96 : isSame Tryz.prog 96 = false := by kernel_rfl
theorem mk_96 : mkzT Tryz.prog 96 = none := by kernel_rfl
theorem sm_97 : isSame Tryz.prog 97 = false := by kernel_rfl
theorem mk_97 : mkzT Tryz.prog 97 = none := by kernel_rfl
theorem sm_98 : isSame Tryz.prog 98 = false := by kernel_rfl
theorem mk_98 : mkzT Tryz.prog 98 = none := by kernel_rfl
theorem sm_99 : isSame Tryz.prog 99 = false := by kernel_rfl
theorem mk_99 : mkzT Tryz.prog 99 = none := by kernel_rfl
theorem sm_100 : isSame Tryz.prog 100 = false := by kernel_rfl
theorem mk_100 : mkzT Tryz.prog 100 = none := by kernel_rfl
theorem sm_101 : isSame Tryz.prog 101 = false := by kernel_rfl
theorem mk_101 : mkzT Tryz.prog 101 = none := by kernel_rfl
theorem sm_102 : isSame Tryz.prog 102 = false := by kernel_rfl
theorem mk_102 : mkzT Tryz.prog 102 = none := by kernel_rfl
theorem sm_103 : isSame Tryz.prog 103 = false := by kernel_rfl
theorem mk_103 : mkzT Tryz.prog 103 = none := by kernel_rfl
theorem sm_104 : isSame Tryz.prog 104 = false := by kernel_rfl
theorem mk_104 : mkzT Tryz.prog 104 = none := by kernel_rfl
theorem sm_105 : isSame Tryz.prog 105 = false := by kernel_rfl
theorem mk_105 : mkzT Tryz.prog 105 = none := by kernel_rfl
theorem sm_106 : isSame Tryz.prog 106 = false := by kernel_rfl
theorem mk_106 : mkzT Tryz.prog 106 = none := by kernel_rfl
theorem sm_107 : isSame Tryz.prog 107 = false := by kernel_rfl
theorem mk_107 : mkzT Tryz.prog 107 = none := by kernel_rfl
theorem sm_108 : isSame Tryz.prog 108 = false := by kernel_rfl
theorem mk_108 : mkzT Tryz.prog 108 = none := by kernel_rfl
theorem sm_109 : isSame Tryz.prog 109 = false := by kernel_rfl
theorem mk_109 : mkzT Tryz.prog 109 = none := by kernel_rfl
theorem sm_110 : isSame Tryz.prog 110 = false := by kernel_rfl
theorem mk_110 : mkzT Tryz.prog 110 = none := by kernel_rfl
theorem sm_111 : isSame Tryz.prog 111 = false := by kernel_rfl
theorem mk_111 : mkzT Tryz.prog 111 = none := by kernel_rfl
theorem sm_112 : isSame Tryz.prog 112 = false := by kernel_rfl
theorem mk_112 : mkzT Tryz.prog 112 = none := by kernel_rfl
theorem sm_113 : isSame Tryz.prog 113 = false := by kernel_rfl
theorem mk_113 : mkzT Tryz.prog 113 = none := by kernel_rfl
theorem sm_114 : isSame Tryz.prog 114 = false := by kernel_rfl
theorem mk_114 : mkzT Tryz.prog 114 = none := by kernel_rfl
theorem sm_115 : isSame Tryz.prog 115 = false := by kernel_rfl
theorem mk_115 : mkzT Tryz.prog 115 = none := by kernel_rfl
theorem sm_116 : isSame Tryz.prog 116 = false := by kernel_rfl
theorem mk_116 : mkzT Tryz.prog 116 = none := by kernel_rfl
theorem sm_117 : isSame Tryz.prog 117 = false := by kernel_rfl
theorem mk_117 : mkzT Tryz.prog 117 = none := by kernel_rfl
theorem sm_118 : isSame Tryz.prog 118 = false := by kernel_rfl
theorem mk_118 : mkzT Tryz.prog 118 = none := by kernel_rfl
theorem sm_119 : isSame Tryz.prog 119 = false := by kernel_rfl
theorem mk_119 : mkzT Tryz.prog 119 = none := by kernel_rfl
theorem sm_120 : isSame Tryz.prog 120 = false := by kernel_rfl
theorem mk_120 : mkzT Tryz.prog 120 = none := by kernel_rfl
theorem sm_121 : isSame Tryz.prog 121 = false := by kernel_rfl
theorem mk_121 : mkzT Tryz.prog 121 = none := by kernel_rfl
theorem sm_122 : isSame Tryz.prog 122 = false := by kernel_rfl
theorem mk_122 : mkzT Tryz.prog 122 = none := by kernel_rfl
theorem sm_123 : isSame Tryz.prog 123 = false := by kernel_rfl
theorem mk_123 : mkzT Tryz.prog 123 = none := by kernel_rfl
theorem sm_124 : isSame Tryz.prog 124 = false := by kernel_rfl
theorem mk_124 : mkzT Tryz.prog 124 = none := by kernel_rfl
theorem sm_125 : isSame Tryz.prog 125 = false := by kernel_rfl
theorem mk_125 : mkzT Tryz.prog 125 = none := by kernel_rfl
theorem sm_126 : isSame Tryz.prog 126 = false := by kernel_rfl
theorem mk_126 : mkzT Tryz.prog 126 = none := by kernel_rfl
theorem sm_127 : isSame Tryz.prog 127 = false := by kernel_rfl
theorem mk_127 : mkzT Tryz.prog 127 = none := by kernel_rfl
theorem sm_128 : isSame Tryz.prog 128 = false := by kernel_rfl
theorem mk_128 : mkzT Tryz.prog 128 = none := by kernel_rfl
theorem sm_129 : isSame Tryz.prog 129 = false := by kernel_rfl
theorem mk_129 : mkzT Tryz.prog 129 = none := by kernel_rfl
theorem sm_130 : isSame Tryz.prog 130 = false := by kernel_rfl
theorem mk_130 : mkzT Tryz.prog 130 = none := by kernel_rfl
theorem sm_131 : isSame Tryz.prog 131 = false := by kernel_rfl
theorem mk_131 : mkzT Tryz.prog 131 = none := by kernel_rfl
theorem sm_132 : isSame Tryz.prog 132 = false := by kernel_rfl
theorem mk_132 : mkzT Tryz.prog 132 = none := by kernel_rfl
theorem sm_133 : isSame Tryz.prog 133 = false := by kernel_rfl
theorem mk_133 : mkzT Tryz.prog 133 = none := by kernel_rfl
theorem sm_134 : isSame Tryz.prog 134 = false := by kernel_rfl
theorem mk_134 : mkzT Tryz.prog 134 = none := by kernel_rfl
theorem sm_135 : isSame Tryz.prog 135 = false := by kernel_rfl
theorem mk_135 : mkzT Tryz.prog 135 = none := by kernel_rfl
theorem sm_136 : isSame Tryz.prog 136 = false := by kernel_rfl
theorem mk_136 : mkzT Tryz.prog 136 = none := by kernel_rfl
theorem sm_137 : isSame Tryz.prog 137 = false := by kernel_rfl
theorem mk_137 : mkzT Tryz.prog 137 = none := by kernel_rfl
theorem sm_138 : isSame Tryz.prog 138 = false := by kernel_rfl
theorem mk_138 : mkzT Tryz.prog 138 = none := by kernel_rfl
theorem sm_139 : isSame Tryz.prog 139 = false := by kernel_rfl
theorem mk_139 : mkzT Tryz.prog 139 = none := by kernel_rfl
theorem sm_140 : isSame Tryz.prog 140 = false := by kernel_rfl
theorem mk_140 : mkzT Tryz.prog 140 = none := by kernel_rfl
theorem sm_141 : isSame Tryz.prog 141 = false := by kernel_rfl
theorem mk_141 : mkzT Tryz.prog 141 = none := by kernel_rfl
theorem sm_142 : isSame Tryz.prog 142 = false := by kernel_rfl
theorem mk_142 : mkzT Tryz.prog 142 = none := by kernel_rfl
theorem sm_143 : isSame Tryz.prog 143 = false := by kernel_rfl
theorem mk_143 : mkzT Tryz.prog 143 = none := by kernel_rfl
theorem sm_144 : isSame Tryz.prog 144 = false := by kernel_rfl
theorem mk_144 : mkzT Tryz.prog 144 = none := by kernel_rfl
theorem sm_145 : isSame Tryz.prog 145 = false := by kernel_rfl
theorem mk_145 : mkzT Tryz.prog 145 = none := by kernel_rfl
theorem sm_146 : isSame Tryz.prog 146 = false := by kernel_rfl
theorem mk_146 : mkzT Tryz.prog 146 = none := by kernel_rfl
theorem sm_147 : isSame Tryz.prog 147 = false := by kernel_rfl
theorem mk_147 : mkzT Tryz.prog 147 = none := by kernel_rfl
attribute [go_sem] ts_2 tb_2 tg_2 tz_2 bl_2 Tryz.underlying2 ts_3 tb_3 tg_3 tz_3 bl_3 Tryz.underlying3 ts_4 tb_4 tg_4 tz_4 bl_4 Tryz.underlying4 ts_5 tb_5 tg_5 tz_5 bl_5 iu_5 ro_5 Tryz.underlying5 ts_9 tb_9 tg_9 tz_9 bl_9 Tryz.underlying9 ts_12 tb_12 tg_12 tz_12 bl_12 Tryz.underlying12 ts_13 tb_13 tg_13 tz_13 bl_13 Tryz.underlying13 ts_19 tb_19 tg_19 tz_19 bl_19 Tryz.underlying19 ts_21 tb_21 tg_21 tz_21 bl_21 Tryz.underlying21 ts_22 tb_22 tg_22 tz_22 te_22 bl_22 Tryz.underlying22 ts_23 tb_23 tg_23 tz_23 te_23 bl_23 Tryz.underlying23 ts_24 tb_24 tg_24 tz_24 bl_24 Tryz.underlying24 ts_25 tb_25 tg_25 tz_25 bl_25 Tryz.underlying25 ts_26 tb_26 tg_26 tz_26 te_26 bl_26 Tryz.underlying26 ts_27 tb_27 tg_27 tz_27 bl_27 Tryz.underlying27 ts_28 tb_28 tg_28 tz_28 bl_28 Tryz.underlying28 ts_29 tb_29 tg_29 tz_29 te_29 bl_29 Tryz.underlying29 ts_30 tb_30 tg_30 tz_30 bl_30 Tryz.underlying30 ts_31 tb_31 tg_31 tz_31 bl_31 Tryz.underlying31 ts_35 tb_35 tg_35 tz_35 te_35 bl_35 Tryz.underlying35 ts_36 tb_36 tg_36 tz_36 bl_36 Tryz.underlying36 ts_37 tb_37 tg_37 tz_37 bl_37 Tryz.underlying37 ts_39 tb_39 tg_39 tz_39 bl_39 Tryz.underlying39 ts_40 tb_40 tg_40 tz_40 bl_40 Tryz.underlying40 ts_41 tb_41 tg_41 tz_41 bl_41 Tryz.underlying41 ts_42 tb_42 tg_42 tz_42 bl_42 Tryz.underlying42 ts_43 tb_43 tg_43 tz_43 te_43 bl_43 Tryz.underlying43 ts_44 tb_44 tg_44 tz_44 bl_44 Tryz.underlying44 ts_45 tb_45 tg_45 tz_45 bl_45 Tryz.underlying45 ts_47 tb_47 tg_47 tz_47 bl_47 Tryz.underlying47 ts_48 tb_48 tg_48 tz_48 tf_48 bl_48 Tryz.underlying48 ts_54 tb_54 tg_54 tz_54 bl_54 Tryz.underlying54 ts_55 tb_55 tg_55 tz_55 bl_55 Tryz.underlying55 ts_57 tb_57 tg_57 tz_57 bl_57 Tryz.underlying57 ts_58 tb_58 tg_58 tz_58 bl_58 Tryz.underlying58 ts_64 tb_64 tg_64 tz_64 bl_64 pe_64 Tryz.underlying64 ts_66 tb_66 tg_66 tz_66 bl_66 Tryz.underlying66 ts_67 tb_67 tg_67 tz_67 dp_Add_67 dp_Fits_67 dp_Mul_67 dp_Neg_67 dp_Of_67 dp_Pow_67 dp_Quo_67 dp_Sub_67 bl_67 Tryz.underlying67 ts_68 tb_68 tg_68 tz_68 bl_68 Tryz.underlying68 ts_69 tb_69 tg_69 tz_69 dp_Run_69 bl_69 Tryz.underlying69 ts_71 tb_71 tg_71 tz_71 bl_71 Tryz.underlying71 ts_75 tb_75 tg_75 tz_75 bl_75 Tryz.underlying75 ts_76 tb_76 tg_76 tz_76 te_76 bl_76 Tryz.underlying76 ts_81 tb_81 tg_81 tz_81 bl_81 Tryz.underlying81 ts_82 tb_82 tg_82 tz_82 tf_82 bl_82 Tryz.underlying82 ts_83 tb_83 tg_83 tz_83 bl_83 Tryz.underlying83 ts_84 tb_84 tg_84 tz_84 bl_84 Tryz.underlying84 ts_92 tb_92 tg_92 tz_92 bl_92 Tryz.underlying92 ts_93 tb_93 tg_93 tz_93 bl_93 Tryz.underlying93 ts_97 tb_97 tg_97 tz_97 bl_97 pe_97 Tryz.underlying97 ts_98 tb_98 tg_98 tz_98 te_98 bl_98 Tryz.underlying98 ts_99 tb_99 tg_99 tz_99 bl_99 Tryz.underlying99 ts_100 tb_100 tg_100 tz_100 bl_100 li_100 Tryz.underlying100 ts_123 tb_123 tg_123 tz_123 bl_123 pe_123 Tryz.underlying123 ts_132 tb_132 tg_132 tz_132 bl_132 Tryz.underlying132 ts_134 tb_134 tg_134 tz_134 bl_134 Tryz.underlying134 ts_135 tb_135 tg_135 tz_135 bl_135 Tryz.underlying135 ts_139 tb_139 tg_139 tz_139 bl_139 pe_139 Tryz.underlying139 ts_146 tb_146 tg_146 tz_146 bl_146 Tryz.underlying146 ts_147 tb_147 tg_147 tz_147 tf_147 bl_147 Tryz.underlying147 ts_167 tb_167 tg_167 tz_167 te_167 bl_167 Tryz.underlying167 ts_172 tb_172 tg_172 tz_172 bl_172 Tryz.underlying172 ts_173 tb_173 tg_173 tz_173 bl_173 Tryz.underlying173 ts_174 tb_174 tg_174 tz_174 tf_174 bl_174 Tryz.underlying174 ts_175 tb_175 tg_175 tz_175 bl_175 Tryz.underlying175 ts_196 tb_196 tg_196 tz_196 bl_196 pe_196 Tryz.underlying196 Tryz.underlying140 sm_0 mk_0 sm_1 mk_1 sm_2 mk_2 sm_3 mk_3 sm_4 mk_4 sm_5 mk_5 sm_6 mk_6 sm_7 mk_7 sm_8 mk_8 sm_9 mk_9 sm_10 mk_10 sm_11 mk_11 sm_12 mk_12 sm_13 mk_13 sm_14 mk_14 sm_15 mk_15 sm_16 mk_16 sm_17 mk_17 sm_18 mk_18 sm_19 mk_19 sm_20 mk_20 sm_21 mk_21 sm_22 mk_22 sm_23 mk_23 sm_24 mk_24 sm_25 mk_25 sm_26 mk_26 sm_27 mk_27 sm_28 mk_28 sm_29 mk_29 sm_30 mk_30 sm_31 mk_31 sm_32 mk_32 sm_33 mk_33 sm_34 mk_34 sm_35 mk_35 sm_36 mk_36 sm_37 mk_37 sm_38 mk_38 sm_39 mk_39 sm_40 mk_40 sm_41 mk_41 sm_42 mk_42 sm_43 mk_43 sm_44 mk_44 sm_45 mk_45 sm_46 mk_46 sm_47 mk_47 sm_48 mk_48 sm_49 mk_49 sm_50 mk_50 sm_51 mk_51 sm_52 mk_52 sm_53 mk_53 sm_54 mk_54 sm_55 mk_55 sm_56 mk_56 sm_57 mk_57 sm_58 mk_58 sm_59 mk_59 sm_60 mk_60 sm_61 mk_61 sm_62 mk_62 sm_63 mk_63 sm_64 mk_64 sm_65 mk_65 sm_66 mk_66 sm_67 mk_67 sm_68 mk_68 sm_69 mk_69 sm_70 mk_70 sm_71 mk_71 sm_72 mk_72 sm_73 mk_73 sm_74 mk_74 sm_75 mk_75 sm_76 mk_76 sm_77 mk_77 sm_78 mk_78 sm_79 mk_79 sm_80 mk_80 sm_81 mk_81 sm_82 mk_82 sm_83 mk_83 sm_84 mk_84 sm_85 mk_85 sm_86 mk_86 sm_87 mk_87 sm_88 mk_88 sm_89 mk_89 sm_90 mk_90 sm_91 mk_91 sm_92 mk_92 sm_93 mk_93 sm_94 mk_94 sm_95 mk_95 sm_96 mk_96 sm_97 mk_97 sm_98 mk_98 sm_99 mk_99 sm_100 mk_100 sm_101 mk_101 sm_102 mk_102 sm_103 mk_103 sm_104 mk_104 sm_105 mk_105 sm_106 mk_106 sm_107 mk_107 sm_108 mk_108 sm_109 mk_109 sm_110 mk_110 sm_111 mk_111 sm_112 mk_112 sm_113 mk_113 sm_114 mk_114 sm_115 mk_115 sm_116 mk_116 sm_117 mk_117 sm_118 mk_118 sm_119 mk_119 sm_120 mk_120 sm_121 mk_121 sm_122 mk_122 sm_123 mk_123 sm_124 mk_124 sm_125 mk_125 sm_126 mk_126 sm_127 mk_127 sm_128 mk_128 sm_129 mk_129 sm_130 mk_130 sm_131 mk_131 sm_132 mk_132 sm_133 mk_133 sm_134 mk_134 sm_135 mk_135 sm_136 mk_136 sm_137 mk_137 sm_138 mk_138 sm_139 mk_139 sm_140 mk_140 sm_141 mk_141 sm_142 mk_142 sm_143 mk_143 sm_144 mk_144 sm_145 mk_145 sm_146 mk_146 sm_147 mk_147
end Go.Proofs.YtdbmdaefmlflaaaGreatDoor

set_option linter.unusedVariables false
set_option linter.unusedSimpArgs false
set_option maxRecDepth 10000
namespace Go.Ab

/-- Elements of 'e' cells, written as values. -/
def Elt {α : Type} (e : Nat) (enc : α → AV) : Prop :=
  0 < e ∧ ∀ x, ∃ cs, (enc x).cells? = some cs ∧ cs.length = e ∧ cs.all (·.flat1) = true ∧ enc x = if e = 1 then cs.headD .undef else .agg cs

def flatC {α : Type} (enc : α → AV) (l : List α) : List AV := l.flatMap fun x => ((enc x).cells?).getD []

section
variable {α : Type} {e : Nat} {enc : α → AV}
theorem cellsD_map {α : Type} (enc : α → AV) (l : List α) : (l.map enc).flatMap cellsD = flatC enc l := by simp only [List.flatMap_map, flatC]; rfl
theorem flatC_nil : flatC enc [] = [] := rfl
theorem flatC_snoc (l : List α) (x : α) : flatC enc (l ++ [x]) = flatC enc l ++ ((enc x).cells?).getD [] := by simp [flatC]
theorem flatC_length (he : Elt e enc) (l : List α) : (flatC enc l).length = l.length * e := by
  induction l with
  | nil => simp [flatC]
  | cons x l ih =>
    obtain ⟨cs, h1, h2, _⟩ := he.2 x
    simp only [flatC, List.flatMap_cons, h1, Option.getD_some, List.length_append, h2, List.length_cons, Nat.succ_mul] at ih ⊢
    omega
theorem flatC_flat (he : Elt e enc) (l : List α) : (flatC enc l).all (·.flat1) = true := by
  induction l with
  | nil => rfl
  | cons x l ih =>
    obtain ⟨cs, h1, h2, h3, _⟩ := he.2 x
    simp only [flatC, List.flatMap_cons, h1, Option.getD_some, List.all_append, h3, Bool.true_and] at ih ⊢
    exact ih
theorem chunk_flatC (he : Elt e enc) (l : List α) (rest : List AV) : chunk e l.length (flatC enc l ++ rest) = l.map enc := by
  induction l with
  | nil => rfl
  | cons x l ih =>
    obtain ⟨cs, h1, h2, h3, h4⟩ := he.2 x
    have hpos := he.1
    have hf : flatC enc (x :: l) = cs ++ flatC enc l := by simp [flatC, h1]
    simp only [hf, List.length_cons, chunk, List.map_cons, List.append_assoc]
    have hd : (cs ++ (flatC enc l ++ rest)).drop e = flatC enc l ++ rest := by rw [← h2]; simp
    have ht : (cs ++ (flatC enc l ++ rest)).take e = cs := by rw [← h2]; simp
    rw [hd, ih, ht, h4]
    congr 1
    by_cases h5 : e = 1
    · rw [if_pos h5, if_pos h5]
      cases cs with
      | nil => simp at h2; omega
      | cons c cs => rfl
    · rw [if_neg h5, if_neg h5]

/-- What an own slice that holds some elements is, as a value. -/
theorem frz1_flatC (he : Elt e enc) {h : Heap} {b : Nat} {l : List α} (hb : h b = some (flatC enc l)) : frz1 h (.own b 0 l.length e) = .sl e (l.map enc) := by
  have hc : cut (flatC enc l) 0 (l.length * e) = flatC enc l := by
    unfold cut
    rw [List.drop_zero, List.take_of_length_le (by rw [flatC_length he]; exact Nat.le_refl _)]
  simp only [frz1, hb]
  rw [if_pos ⟨by rw [flatC_length he]; omega, he.1, by rw [hc]; exact flatC_flat he l⟩, hc]
  have := chunk_flatC he l []
  rw [List.append_nil] at this
  rw [this]

/-- A slice that is nil, or an own one that holds some elements. -/
def Acc (e : Nat) (enc : α → AV) (st : ASt) (v : AV) (l : List α) : Prop := (l = [] ∧ v = .nilsl) ∨ ∃ b, v = .own b 0 l.length e ∧ st.h b = some (flatC enc l) ∧ b < st.n

theorem Acc.ret (he : Elt e enc) {st : ASt} {t : Nat} {l : List α} (h : Acc e enc st (st.τ t) l) : Ret [t] (.sl e (l.map enc)) st := by
  unfold Ret
  simp only [resV]
  rcases h with ⟨rfl, h⟩ | ⟨b, h1, h2, _⟩
  · rw [h]; exact AV.le_nil e
  · rw [h1]; exact AV.le_of_eq (frz1_flatC he h2)
end

theorem take_snoc {α : Type} {l : List α} {i : Nat} (h : i < l.length) : l.take (i + 1) = l.take i ++ [l[i]] := by
  rw [List.take_succ_eq_append_getElem h]
end Go.Ab

set_option linter.unusedVariables false
set_option linter.unusedSimpArgs false
set_option maxRecDepth 10000
namespace Go.Ab
open Go.RowKit

theorem PRel.of_M0 {I : Imm} {x : AV} {v : Value} (h : VRel I M0 x v) : PRel I x v := by
  induction h with
  | pure x v h => exact h
  | own b off len e B sz A cap hm => cases hm
  | ownG b off len e A cap hm => cases hm
  | ptr b off A sz hm => cases hm
  | ptrG b off A hm => cases hm
  | agg cs vs h1 _ ih => exact .agg cs vs h1 ih
  | tup cs vs h1 _ ih => exact .tup cs vs h1 ih
  | func f cap vs h1 _ ih => exact .func f cap vs h1 ih
  | ifc t x v _ ih => exact .ifc t x v ih
  | tptr b k t B hm => cases hm
  | tptrG b k t A hm => cases hm
  | bsl b len t B k cap hm => cases hm
  | bslG b len t A cap hm => cases hm
  | bptr b t B k hm => cases hm
  | bptrG b t A hm => cases hm

def LeL (a b : List AV) : Prop := a.length = b.length ∧ ∀ (i : Nat) x y, a[i]? = some x → b[i]? = some y → x.le y
theorem LeL.nil : LeL [] [] := ⟨rfl, fun i x y h => by simp at h⟩
theorem LeL.cons {x y : AV} {a b : List AV} (h : x.le y) (hr : LeL a b) : LeL (x :: a) (y :: b) := ⟨by simp [hr.1], fun i u v hu hv => by
  cases i with
  | zero => simp at hu hv; subst hu; subst hv; exact h
  | succ i => simp at hu hv; exact hr.2 i u v hu hv⟩
theorem LeL.refl (a : List AV) : LeL a a := ⟨rfl, fun i x y hx hy => by rw [hx] at hy; cases hy; exact AV.le_refl x⟩

theorem PCalls.args_le {P : Program} {f : FuncId} {a b : List AV} {v : AV} (h : PCalls P f b v) (hle : LeL a b) : PCalls P f a v :=
  ⟨h.1, fun I w cargs hi ha => h.2 I w cargs hi ⟨by rw [ha.1, hle.1], fun i y u hy hu => (by
    have hi : i < a.length := by have := (List.getElem?_eq_some_iff.1 hy).1; rw [hle.1]; exact this
    exact .pure _ _ (hle.2 i a[i] y (List.getElem?_eq_getElem hi) hy I u (PRel.of_M0 (ha.2 i a[i] u (List.getElem?_eq_getElem hi) hu))))⟩⟩

theorem AV.le_agg' {a b : List AV} (h : LeL a b) : (AV.agg a).le (.agg b) := AV.le_agg h.1 h.2
theorem AV.le_tup' {a b : List AV} (h : LeL a b) : (AV.tup a).le (.tup b) := AV.le_tup h.1 h.2

/-- Slices, element by element. -/
theorem AV.le_sl {e : Nat} {a b : List AV} (hl : a.length = b.length) (h : ∀ (i : Nat) x y, a[i]? = some x → b[i]? = some y → ∃ cs ds, x.cells? = some cs ∧ y.cells? = some ds ∧ LeL cs ds ∧ ds.all (·.single) = true) : (AV.sl e a).le (.sl e b) := fun I v hv => by
  cases hv with
  | sl0 e a' cap =>
    cases b with
    | nil => exact .sl0 _ _ _
    | cons y b => simp at hl
  | sl e l A n cap c el fr h1 h2 h3 h4 h5 h6 h7 h8 =>
    refine .sl _ _ A n cap c el fr (fun hb => h1 (by rw [hb] at hl; exact List.length_eq_zero_iff.1 hl)) (by omega) h3 h4 h5 h6 (fun i y hy => ?_) (fun i y ds j u w hy hds hu hw => ?_)
    · have hi : i < a.length := by have := (List.getElem?_eq_some_iff.1 hy).1; omega
      obtain ⟨cs, ds, g1, g2, g3, g4⟩ := h i a[i] y (List.getElem?_eq_getElem hi) hy
      obtain ⟨cs', k1, k2, k3⟩ := h7 i a[i] (List.getElem?_eq_getElem hi)
      rw [g1] at k1; cases k1
      exact ⟨ds, g2, by rw [← g3.1]; exact k2, g4⟩
    · have hi : i < a.length := by have := (List.getElem?_eq_some_iff.1 hy).1; omega
      obtain ⟨cs, ds', g1, g2, g3, g4⟩ := h i a[i] y (List.getElem?_eq_getElem hi) hy
      rw [g2] at hds; cases hds
      have hj : j < cs.length := by have := (List.getElem?_eq_some_iff.1 hu).1; rw [g3.1]; exact this
      exact g3.2 j cs[j] u (List.getElem?_eq_getElem hj) hu I w (h8 i a[i] cs j cs[j] w (List.getElem?_eq_getElem hi) g1 (List.getElem?_eq_getElem hj) hw)
end Go.Ab

set_option linter.unusedVariables false
set_option linter.unusedSimpArgs false
set_option maxRecDepth 10000
namespace Go.Ab
open Go.RowKit

def heapI (w : World) : Imm := fun b => w.heap[b]?

/-- What can be read at type 't' is what 'f' makes of something good. -/
def Reads (P : Program) (w : World) (t : TypeId) {α : Type} (f : α → AV) (good : α → Prop) : Prop :=
  ∀ (H : Type) (enc : TypeId × Value → H) (base : Nat) (sp : Nat → Bool) (held : Bool) (fuel : Nat) (cs : List Value) (x : DataW H × List MemPlace), DataW.trod enc P w base sp held fuel t cs = some x →
    ∃ a ys, good a ∧ (f a).cells? = some ys ∧ ys.length = cs.length ∧ cs.length = P.cellsOf t ∧ ys.all (·.single) = true ∧ ∀ (j : Nat) y v, ys[j]? = some y → cs[j]? = some v → PRel (heapI w) y v

section
variable {P : Program} {w : World}

theorem rel_one {y : AV} {v : Value} (h : PRel (heapI w) y v) : ∀ (j : Nat) y' v', [y][j]? = some y' → [v][j]? = some v' → PRel (heapI w) y' v' := fun j y' v' h1 h2 => by
  cases j with
  | zero => simp at h1 h2; subst h1; subst h2; exact h
  | succ j => simp at h1

theorem reads_int {t : TypeId} {k : IntKind} (ht : P.underlying t = some (.int k)) (hc : P.cellsOf t = 1) : Reads P w t (fun n : Int => .int k n) (fun n => (Lit.int k n).wf = true) := fun H enc base sp held fuel cs x h => by
  obtain ⟨n, rfl, _, hw⟩ := DataW.trod_int ht h
  exact ⟨n, [.int k n], hw, rfl, rfl, by simp [hc], rfl, rel_one (.int k n)⟩

theorem reads_u32 {t : TypeId} (ht : P.underlying t = some (.int .u32)) (hc : P.cellsOf t = 1) : Reads P w t (fun n : Nat => .int .u32 (n : Int)) (fun n => n < 4294967296) := fun H enc base sp held fuel cs x h => by
  obtain ⟨n, rfl, _, hw⟩ := DataW.trod_int ht h
  simp only [Lit.wf, Bool.and_eq_true, decide_eq_true_eq] at hw
  have h0 : 0 ≤ n := hw.1
  have h1 : n ≤ 4294967295 := hw.2
  have e : ((n.toNat : Nat) : Int) = n := Int.toNat_of_nonneg h0
  exact ⟨n.toNat, [.int .u32 n], by omega, by simp only [e]; rfl, rfl, by simp [hc], rfl, rel_one (.int _ n)⟩

theorem listOf {α : Type} {Q : Nat → α → Prop} : ∀ (n : Nat), (∀ i, i < n → ∃ a, Q i a) → ∃ l : List α, l.length = n ∧ ∀ (i : Nat) a, l[i]? = some a → Q i a
  | 0, _ => ⟨[], rfl, fun i a h => by simp at h⟩
  | n + 1, h => by
    obtain ⟨l, h1, h2⟩ := listOf n fun i hi => h i (by omega)
    obtain ⟨a, ha⟩ := h n (by omega)
    refine ⟨l ++ [a], by simp [h1], fun i b hb => ?_⟩
    by_cases hi : i < l.length
    · rw [List.getElem?_append_left hi] at hb; exact h2 i b hb
    · rw [List.getElem?_append_right (by omega)] at hb
      have hl : i < (l ++ [a]).length := by
        have := (List.getElem?_eq_some_iff.1 hb).1
        simp at this ⊢; omega
      have : i = n := by simp at hl; omega
      subst this
      rw [h1, Nat.sub_self] at hb
      simp at hb; subst hb; exact ha

theorem addOffs {a : Addr} {k : Nat} : (a.add k).off = a.off + k ∧ (a.add k).block = a.block := by
  unfold Addr.add; split <;> simp_all

theorem cell_block {a : Addr} {v : Value} (h : w.cell? a = some v) : ∃ c el fr, w.heap[a.block]? = some (.cells c el fr) ∧ a.spot = none ∧ c[a.off]? = some v := by
  unfold World.cell? at h
  split at h
  · rename_i c el fr hb
    split at h
    · cases h
    · rename_i hs
      exact ⟨c, el, fr, hb, by simpa using hs, h⟩
  · cases h

theorem reads_slice {t e : TypeId} {α : Type} {f : α → AV} {good : α → Prop} {c : Nat} (he : Reads P w e f good) (ht : P.underlying t = some (.slice e)) (hc : P.cellsOf e = c) (hpos : 0 < c) (hc1 : P.cellsOf t = 1) :
    Reads P w t (fun l : List α => .sl c (l.map f)) (fun l => ∀ a ∈ l, good a) := fun H enc base sp held fuel cs x h => by
  rcases DataW.trod_slice ht h with ⟨rfl, _⟩ | ⟨a, len, cap, elems, rest, n, _, rfl, _, hb, hl, hm, hlen, hel, _, _⟩
  · exact ⟨[], [.sl c []], (fun a h => by simp at h), rfl, rfl, by simp [hc1], rfl, rel_one (.sl0 _ _ _)⟩
  · have each : ∀ i, i < len → ∃ x, ∃ es ys, good x ∧ w.cells? base (a.add (i * c)) c = some es ∧ (f x).cells? = some ys ∧ ys.length = c ∧ ys.all (·.single) = true ∧ ∀ (j : Nat) y v, ys[j]? = some y → es[j]? = some v → PRel (heapI w) y v := fun i hi => by
      have h1 := hel i hi
      rw [hc, List.getElem?_eq_getElem (by omega), Option.bind_eq_some_iff] at h1
      obtain ⟨es, h2, h3⟩ := h1
      obtain ⟨x, ys, g1, g2, g3, g4, g5, g6⟩ := he H enc base sp held n es _ h3
      exact ⟨x, es, ys, g1, h2, g2, by rw [g3, g4, hc], g5, g6⟩
    obtain ⟨l, h1, h2⟩ := listOf len each
    refine ⟨l, [.sl c (l.map f)], fun x hx => ?_, rfl, rfl, by simp [hc1], rfl, rel_one ?_⟩
    · obtain ⟨i, hi⟩ := List.getElem?_of_mem hx
      obtain ⟨es, ys, g, _⟩ := h2 i x hi
      exact g
    · by_cases h0 : len = 0
      · subst h0
        have : l = [] := List.length_eq_zero_iff.1 h1
        subst this
        exact .sl0 _ _ _
      · have cellAt : ∀ i, i < len → ∀ j, j < c → ∃ v, w.cell? ((a.add (i * c)).add j) = some v := fun i hi j hj => by
          obtain ⟨es, ys, _, h3, _⟩ := h2 i l[i] (List.getElem?_eq_getElem (by omega))
          obtain ⟨_, h4, h5⟩ := World.cells?_some h3
          exact ⟨es[j], by rw [h5 j hj, List.getElem?_eq_getElem (by omega)]⟩
        obtain ⟨v0, hv0⟩ := cellAt 0 (by omega) 0 hpos
        have ea : (a.add (0 * c)).add 0 = a := by simp [Addr.add]
        rw [ea] at hv0
        obtain ⟨car, el, fr, hcar, hspot, _⟩ := cell_block hv0
        have inCar : ∀ i j v, w.cell? ((a.add (i * c)).add j) = some v → car[a.off + (i * c + j)]? = some v := fun i j v hv => by
          obtain ⟨car', el', fr', k1, _, k3⟩ := cell_block hv
          rw [addOffs.2, addOffs.2, hcar] at k1
          cases k1
          rw [addOffs.1, addOffs.1, Nat.add_assoc] at k3
          exact k3
        refine .sl c _ a len cap car el fr (fun hnil => h0 (by rw [← h1]; simpa using congrArg List.length hnil)) (by simp [h1]) hl hspot hcar ?_ (fun i y hy => ?_) (fun i y ds j u v hy hds hu hv => ?_)
        · obtain ⟨v, hv⟩ := cellAt (len - 1) (by omega) (c - 1) (by omega)
          have := inCar _ _ _ hv
          have hlt := (Array.getElem?_eq_some_iff.1 this).1
          have e1 : (len - 1) * c + (c - 1) + 1 = len * c := by
            obtain ⟨k, rfl⟩ : ∃ k, len = k + 1 := ⟨len - 1, by omega⟩
            rw [Nat.add_sub_cancel, Nat.succ_mul]; omega
          omega
        · simp only [List.getElem?_map, Option.map_eq_some_iff] at hy
          obtain ⟨z, hz, rfl⟩ := hy
          obtain ⟨es, ys, _, _, h4, h5, h6, _⟩ := h2 i z hz
          exact ⟨ys, h4, h5, h6⟩
        · simp only [List.getElem?_map, Option.map_eq_some_iff] at hy
          obtain ⟨z, hz, rfl⟩ := hy
          obtain ⟨es, ys, _, h3, h4, h5, h6, h7⟩ := h2 i z hz
          rw [h4] at hds; cases hds
          have hj : j < c := by have := (List.getElem?_eq_some_iff.1 hu).1; omega
          obtain ⟨_, k4, k5⟩ := World.cells?_some h3
          have hi : i < len := by have := (List.getElem?_eq_some_iff.1 hz).1; omega
          obtain ⟨v', hv'⟩ := cellAt i hi j hj
          have := inCar _ _ _ hv'
          rw [hv] at this; cases this
          exact h7 j u v hu (by rw [← k5 j hj]; exact hv')

theorem single_cells {y : AV} (h : y.single = true) : y.cells? = some [y] := by cases y <;> first | rfl | (simp [AV.single] at h)

/-- A struct of three fields, one cell each. -/
theorem reads_struct3 {t : TypeId} {f0 f1 f2 : Field} (ht : P.underlying t = some (.struct #[f0, f1, f2])) (hc : P.cellsOf t = 3) (o0 : f0.offset = 0) (o1 : f1.offset = 1) (o2 : f2.offset = 2)
    (s0 : P.cellsOf f0.type = 1) (s1 : P.cellsOf f1.type = 1) (s2 : P.cellsOf f2.type = 1) {α β γ δ : Type} {e0 : α → AV} {e1 : β → AV} {e2 : γ → AV} {g0 : α → Prop} {g1 : β → Prop} {g2 : γ → Prop}
    (r0 : Reads P w f0.type e0 g0) (r1 : Reads P w f1.type e1 g1) (r2 : Reads P w f2.type e2 g2) (n0 : ∀ a, (e0 a).single = true) (n1 : ∀ a, (e1 a).single = true) (n2 : ∀ a, (e2 a).single = true)
    (mk : α → β → γ → δ) (F : δ → AV) (G : δ → Prop) (hF : ∀ a b c, F (mk a b c) = .agg [e0 a, e1 b, e2 c]) (hG : ∀ a b c, g0 a → g1 b → g2 c → G (mk a b c)) : Reads P w t F G := fun H enc base sp held fuel cs x h => by
  obtain ⟨y0, y1, y2, n, _, hl, h0, h1, h2⟩ := Go.Deep.trod_struct3 ht h
  rw [hc] at hl
  match cs, hl with
  | [c0, c1, c2], _ =>
    rw [o0, s0] at h0
    rw [o1, s1] at h1
    rw [o2, s2] at h2
    obtain ⟨a, ys0, k0, k1, k2, _, _, k5⟩ := r0 H enc base sp held n _ _ h0
    obtain ⟨b, ys1, l0, l1, l2, _, _, l5⟩ := r1 H enc base sp held n _ _ h1
    obtain ⟨c, ys2, m0, m1, m2, _, _, m5⟩ := r2 H enc base sp held n _ _ h2
    rw [single_cells (n0 a)] at k1
    rw [single_cells (n1 b)] at l1
    rw [single_cells (n2 c)] at m1
    cases k1; cases l1; cases m1
    refine ⟨mk a b c, _, hG a b c k0 l0 m0, by rw [hF]; rfl, rfl, by simp [hc], by simp [n0, n1, n2], fun j y v hy hv => ?_⟩
    match j with
    | 0 => simp at hy hv; subst hy; subst hv; exact k5 0 _ _ rfl rfl
    | 1 => simp at hy hv; subst hy; subst hv; exact l5 0 _ _ rfl rfl
    | 2 => simp at hy hv; subst hy; subst hv; exact m5 0 _ _ rfl rfl
    | j + 3 => simp at hy

/-- An argument of one cell. -/
theorem reads_arg {H : Type} {enc : TypeId × Value → H} {base : Nat} {sp : Nat → Bool} {held : Bool} {t : TypeId} {α : Type} {f : α → AV} {good : α → Prop} (hr : Reads P w t f good) (hn : ∀ a, (f a).single = true) {v : Value} {d : DataW H} {ps : List MemPlace}
    (hv : v.cells = #[v]) (h : DataW.Trod enc P w base sp held t v d ps) : ∃ a, good a ∧ PRel (heapI w) (f a) v := by
  obtain ⟨fuel, h⟩ := h
  obtain ⟨a, ys, g1, g2, g3, g4, g5, g6⟩ := hr H enc base sp held fuel _ _ h
  rw [single_cells (hn a)] at g2
  cases g2
  exact ⟨a, g1, g6 0 _ _ rfl (by rw [hv]; rfl)⟩
end
end Go.Ab

set_option linter.unusedVariables false
set_option linter.unusedSimpArgs false
set_option maxRecDepth 10000
namespace Go.Ab
open Go.ChangeShapes Go.WideShapes Go.ChangeAt Go.RowKit

theorem post_below {H : Type} {enc : TypeId × Value → H} {P : Program} {f : Func} {s : ChangeSpec} {apart fresh handsOn again : Bool} {W W' : World} {args : Array Value} {v : Value} {ds gs : List (DataW H)} {before pa pv : List MemPlace}
    (hW : DataW.Whole enc P f.params.toList s.vars apart W args.toList ds gs before)
    (hres : ∀ (b : Nat) (sp : Nat → Bool) (hd : Bool), DataW.TrodAll enc P W' b sp hd f.resultTypes.toList (v.resultList f.resultTypes.size) (s.fn H (ds ++ gs)).results [])
    (hargs : ∀ sp : Nat → Bool, (∀ p ∈ before, sp p.block = true) → DataW.TrodAll enc P W' 0 sp true f.params.toList args.toList (s.fn H (ds ++ gs)).args pa)
    (hvars : ∀ sp : Nat → Bool, (∀ p ∈ before, sp p.block = true) → DataW.TrodVars enc P W' sp s.vars (s.fn H (ds ++ gs)).vars pv)
    (hps : before = pa ++ pv) (hb : Below W.heap.size W W')
    (hok : ∀ (j : Nat) (t : TypeId) (r : Value), f.resultTypes[j]? = some t → (v.resultList f.resultTypes.size)[j]? = some r → Value.okWide P W' .any 0 t r) :
    s.post enc P f apart fresh handsOn again W args v W' := by
  have hlt := hW.lt
  have hold : ∀ p ∈ before, (fun b => decide (b < W.heap.size)) p.block = true := fun p hp => by simpa using hW.lt p hp
  refine ⟨ds, gs, before, [], pa, pv, hW, hres _ _ _, hargs _ hold, hvars _ hold, World.keptBut_mono (fun p hp => ⟨hp, ?_⟩) (hb.frame (· ∈ before)), fun _ => ?_⟩
  · rw [hps, List.mem_append] at hp
    exact Or.inr hp
  · obtain ⟨_, _, _, _, _, hz, hn⟩ := hW
    refine ⟨hok, _, _, ([] ++ pa) ++ pv, ⟨[] ++ pa, pv, trodAll_append (hargs _ (fun _ _ => rfl)) (hres _ _ _), hvars _ (fun _ _ => rfl), rfl, ?_, ?_⟩, ?_⟩
    · intro b off hp
      have hp' : MemPlace.cell b off ∈ before := by rw [hps]; simpa using hp
      rw [hb.frozen (hlt _ hp')]
      exact hz b off hp'
    · intro ha
      have := hn ha
      rw [hps] at this
      simpa using this
    · intro p hp _
      rw [hps]
      simpa using hp

theorem cellsOf_eq {P : Program} {t n : Nat} (h : tsize P t = some n) : P.cellsOf t = n := by
  unfold Program.cellsOf
  unfold tsize at h
  rw [h]; rfl

/-- An argument that was only read. -/
theorem arg_kept {H : Type} {enc : TypeId × Value → H} {P : Program} {t : TypeId} {W W' : World} {v : Value} {d : DataW H} {ps : List MemPlace} (hl : laidOutB P = true) (hr : P.readableRec t = true) (hrow : t < P.types.size)
    (h : DataW.Trod enc P W 0 (fun _ => true) true t v d ps) (hb : Below W.heap.size W W') (hlt : ∀ x ∈ ps, x.block < W.heap.size) (sp : Nat → Bool) (hs : ∀ x ∈ ps, sp x.block = true) : DataW.Trod enc P W' 0 sp true t v d ps :=
  WideElems.Trod_stays hl hr hrow h (fun x hx => hb.same (hlt x hx)) hs
end Go.Ab

set_option linter.unusedVariables false
set_option linter.unusedSimpArgs false
set_option maxRecDepth 10000
namespace Go.Ab
open Go.RowKit

section
variable {P : Program} {I : Imm} {M : Mp} {h : Heap} {n : Nat} {w : World}

/-- A variable's value, behind a pointer. -/
theorem load_res {t : TypeId} {x : AV} {v : Value} (H : HRel I M h n w) (hx : VRel I M x v) {out : Out} (ha : aload P h t x = some (.out out)) :
    ∃ u, (do loadVar t (← asAddr v)).run P w = .ok u w ∧ VRel I M out.v u := by
  unfold aload at ha
  cases hg : tagg P t with
  | none => simp [hg] at ha
  | some g =>
  cases hk : tsize P t with
  | none => simp [hg, hk] at ha
  | some k =>
  simp only [hg, hk] at ha
  have fin : ∀ (A : Addr) (cs : List AV) (y : AV), v = .pointer (some A) → getAs g k cs = some y → A.spot = none → (∀ c el fr, w.heap[A.block]? = some (.cells c el fr) → A.off + cs.length ≤ c.size) → (∃ c el fr, w.heap[A.block]? = some (.cells c el fr) ∧ ∀ (j : Nat) y v, cs[j]? = some y → c[A.off + j]? = some v → VRel I M y v) →
      ∃ u, (do loadVar t (← asAddr v)).run P w = .ok u w ∧ VRel I M y u := by
    intro A cs y hρ hgv hsp hle hex
    obtain ⟨c, el, fr, hc, hv⟩ := hex
    obtain ⟨u, hu, hr⟩ := run_loadVar hg hk hgv hsp hc (hle c el fr hc) hv
    refine ⟨u, ?_, hr⟩
    subst hρ
    simp [asAddr, hu]
  cases hav : x with
  | pp cs =>
    rw [hav] at ha hx
    simp only at ha
    cases hgv : getAs g k cs with
    | none => simp [hgv] at ha
    | some y =>
      simp only [hgv, Option.bind_some, pureOut, Option.some.injEq, Did.out.injEq] at ha
      subst ha
      cases hx.pp_inv with
      | pp _ A c el fr h1 h2 h3 h4 h5 =>
        refine fin A cs y rfl hgv h1 (fun c' el' fr' hc' => ?_) ⟨c, el, fr, H.imm _ _ h2, fun j y v hy hv => .pure _ _ (h5 j y v hy hv)⟩
        rw [H.imm _ _ h2] at hc'
        cases hc'
        exact h3
  | ptr b off =>
    rw [hav] at ha hx
    simp only at ha
    cases hb : h b with
    | none => simp [hb] at ha
    | some blk =>
      simp only [hb] at ha
      split at ha
      case isFalse => cases ha
      rename_i hoff
      cases hgv : getAs g k (blk.drop off) with
      | none => simp [hgv] at ha
      | some y =>
        simp only [hgv, Option.bind_some, Option.some.injEq, Did.out.injEq] at ha
        subst ha
        obtain ⟨A0, hρ, hsp, hm | ⟨A, sz, hm, rfl⟩⟩ := hx.ptr_inv
        · have := H.no b (fun A sz h => by rw [hm] at h; cases h)
          rw [hb] at this; cases this
        · obtain ⟨g1, g2, blk', c, el, g3, g4, g5, g6, g7, g8⟩ := H.live b A sz hm
          have g5' : c.size = sz.1 := congrArg Prod.fst g5
          rw [hb] at g3
          cases g3
          refine fin ⟨A.block, A.off + off, none⟩ (blk.drop off) y hρ hgv rfl (fun c' el' fr' hc' => ?_) ⟨c, el, (0, 0), g4, fun j y v hy hv => ?_⟩
          · rw [g4] at hc'
            cases hc'
            simp only [List.length_drop]
            omega
          · rw [List.getElem?_drop] at hy
            exact g8 (off + j) y v hy (by simpa [Nat.add_assoc] using hv)
  | _ => simp [hav] at ha
end

theorem stepF_monoQ {P : Program} {pa : List Tmp} {Q Q' : ASt → Prop} (hQ : ∀ st, Q st → Q' st) {X : List Item → ASt → Prop} : ∀ (k : List Item) (st : ASt), stepF P pa Q X k st → stepF P pa Q' X k st := by
  intro k st h
  unfold stepF at *
  split at h <;> first
    | exact hQ _ h
    | exact h
theorem AW_mono {P : Program} {pa : List Tmp} {Q Q' : ASt → Prop} (hQ : ∀ st, Q st → Q' st) {k : List Item} {st : ASt} (h : AW P pa Q k st) : AW P pa Q' k st :=
  fun S hS => h S fun k st hk => hS k st (stepF_monoQ hQ k st hk)

/-- What a result variable holds. -/
def resA (P : Program) (st : ASt) : ResultVar → Option AV
  | .tmp t => some (st.τ t)
  | .cell a t => match aload P st.h t (st.τ a) with
    | some (.out o) => some o.v
    | _ => none
def resAll (P : Program) (st : ASt) : List ResultVar → Option (List AV)
  | [] => some []
  | r :: rs => match resA P st r, resAll P st rs with
    | some x, some xs => some (x :: xs)
    | _, _ => none
def resR (P : Program) (st : ASt) (rs : List ResultVar) : Option AV := (resAll P st rs).map fun
  | [x] => x
  | xs => .tup xs

section
variable {P : Program}
theorem resAll_run {st : ASt} {I : Imm} {M : Mp} {w : World} {tmps : Array Value} (hτ : ∀ t, VRel I M (st.τ t) (tmps.getD t undef)) (H : HRel I M st.h st.n w) (g : ResultVar → Sem Value)
    (hg1 : ∀ t, g (.tmp t) = pure (tmps.getD t undef)) (hg2 : ∀ a t, g (.cell a t) = (do loadVar t (← asAddr (tmps.getD a undef)))) :
    ∀ (rs : List ResultVar) (xs : List AV), resAll P st rs = some xs → ∃ us : List Value, (rs.mapM g).run P w = .ok us w ∧ us.length = xs.length ∧ ∀ (i : Nat) x u, xs[i]? = some x → us[i]? = some u → VRel I M x u
  | [], xs, h => by
    simp only [resAll, Option.some.injEq] at h
    subst h
    exact ⟨[], by simp, rfl, fun i x u hx => by simp at hx⟩
  | r :: rs, xs, h => by
    simp only [resAll] at h
    split at h
    · rename_i x ys h1 h2
      simp only [Option.some.injEq] at h
      subst h
      obtain ⟨us, k1, k2, k3⟩ := resAll_run hτ H g hg1 hg2 rs ys h2
      have one : ∃ u, (g r).run P w = .ok u w ∧ VRel I M x u := by
        cases r with
        | tmp t =>
          simp only [resA, Option.some.injEq] at h1
          subst h1
          exact ⟨_, by rw [hg1, Sem.run_pure], hτ t⟩
        | cell a t =>
          simp only [resA] at h1
          split at h1
          · rename_i o ho
            simp only [Option.some.injEq] at h1
            subst h1
            rw [hg2]
            exact load_res H (hτ a) ho
          · cases h1
      obtain ⟨u, u1, u2⟩ := one
      refine ⟨u :: us, ?_, by simp [k2], fun i y v hy hv => ?_⟩
      · rw [List.mapM_cons, Sem.run_bind, u1]
        simp only [Result.andThen_ok, Sem.run_bind, k1, Sem.run_pure]
      · cases i with
        | zero => simp at hy hv; subst hy; subst hv; exact u2
        | succ i => simp at hy hv; exact k3 i y v hy hv
    · cases h

def tupV : List Value → Value
  | [u] => u
  | us => .tuple us.toArray

theorem results_runR {fn : Func} {rs : List ResultVar} (h : fn.results = rs.toArray) {st : ASt} {I : Imm} {M : Mp} {w : World} {tmps : Array Value} (hτ : ∀ t, VRel I M (st.τ t) (tmps.getD t undef)) (H : HRel I M st.h st.n w) {v : AV} (hv : resR P st rs = some v) :
    ∃ cv, (results fn tmps).run P w = .ok cv w ∧ VRel I M v cv := by
  unfold resR at hv
  simp only [Option.map_eq_some_iff] at hv
  obtain ⟨xs, hx, rfl⟩ := hv
  let g0 : ResultVar → Sem Value := fun r => match r with
    | .tmp t => pure (tmps.getD t undef)
    | .cell a t => do loadVar t (← asAddr (tmps.getD a undef))
  obtain ⟨us, k1, k2, k3⟩ := resAll_run hτ H g0 (fun _ => rfl) (fun _ _ => rfl) rs xs hx
  have key : ∀ (g : ResultVar → Sem Value), (∀ t, g (.tmp t) = pure (tmps.getD t undef)) → (∀ a t, g (.cell a t) = (do loadVar t (← asAddr (tmps.getD a undef)))) → rs.toArray.mapM g = (List.toArray <$> rs.mapM g0) := fun g h1 h2 => by
    rw [List.mapM_toArray, show g = g0 from funext fun r => by cases r; exact h1 _; exact h2 _ _]
  have tupv : ∀ us : List Value, (if h : us.toArray.size = 1 then us.toArray[0] else Value.tuple us.toArray) = tupV us := fun us => by
    match us with
    | [] => rfl
    | [u] => rfl
    | u :: v :: r => simp [tupV]
  have hr : (results fn tmps).run P w = .ok (tupV us) w := by
    unfold results
    rw [h, key _ (fun _ => rfl) (fun _ _ => rfl), ← tupv us]
    simp only [bind_map_left, Sem.run_bind, k1, Result.andThen_ok, Sem.run_pure]
  refine ⟨_, hr, ?_⟩
  match xs, us, k2, k3 with
  | [], [], _, k3 => exact .tup _ _ rfl (fun i x v hx => by simp at hx)
  | [x], [u], _, k3 => exact k3 0 x u rfl rfl
  | x :: y :: r, u :: v :: s, k2, k3 => exact .tup _ _ (by simp at k2 ⊢; omega) (fun i x v hx hv => k3 i x v hx (by simpa using hv))

/-- A run, as a call. -/
theorem calls_of_AWR {pa : List Tmp} {f : FuncId} {fn : Func} {c : Code} {rs : List ResultVar} {Q : ASt → Prop} (hm : P.follows .mixedOrders = true) (hf : P.funcs[f]? = some fn) (hb : fn.body = some c) (hr : fn.results = rs.toArray) (hok : codeOk fn.ntmps c = true)
    {args : List AV} (hl : args.length ≤ fn.ntmps) {I : Imm} {M : Mp} {h : Heap} {n : Nat} (h0 : AW P pa (fun st => ∃ v, resR P st rs = some v ∧ Q st) [.code c] (st0 args h n)) {w : World} {cargs : Array Value} (H : HRel I M h n w) (ha : AllRel I M args cargs) :
    Calls P f cargs w fun e w' => ∃ cv v st I' M', e = .returned cv ∧ resR P st rs = some v ∧ Q st ∧ VRel I' M' v cv ∧ HRel I' M' st.h st.n w' ∧ Ext I M w I' M' w' ∧ n ≤ st.n ∧ (∀ j, j < n → M j = MS.fresh → M' j = MS.fresh) := by
  intro cs
  let b : Frame := { (default : Frame) with fn := f, kind := .normal }
  have henter : Frame.enter P f cargs .normal = b.at { tmps := cargs ++ Array.replicate (fn.ntmps - cargs.size) undef, defers := [] } [.code c] := by
    simp [Frame.enter, Frame.at, hf, hb, b]
  have F := enter_rel (nt := fn.ntmps) H ha hl
  obtain ⟨todo, a', w', st', I', M', s1, ⟨v, s0, s2⟩, s3, s4, s5, s6⟩ := AW_sound (nt := fn.ntmps) hm h0 (fun x hx => by simp at hx; subst hx; exact hok) I M _ w F b cs
  rw [← henter] at s1
  obtain ⟨cv, r1, r2⟩ := results_runR hr s3.tmps s3.heap s0
  refine ⟨.returned _, w', _, ⟨cv, v, st', I', M', rfl, s0, s2, r2, s3.heap, s4, s5, s6⟩, s1, rfl, rfl, s3.defers, rfl, fn, hf, r1⟩

/-- What a run must answer. -/
def RetR (P : Program) (rs : List ResultVar) (v : AV) (st : ASt) : Prop := ∃ u, resR P st rs = some u ∧ (frz st.h u).le v
theorem RetR.mk {rs : List ResultVar} {v : AV} {st : ASt} (h : (resR P st rs).map (frz st.h) = some v) : RetR P rs v st := by
  simp only [Option.map_eq_some_iff] at h
  obtain ⟨u, h1, h2⟩ := h
  exact ⟨u, h1, AV.le_of_eq h2⟩
theorem RetR.mk_le {rs : List ResultVar} {u v : AV} {st : ASt} (h : (resR P st rs).map (frz st.h) = some u) (hle : u.le v) : RetR P rs v st := by
  simp only [Option.map_eq_some_iff] at h
  obtain ⟨u', h1, rfl⟩ := h
  exact ⟨u', h1, hle⟩
theorem Ret.mk_le {ts : List Tmp} {u v : AV} {st : ASt} (h : frz st.h (resV ts st.τ) = u) (hle : u.le v) : Ret ts v st := by
  subst h; exact hle

/-- What a run on own blocks must come to. -/
def HRet (P : Program) (rs : List ResultVar) (post : AV → Heap → Nat → Prop) (st : ASt) : Prop := ∃ u, resR P st rs = some u ∧ post u st.h st.n
theorem HRet.mk {rs : List ResultVar} {post : AV → Heap → Nat → Prop} {st : ASt} (u : AV) (h : resR P st rs = some u) (hp : post u st.h st.n) : HRet P rs post st := ⟨u, h, hp⟩

theorem hcalls_of_AWR {pa : List Tmp} {f : FuncId} {fn : Func} {c : Code} {rs : List ResultVar} (hm : P.follows .mixedOrders = true) (hf : P.funcs[f]? = some fn) (hb : fn.body = some c) (hr : fn.results = rs.toArray) (hnm : (fn.name == "runtime.NumGoroutine") = false) (hok : codeOk fn.ntmps c = true)
    {args : List AV} (hl : args.length ≤ fn.ntmps) {h : Heap} {n : Nat} {post : AV → Heap → Nat → Prop} (h0 : AW P pa (HRet P rs post) [.code c] (st0 args h n)) : HCalls P f args h n post :=
  ⟨⟨fn, c, hf, hb, hnm⟩, fun I M w cargs H ha => (calls_of_AWR (Q := fun st => ∀ v, resR P st rs = some v → post v st.h st.n) hm hf hb hr hok hl (by
    refine AW_mono (fun st ⟨u, h1, h2⟩ => ⟨u, h1, fun v hv => ?_⟩) h0
    rw [h1] at hv; cases hv; exact h2) H ha).mono fun e w' ⟨cv, v, st, I', M', he, hv0, hq, hv, hh, hx, hn, hfr⟩ => ⟨cv, v, I', M', st.h, st.n, he, hq v hv0, hv, hh, hx, hn, hfr⟩⟩

theorem pcalls_of_AWR {pa : List Tmp} {f : FuncId} {fn : Func} {c : Code} {rs : List ResultVar} (hm : P.follows .mixedOrders = true) (hf : P.funcs[f]? = some fn) (hb : fn.body = some c) (hr : fn.results = rs.toArray) (hnm : (fn.name == "runtime.NumGoroutine") = false) (hok : codeOk fn.ntmps c = true)
    {args : List AV} (hl : args.length ≤ fn.ntmps) {v : AV} (h0 : AW P pa (RetR P rs v) [.code c] (st0 args (fun _ => none) 0)) : PCalls P f args v :=
  ⟨⟨fn, c, hf, hb, hnm⟩, fun I w cargs himm ha => (calls_of_AWR (Q := fun st => ∀ u, resR P st rs = some u → (frz st.h u).le v) hm hf hb hr hok hl (by
    refine AW_mono (fun st ⟨u, h1, h2⟩ => ⟨u, h1, fun v hv => ?_⟩) h0
    rw [h1] at hv; cases hv; exact h2) (.zero himm) ha).mono fun e w' ⟨cv, u, st, I', M', he, hu, hq, hv, hh, hx, hn, hfr⟩ => by
    obtain ⟨J, j1, j2, j3, j4⟩ := frz_all hh
    have hnl : ∀ b, ¬ Live M0 b := fun b ⟨i, A, sz, hm, _⟩ => by cases hm
    refine ⟨cv, J, he, hx.imm.trans j1, j2, hq u hu J cv (j4 hv), ⟨hx.os, hx.tape, hx.output, hx.size, fun b hb' => hx.keep b hb' (hnl b)⟩, fun b hb' hI => ?_⟩
    rw [j3 b fun hl => (hx.newL b hl).elim (hnl b) fun h' => by omega]
    exact hx.newI b hb' hI (hnl b)⟩
end

section
variable {P : Program}
/-- A contract on own blocks, with arguments that are values alone, as one on values. -/
theorem PCalls.of_h {f : FuncId} {args : List AV} {post : AV → Heap → Nat → Prop} {u : AV} (h : HCalls P f args (fun _ => none) 0 post) (hu : ∀ v h' n', post v h' n' → (frz h' v).le u) : PCalls P f args u :=
  ⟨h.1, fun I w cargs himm ha => (h.2 I M0 w cargs (.zero himm) ha).mono fun e w' ⟨cv, v, I', M', h', n', he, hq, hv, hh, hx, hn, hfr⟩ => by
    obtain ⟨J, j1, j2, j3, j4⟩ := frz_all hh
    have hnl : ∀ b, ¬ Live M0 b := fun b ⟨i, A, sz, hm, _⟩ => by cases hm
    refine ⟨cv, J, he, hx.imm.trans j1, j2, hu v h' n' hq J cv (j4 hv), ⟨hx.os, hx.tape, hx.output, hx.size, fun b hb' => hx.keep b hb' (hnl b)⟩, fun b hb' hI => ?_⟩
    rw [j3 b fun hl => (hx.newL b hl).elim (hnl b) fun h' => by omega]
    exact hx.newI b hb' hI (hnl b)⟩
end

attribute [go_sem] resR resAll resA
end Go.Ab

set_option linter.unusedVariables false
set_option linter.unusedSimpArgs false
set_option maxRecDepth 10000
namespace Go.Ab
open Go.ChangeShapes Go.WideShapes Go.ChangeAt Go.RowKit

/-- What can be read at type 't': its cells are good ones. -/
def ReadsC (P : Program) (w : World) (t : TypeId) (Q : List AV → Prop) : Prop :=
  ∀ (H : Type) (enc : TypeId × Value → H) (base : Nat) (sp : Nat → Bool) (held : Bool) (fuel : Nat) (cs : List Value) (x : DataW H × List MemPlace), DataW.trod enc P w base sp held fuel t cs = some x →
    ∃ ys, Q ys ∧ ys.length = cs.length ∧ cs.length = P.cellsOf t ∧ ys.all (·.single) = true ∧ ∀ (j : Nat) y v, ys[j]? = some y → cs[j]? = some v → PRel (heapI w) y v

section
variable {P : Program} {w : World}
theorem Reads.toC {t : TypeId} {α : Type} {f : α → AV} {good : α → Prop} (h : Reads P w t f good) : ReadsC P w t (fun ys => ∃ a, good a ∧ (f a).cells? = some ys) := fun H enc base sp held fuel cs x hx => by
  obtain ⟨a, ys, g1, g2, g3⟩ := h H enc base sp held fuel cs x hx
  exact ⟨ys, ⟨a, g1, g2⟩, g3⟩
theorem ReadsC.toReads {t : TypeId} {Q : List AV → Prop} (h : ReadsC P w t Q) {α : Type} (f : α → AV) (good : α → Prop) (hq : ∀ ys, Q ys → ∃ a, good a ∧ (f a).cells? = some ys) : Reads P w t f good := fun H enc base sp held fuel cs x hx => by
  obtain ⟨ys, g1, g3⟩ := h H enc base sp held fuel cs x hx
  obtain ⟨a, g1, g2⟩ := hq ys g1
  exact ⟨a, ys, g1, g2, g3⟩
theorem reads_bool {t : TypeId} (ht : P.underlying t = some .bool) (hc : P.cellsOf t = 1) : Reads P w t (fun b : Bool => .bool b) (fun _ => True) := fun H enc base sp held fuel cs x h => by
  obtain ⟨b, rfl, _⟩ := DataW.trod_bool ht h
  exact ⟨b, [.bool b], trivial, rfl, rfl, by simp [hc], rfl, rel_one (.bool b)⟩
theorem reads_string {t : TypeId} (ht : P.underlying t = some .string) (hc : P.cellsOf t = 1) : Reads P w t (fun s : ByteArray => .str s) (fun s => s.size ≤ maxLen) := fun H enc base sp held fuel cs x h => by
  obtain ⟨s, rfl, _, hs⟩ := DataW.trod_string ht h
  exact ⟨s, [.str s], hs, rfl, rfl, by simp [hc], rfl, rel_one (.str s)⟩

def Flat : List (List AV → Prop) → List AV → Prop
  | [], ys => ys = []
  | Q :: Qs, ys => ∃ a b, ys = a ++ b ∧ Q a ∧ Flat Qs b

/-- Parts that lie one behind the other. -/
def contB (P : Program) (n : Nat) : Nat → List (TypeId × Nat) → Bool
  | o, [] => o == n
  | o, (t, o') :: r => o' == o && contB P n (o + P.cellsOf t) r
theorem contB_le {P : Program} {n : Nat} : ∀ {o : Nat} {l : List (TypeId × Nat)}, contB P n o l = true → o ≤ n
  | o, [], h => by simp [contB] at h; omega
  | o, (t, o') :: r, h => by
    simp only [contB, Bool.and_eq_true] at h
    have := contB_le h.2; omega

theorem parts_read {H : Type} {enc : TypeId × Value → H} {base : Nat} {sp : Nat → Bool} {held : Bool} {fuel : Nat} {cs : List Value} : ∀ (l : List (TypeId × Nat)) (Qs : List (List AV → Prop)) (o : Nat), contB P cs.length o l = true → l.length = Qs.length →
    (∀ (i : Nat) p Q, l[i]? = some p → Qs[i]? = some Q → ReadsC P w p.1 Q) → (∀ p ∈ l, ∃ y, DataW.trod enc P w base sp held fuel p.1 ((cs.drop p.2).take (P.cellsOf p.1)) = some y) →
    ∃ ys, Flat Qs ys ∧ o + ys.length = cs.length ∧ ys.all (·.single) = true ∧ ∀ (j : Nat) y v, ys[j]? = some y → cs[o + j]? = some v → PRel (heapI w) y v
  | [], Qs, o, hc, hl, _, _ => by
    cases Qs with
    | nil => simp [contB] at hc; exact ⟨[], rfl, by simp [hc], rfl, fun j y v h => by simp at h⟩
    | cons => simp at hl
  | (t, o') :: l, Qs, o, hc, hl, hq, ht => by
    cases Qs with
    | nil => simp at hl
    | cons Q Qs =>
      simp only [contB, Bool.and_eq_true, beq_iff_eq] at hc
      obtain ⟨rfl, hc⟩ := hc
      obtain ⟨y, hy⟩ := ht (t, o') (by simp)
      obtain ⟨a, a1, a2, a3, a4, a5⟩ := hq 0 (t, o') Q rfl rfl H enc base sp held fuel _ _ hy
      obtain ⟨b, b1, b2, b3, b4⟩ := parts_read l Qs _ hc (by simpa using hl) (fun i p Q h1 h2 => hq (i + 1) p Q (by simpa using h1) (by simpa using h2)) (fun p hp => ht p (by simp [hp]))
      have hle := contB_le hc
      refine ⟨a ++ b, ⟨a, b, rfl, a1, b1⟩, by rw [List.length_append, a2, a3]; show o' + (P.cellsOf t + b.length) = _; omega, by simp [a4, b3], fun j y v hy hv => ?_⟩
      have ha : a.length = P.cellsOf t := by rw [a2, a3]
      by_cases hj : j < a.length
      · rw [List.getElem?_append_left hj] at hy
        refine a5 j y v hy ?_
        rw [List.getElem?_take_of_lt (by omega), List.getElem?_drop]; exact hv
      · rw [List.getElem?_append_right (by omega)] at hy
        exact b4 (j - a.length) y v hy (by rw [← hv]; congr 1; omega)

theorem readsC_struct {t : TypeId} {fs : Array Field} (ht : P.underlying t = some (.struct fs)) (Qs : List (List AV → Prop)) (hl : fs.size = Qs.length) (hc : contB P (P.cellsOf t) 0 (fs.toList.map fun f => (f.type, f.offset)) = true)
    (hq : ∀ (i : Nat) f Q, fs[i]? = some f → Qs[i]? = some Q → ReadsC P w f.type Q) : ReadsC P w t (Flat Qs) := fun H enc base sp held fuel cs x h => by
  obtain ⟨xs, n, _, _, hlen, hx, hf⟩ := DataW.trod_struct ht h
  obtain ⟨ys, y1, y2, y3, y4⟩ := parts_read (w := w) (enc := enc) (base := base) (sp := sp) (held := held) (fuel := n) (cs := cs) (fs.toList.map fun f => (f.type, f.offset)) Qs 0 (by rw [hlen]; exact hc) (by simpa using hl) (fun i p Q h1 h2 => by
    simp only [List.getElem?_map, Option.map_eq_some_iff] at h1
    obtain ⟨f, hf1, rfl⟩ := h1
    exact hq i f Q (by simpa using hf1) h2) (fun p hp => by
    obtain ⟨f, hf1, rfl⟩ := List.mem_map.1 hp
    obtain ⟨i, hi⟩ := List.getElem?_of_mem hf1
    have hi' : fs[i]? = some f := by simpa using hi
    have := hf i f hi'
    have hlt : i < xs.length := by rw [hx]; exact (Array.getElem?_eq_some_iff.1 hi').1
    exact ⟨xs[i], by rw [this, List.getElem?_eq_getElem hlt]⟩)
  exact ⟨ys, y1, by omega, hlen, y3, fun j y v h1 h2 => y4 j y v h1 (by rw [Nat.zero_add]; exact h2)⟩

def AllQ (P : Program) (w : World) : List TypeId → List (List AV → Prop) → Prop
  | [], [] => True
  | t :: ts, Q :: Qs => ReadsC P w t Q ∧ AllQ P w ts Qs
  | _, _ => False
theorem allQ_get : ∀ {ts : List TypeId} {Qs : List (List AV → Prop)}, AllQ P w ts Qs → ts.length = Qs.length ∧ ∀ (i : Nat) t Q, ts[i]? = some t → Qs[i]? = some Q → ReadsC P w t Q
  | [], [], _ => ⟨rfl, fun i t Q h => by simp at h⟩
  | t :: ts, Q :: Qs, h => by
    obtain ⟨h1, h2⟩ := allQ_get h.2
    refine ⟨by simp [h1], fun i t' Q' ht hQ => ?_⟩
    cases i with
    | zero => simp at ht hQ; subst ht; subst hQ; exact h.1
    | succ i => exact h2 i t' Q' (by simpa using ht) (by simpa using hQ)
  | [], _ :: _, h => h.elim
  | _ :: _, [], h => h.elim
/-- As 'readsC_struct', the parts in a row. -/
theorem readsC_st {t : TypeId} {fs : Array Field} (ht : P.underlying t = some (.struct fs)) (hc : contB P (P.cellsOf t) 0 (fs.toList.map fun f => (f.type, f.offset)) = true) {Qs : List (List AV → Prop)}
    (hq : AllQ P w (fs.toList.map (·.type)) Qs) : ReadsC P w t (Flat Qs) := by
  obtain ⟨h1, h2⟩ := allQ_get hq
  exact readsC_struct ht Qs (by simpa using h1) hc fun i f Q hf hQ => h2 i f.type Q (by simp [hf]) hQ
/-- Cells of a good value. -/
def QR {α : Type} (f : α → AV) (good : α → Prop) (ys : List AV) : Prop := ∃ a, good a ∧ (f a).cells? = some ys

theorem readsC_array {t e : TypeId} {n : Nat} (ht : P.underlying t = some (.array n e)) (Q : List AV → Prop) (hc : contB P (P.cellsOf t) 0 ((List.range n).map fun i => (e, i * P.cellsOf e)) = true)
    (hq : ReadsC P w e Q) : ReadsC P w t (Flat (List.replicate n Q)) := fun H enc base sp held fuel cs x h => by
  obtain ⟨xs, m, _, _, hlen, hx, hf⟩ := DataW.trod_array ht h
  obtain ⟨ys, y1, y2, y3, y4⟩ := parts_read (w := w) (enc := enc) (base := base) (sp := sp) (held := held) (fuel := m) (cs := cs) ((List.range n).map fun i => (e, i * P.cellsOf e)) (List.replicate n Q) 0 (by rw [hlen]; exact hc) (by simp) (fun i p Q' h1 h2 => by
    simp only [List.getElem?_map, Option.map_eq_some_iff] at h1
    obtain ⟨f, hf1, rfl⟩ := h1
    rw [List.getElem?_replicate] at h2
    split at h2
    · cases h2; exact hq
    · cases h2) (fun p hp => by
    obtain ⟨i, hi, rfl⟩ := List.mem_map.1 hp
    have hi := List.mem_range.1 hi
    exact ⟨xs[i], by rw [hf i hi, List.getElem?_eq_getElem (by omega)]⟩)
  exact ⟨ys, y1, by omega, hlen, y3, fun j y v h1 h2 => y4 j y v h1 (by rw [Nat.zero_add]; exact h2)⟩

/-- An argument of several cells. -/
theorem arg_agg {H : Type} {enc : TypeId × Value → H} {base : Nat} {sp : Nat → Bool} {held : Bool} {t : TypeId} {Q : List AV → Prop} (hr : ReadsC P w t Q) {cs : Array Value} {d : DataW H} {ps : List MemPlace}
    (h : DataW.Trod enc P w base sp held t (.agg cs) d ps) : ∃ ys, Q ys ∧ PRel (heapI w) (.agg ys) (.agg cs) := by
  obtain ⟨fuel, h⟩ := h
  obtain ⟨ys, g1, g2, g3, g4, g5⟩ := hr H enc base sp held fuel _ _ h
  exact ⟨ys, g1, .agg _ _ (by rw [g2]; rfl) (fun i y u hy hu => g5 i y u hy (by simpa [Value.cells] using hu))⟩

theorem okWide_array {n : Nat} {e : TypeId} {r : Reach} {base : Nat} {t : TypeId} {v : Value} (ht : P.underlying t = some (.array n e)) (h : Value.okWide P w r base t v) : ∃ cs, v = .agg cs := by
  simp only [Value.okWide, ht] at h
  obtain ⟨cs, h1, _⟩ := h
  exact ⟨cs, h1⟩
end

/-- Arguments that were only read. -/
theorem trodAll_kept {H : Type} {enc : TypeId × Value → H} {P : Program} {W W' : World} (hl : laidOutB P = true) (hb : Below W.heap.size W W') (sp : Nat → Bool) : ∀ {ts : List TypeId} {vs : List Value} {ds : List (DataW H)} {ps : List MemPlace},
    ts.all (fun t => P.readableRec t && decide (t < P.types.size)) = true → DataW.TrodAll enc P W 0 (fun _ => true) true ts vs ds ps → (∀ x ∈ ps, x.block < W.heap.size) → (∀ x ∈ ps, sp x.block = true) → DataW.TrodAll enc P W' 0 sp true ts vs ds ps
  | [], vs, ds, ps, _, h, _, _ => by
    obtain ⟨rfl, rfl, rfl⟩ := trodAll_nil h
    exact trodAll_mk0
  | t :: ts, vs, ds, ps, hr, h, hlt, hs => by
    obtain ⟨v, vs', d, ds', p, q, rfl, rfl, rfl, hd, hrest⟩ := trodAll_cons h
    simp only [List.all_cons, Bool.and_eq_true, decide_eq_true_eq] at hr
    exact trodAll_cons_mk (arg_kept hl hr.1.1 hr.1.2 hd hb (fun x hx => hlt x (by simp [hx])) sp (fun x hx => hs x (by simp [hx])))
      (trodAll_kept hl hb sp hr.2 hrest (fun x hx => hlt x (by simp [hx])) (fun x hx => hs x (by simp [hx])))
end Go.Ab

set_option linter.unusedVariables false
set_option linter.unusedSimpArgs false
set_option maxRecDepth 10000
namespace Go.Num

def B : Nat := 4294967296
theorem B_pos : 0 < B := by decide
def val : List Nat → Nat
  | [] => 0
  | w :: r => w + B * val r
/-- Words alone. -/
def Wd (a : List Nat) : Prop := ∀ w ∈ a, w < B
theorem Wd.nil : Wd [] := fun w h => by simp at h
theorem Wd.cons {w : Nat} {a : List Nat} (h : w < B) (ha : Wd a) : Wd (w :: a) := fun x hx => by rcases List.mem_cons.1 hx with rfl | hx; exact h; exact ha x hx
theorem Wd.append {a b : List Nat} (ha : Wd a) (hb : Wd b) : Wd (a ++ b) := fun x hx => (List.mem_append.1 hx).elim (ha x) (hb x)
theorem Wd.take {a : List Nat} (h : Wd a) (n : Nat) : Wd (a.take n) := fun x hx => h x (List.mem_of_mem_take hx)
theorem Wd.drop {a : List Nat} (h : Wd a) (n : Nat) : Wd (a.drop n) := fun x hx => h x (List.mem_of_mem_drop hx)
theorem Wd.tail {w : Nat} {a : List Nat} (h : Wd (w :: a)) : Wd a := fun x hx => h x (by simp [hx])
theorem Wd.getD {a : List Nat} (h : Wd a) (i : Nat) : a.getD i 0 < B := by
  by_cases hi : i < a.length
  · simp only [List.getD, List.getElem?_eq_getElem hi, Option.getD_some]; exact h _ (List.getElem_mem hi)
  · simp only [List.getD, List.getElem?_eq_none (Nat.le_of_not_lt hi), Option.getD_none]; exact B_pos

theorem val_append (a b : List Nat) : val (a ++ b) = val a + B ^ a.length * val b := by
  induction a with
  | nil => simp [val]
  | cons w a ih =>
    simp only [List.cons_append, val, ih, List.length_cons, Nat.pow_succ, Nat.mul_add]
    rw [← Nat.mul_assoc, Nat.mul_comm B (B ^ a.length)]; omega
theorem val_lt {a : List Nat} (h : Wd a) : val a < B ^ a.length := by
  induction a with
  | nil => simp [val]
  | cons w a ih =>
    have h1 := ih h.tail
    have h2 := h w (by simp)
    simp only [val, List.length_cons, Nat.pow_succ]
    have h3 : B * (val a + 1) ≤ B * B ^ a.length := Nat.mul_le_mul_left _ h1
    rw [Nat.mul_comm (B ^ a.length)]
    rw [Nat.mul_add, Nat.mul_one] at h3
    omega
theorem val_take_succ (a : List Nat) (j : Nat) : val (a.take (j + 1)) = val (a.take j) + B ^ j * a.getD j 0 := by
  by_cases hj : j < a.length
  · rw [List.take_succ_eq_append_getElem hj, val_append]
    simp [val, List.getD, hj, Nat.min_eq_left (Nat.le_of_lt hj)]
  · rw [List.take_of_length_le (by omega), List.take_of_length_le (by omega)]
    simp [List.getD, List.getElem?_eq_none (Nat.le_of_not_lt hj)]
theorem val_take_ge (a : List Nat) {j : Nat} (h : a.length ≤ j) : val (a.take j) = val a := by rw [List.take_of_length_le h]
theorem val_take_lt {a : List Nat} (h : Wd a) (j : Nat) : val (a.take j) < B ^ j := by
  have := val_lt (h.take j)
  exact Nat.lt_of_lt_of_le this (Nat.pow_le_pow_right B_pos (by simp; omega))

/-- Words that are alike from a place on. -/
theorem val_lt_of {a b : List Nat} (ha : Wd a) (j : Nat) (hlt : a.getD j 0 < b.getD j 0) (n : Nat) (hn : j + 1 ≤ n) (h : ∀ k, j < k → k < n → a.getD k 0 = b.getD k 0) : val (a.take n) < val (b.take n) := by
  induction hn with
  | refl =>
    rw [val_take_succ, val_take_succ]
    have h1 := val_take_lt ha j
    have h2 : B ^ j * (a.getD j 0 + 1) ≤ B ^ j * b.getD j 0 := Nat.mul_le_mul_left _ hlt
    rw [Nat.mul_add, Nat.mul_one] at h2
    omega
  | @step n hn ih =>
    have hn : j + 1 ≤ n := hn
    rw [val_take_succ, val_take_succ, h n (by omega) (by omega)]
    have := ih fun k h1 h2 => h k h1 (by omega)
    omega
theorem val_eq_of {a b : List Nat} (n : Nat) (h : ∀ k, k < n → a.getD k 0 = b.getD k 0) : val (a.take n) = val (b.take n) := by
  induction n with
  | zero => simp
  | succ n ih => rw [val_take_succ, val_take_succ, h n (by omega), ih fun k hk => h k (by omega)]

/-- Which of two is the greater one. -/
def cmpN (x y : Nat) : Int := if x < y then -1 else if y < x then 1 else 0
theorem cmpN_lt {x y : Nat} (h : x < y) : cmpN x y = -1 := if_pos h
theorem cmpN_gt {x y : Nat} (h : y < x) : cmpN x y = 1 := by unfold cmpN; rw [if_neg (by omega), if_pos h]
theorem cmpN_eq {x y : Nat} (h : x = y) : cmpN x y = 0 := by unfold cmpN; rw [if_neg (by omega), if_neg (by omega)]
theorem cmpN_zero {x y : Nat} : cmpN x y = 0 ↔ x = y := by unfold cmpN; split <;> (try split) <;> omega

/-- A list without the noughts at its end. -/
def trim (a : List Nat) : List Nat := (a.reverse.dropWhile (· == 0)).reverse
theorem trim_nil : trim [] = [] := rfl
theorem trim_snoc0 (a : List Nat) : trim (a ++ [0]) = trim a := by simp [trim]
theorem trim_snoc (a : List Nat) {w : Nat} (h : w ≠ 0) : trim (a ++ [w]) = a ++ [w] := by simp [trim, List.dropWhile_cons, h]
theorem snoc_cases (a : List Nat) : a = [] ∨ ∃ b w, a = b ++ [w] := by
  rcases List.eq_nil_or_concat a with h | ⟨b, w, h⟩
  · exact .inl h
  · exact .inr ⟨b, w, by simpa using h⟩
theorem trim_take (a : List Nat) : ∃ n, n ≤ a.length ∧ trim a = a.take n ∧ (∀ k, n ≤ k → a.getD k 0 = 0) ∧ (0 < n → a.getD (n - 1) 0 ≠ 0) := by
  induction hn : a.length generalizing a with
  | zero => rw [List.length_eq_zero_iff] at hn; subst hn; exact ⟨0, by simp, rfl, by simp, by simp⟩
  | succ n ih =>
    rcases snoc_cases a with rfl | ⟨b, w, rfl⟩
    · simp at hn
    · simp at hn
      by_cases hw : w = 0
      · subst hw
        obtain ⟨m, h1, h2, h3, h4⟩ := ih b hn
        refine ⟨m, by omega, ?_, ?_, ?_⟩
        · rw [trim_snoc0, h2, List.take_append_of_le_length (by omega)]
        · intro k hk
          by_cases hb : k < b.length
          · have := h3 k hk
            simp only [List.getD, List.getElem?_append_left hb] at this ⊢; exact this
          · simp only [List.getD, List.getElem?_append_right (Nat.le_of_not_lt hb)]
            cases k - b.length <;> simp
        · intro h0
          have := h4 h0
          simp only [List.getD, List.getElem?_append_left (show m - 1 < b.length by omega)] at this ⊢; exact this
      · refine ⟨n + 1, by omega, ?_, ?_, ?_⟩
        · rw [trim_snoc _ hw, List.take_of_length_le (by simp; omega)]
        · intro k hk
          simp only [List.getD]
          rw [List.getElem?_eq_none (by simp; omega)]; rfl
        · intro _
          simp only [List.getD, Nat.add_sub_cancel]
          rw [List.getElem?_append_right (by omega), hn]; simpa using hw
theorem val_trim (a : List Nat) : val (trim a) = val a := by
  obtain ⟨n, h1, h2, h3, h4⟩ := trim_take a
  rw [h2]
  have key : ∀ m, n ≤ m → val (a.take m) = val (a.take n) := fun m hm => by
    induction hm with
    | refl => rfl
    | @step m hm ih => rw [val_take_succ, h3 m hm, ih]; simp
  rw [← key a.length h1, List.take_length]
theorem Wd.trim {a : List Nat} (h : Wd a) : Wd (trim a) := by
  obtain ⟨n, h1, h2, _⟩ := trim_take a
  rw [h2]; exact h.take n

/-- Words without noughts at the end. -/
def Nrm (a : List Nat) : Prop := Wd a ∧ (a ≠ [] → a.getD (a.length - 1) 0 ≠ 0)
theorem nrm_trim {a : List Nat} (h : Wd a) : Nrm (Num.trim a) := by
  refine ⟨h.trim, fun hne => ?_⟩
  obtain ⟨n, h1, h2, h3, h4⟩ := trim_take a
  rw [h2] at hne ⊢
  have hl : (a.take n).length = n := by simp; omega
  have hn : 0 < n := by rcases n with _ | n; simp at hne; omega
  rw [hl]
  have := h4 hn
  simp only [List.getD] at this ⊢
  rw [List.getElem?_take_of_lt (by omega)]; exact this
theorem nrm_ge {a : List Nat} (h : Nrm a) (hne : a ≠ []) : B ^ (a.length - 1) ≤ val a := by
  have h1 := h.2 hne
  have hl : 0 < a.length := List.length_pos_iff.2 hne
  have h2 := val_take_succ a (a.length - 1)
  rw [show a.length - 1 + 1 = a.length by omega, List.take_length] at h2
  rw [h2]
  have : B ^ (a.length - 1) * 1 ≤ B ^ (a.length - 1) * a.getD (a.length - 1) 0 := Nat.mul_le_mul_left _ (by omega)
  omega
theorem nrm_lt {a b : List Nat} (ha : Nrm a) (hb : Nrm b) (h : a.length < b.length) : val a < val b := by
  have h1 := val_lt ha.1
  have h2 := nrm_ge hb (by intro h0; rw [h0] at h; simp at h)
  have h3 : B ^ a.length ≤ B ^ (b.length - 1) := Nat.pow_le_pow_right B_pos (by omega)
  omega
theorem wd_inj {a b : List Nat} (ha : Wd a) (hb : Wd b) (hl : a.length = b.length) (h : val a = val b) : a = b := by
  induction a generalizing b with
  | nil => cases b with | nil => rfl | cons => simp at hl
  | cons w a ih =>
    cases b with
    | nil => simp at hl
    | cons x b =>
      simp only [val] at h
      have h1 := ha w (by simp)
      have h2 := hb x (by simp)
      have e1 : (w + B * val a) % B = w := by rw [Nat.add_mul_mod_self_left, Nat.mod_eq_of_lt h1]
      have e2 : (x + B * val b) % B = x := by rw [Nat.add_mul_mod_self_left, Nat.mod_eq_of_lt h2]
      have hx : w = x := by rw [← e1, ← e2, h]
      subst hx
      have : B * val a = B * val b := by omega
      rw [ih ha.tail hb.tail (by simpa using hl) (Nat.eq_of_mul_eq_mul_left B_pos this)]
theorem nrm_inj {a b : List Nat} (ha : Nrm a) (hb : Nrm b) (h : val a = val b) : a = b := by
  rcases Nat.lt_trichotomy a.length b.length with hl | hl | hl
  · have := nrm_lt ha hb hl; omega
  · exact wd_inj ha.1 hb.1 hl h
  · have := nrm_lt hb ha hl; omega
end Go.Num

set_option linter.unusedVariables false
set_option linter.unusedSimpArgs false
set_option maxRecDepth 10000
namespace Go.Num

theorem B_eq : B = 4294967296 := rfl
theorem B_two : 2 ≤ B := by decide

/-- The right words of a number. -/
def dig (n : Nat) : List Nat := if h : n = 0 then [] else n % B :: dig (n / B)
termination_by n
decreasing_by exact Nat.div_lt_self (by omega) B_two

theorem dig_zero : dig 0 = [] := by rw [dig, dif_pos rfl]
theorem dig_pos {n : Nat} (h : n ≠ 0) : dig n = n % B :: dig (n / B) := by rw [dig, dif_neg h]
theorem val_nil : val [] = 0 := rfl
theorem val_cons (w : Nat) (a : List Nat) : val (w :: a) = w + B * val a := rfl
theorem val_dig (n : Nat) : val (dig n) = n := by
  induction n using Nat.strongRecOn with
  | _ n ih =>
    by_cases h : n = 0
    · subst h; rw [dig_zero]; rfl
    · rw [dig_pos h, val_cons, ih _ (Nat.div_lt_self (by omega) B_two), Nat.mod_add_div]
theorem wd_dig (n : Nat) : Wd (dig n) := by
  induction n using Nat.strongRecOn with
  | _ n ih =>
    by_cases h : n = 0
    · subst h; rw [dig_zero]; exact .nil
    · rw [dig_pos h]; exact .cons (Nat.mod_lt _ B_pos) (ih _ (Nat.div_lt_self (by omega) B_two))
theorem nrm_nil : Nrm [] := ⟨.nil, fun h => absurd rfl h⟩
theorem nrm_dig (n : Nat) : Nrm (dig n) := by
  refine ⟨wd_dig n, ?_⟩
  induction n using Nat.strongRecOn with
  | _ n ih =>
    by_cases h : n = 0
    · subst h; rw [dig_zero]; intro h; exact absurd rfl h
    · rw [dig_pos h]
      intro _
      by_cases hq : n / B = 0
      · rw [hq, dig_zero]
        have : n % B = n := Nat.mod_eq_of_lt (by rcases Nat.lt_or_ge n B with h1 | h1; exact h1; have := Nat.div_pos h1 B_pos; omega)
        simpa [this] using h
      · have h1 := ih _ (Nat.div_lt_self (by omega) B_two) (by rw [dig_pos hq]; simp)
        have hl : 0 < (dig (n / B)).length := by rw [dig_pos hq]; simp
        rw [List.length_cons, Nat.add_sub_cancel]
        obtain ⟨k, hk⟩ : ∃ k, (dig (n / B)).length = k + 1 := ⟨(dig (n / B)).length - 1, by omega⟩
        rw [hk] at h1 ⊢
        simpa using h1
theorem dig_val {a : List Nat} (h : Nrm a) : dig (val a) = a := nrm_inj (nrm_dig _) h (val_dig _)
theorem trim_dig {a : List Nat} (h : Wd a) : trim a = dig (val a) := by rw [← val_trim a]; exact (dig_val (nrm_trim h)).symm
theorem trim_of_dig (n : Nat) : trim (dig n) = dig n := by rw [trim_dig (wd_dig n), val_dig]
theorem dig_nil {n : Nat} : dig n = [] ↔ n = 0 := ⟨fun h => by have := val_dig n; rw [h] at this; exact this.symm, fun h => by rw [h, dig_zero]⟩
theorem dig_len0 {n : Nat} : (dig n).length = 0 ↔ n = 0 := by rw [List.length_eq_zero_iff, dig_nil]
theorem lt_dig (n : Nat) : n < B ^ (dig n).length := by have := val_lt (wd_dig n); rwa [val_dig] at this
theorem dig_ge {n : Nat} (h : n ≠ 0) : B ^ ((dig n).length - 1) ≤ n := by
  have := nrm_ge (nrm_dig n) (by rw [Ne, dig_nil]; exact h); rwa [val_dig] at this
theorem dig_len_le {n k : Nat} : (dig n).length ≤ k ↔ n < B ^ k := by
  constructor
  · intro h; exact Nat.lt_of_lt_of_le (lt_dig n) (Nat.pow_le_pow_right B_pos h)
  · intro h
    by_cases h0 : n = 0
    · subst h0; rw [dig_zero]; simp
    · have h1 := dig_ge h0
      rcases Nat.lt_or_ge k (dig n).length with h2 | h2
      · have : B ^ k ≤ B ^ ((dig n).length - 1) := Nat.pow_le_pow_right B_pos (by omega)
        omega
      · exact h2
theorem dig_len_mono {m n : Nat} (h : m ≤ n) : (dig m).length ≤ (dig n).length := dig_len_le.2 (Nat.lt_of_le_of_lt h (lt_dig n))
theorem dig_len_val {a : List Nat} (h : Wd a) : (dig (val a)).length ≤ a.length := dig_len_le.2 (val_lt h)
theorem dig_one {n : Nat} (h0 : n ≠ 0) (h : n < B) : dig n = [n] := by
  rw [dig_pos h0, Nat.mod_eq_of_lt h, Nat.div_eq_of_lt h, dig_zero]
theorem dig_inj {m n : Nat} (h : dig m = dig n) : m = n := by rw [← val_dig m, h, val_dig]
theorem dig_add_len (m n : Nat) : (dig (m + n)).length ≤ max (dig m).length (dig n).length + 1 := by
  apply dig_len_le.2
  have h1 : m < B ^ max (dig m).length (dig n).length := Nat.lt_of_lt_of_le (lt_dig m) (Nat.pow_le_pow_right B_pos (by omega))
  have h2 : n < B ^ max (dig m).length (dig n).length := Nat.lt_of_lt_of_le (lt_dig n) (Nat.pow_le_pow_right B_pos (by omega))
  rw [Nat.pow_succ]
  have : B ^ max (dig m).length (dig n).length * 2 ≤ B ^ max (dig m).length (dig n).length * B := Nat.mul_le_mul_left _ B_two
  omega
theorem dig_mul_len (m n : Nat) : (dig (m * n)).length ≤ (dig m).length + (dig n).length := by
  apply dig_len_le.2
  rw [Nat.pow_add]
  exact Nat.mul_lt_mul'' (lt_dig m) (lt_dig n)

/-! ### Words written into a list -/
theorem take_set_ge {a : List Nat} {i j v : Nat} (h : j ≤ i) : (a.set i v).take j = a.take j := by
  apply List.ext_getElem?
  intro k
  by_cases hk : k < j
  · rw [List.getElem?_take_of_lt hk, List.getElem?_take_of_lt hk, List.getElem?_set_ne (by omega)]
  · rw [List.getElem?_eq_none (by simp; omega), List.getElem?_eq_none (by simp; omega)]
theorem val_take_set {a : List Nat} {i v : Nat} (h : i < a.length) : val ((a.set i v).take (i + 1)) = val (a.take i) + B ^ i * v := by
  rw [val_take_succ, take_set_ge (Nat.le_refl i)]
  simp [List.getD, h]
theorem Wd.set {a : List Nat} (h : Wd a) (i : Nat) {v : Nat} (hv : v < B) : Wd (a.set i v) := fun x hx => by
  rcases List.mem_or_eq_of_mem_set hx with h1 | h1
  · exact h x h1
  · omega
theorem Wd.replicate (n : Nat) {v : Nat} (hv : v < B) : Wd (List.replicate n v) := fun x hx => by rw [List.eq_of_mem_replicate hx]; exact hv
theorem val_replicate (n : Nat) : val (List.replicate n 0) = 0 := by
  induction n with
  | zero => rfl
  | succ n ih => rw [List.replicate_succ, val_cons, ih]; simp
theorem rep0 (n k : Nat) : (List.replicate n 0).getD k 0 = 0 := by
  simp only [List.getD, List.getElem?_replicate]; split <;> rfl
theorem getD_of_lt {a : List Nat} {i : Nat} (h : i < a.length) : a.getD i 0 = a[i] := by simp [List.getD, h]
theorem getD_of_ge {a : List Nat} {i : Nat} (h : a.length ≤ i) : a.getD i 0 = 0 := by simp [List.getD, List.getElem?_eq_none h]
theorem Wd.get {a : List Nat} (h : Wd a) {i : Nat} (hi : i < a.length) : a[i] < B := h _ (List.getElem_mem hi)
theorem val_set (a : List Nat) {i v : Nat} (h : i < a.length) : val (a.set i v) + B ^ i * a[i] = val a + B ^ i * v := by
  induction a generalizing i with
  | nil => simp at h
  | cons w a ih =>
    cases i with
    | zero => simp [val]; omega
    | succ i =>
      have := ih (i := i) (by simpa using h)
      simp only [List.set_cons_succ, val_cons, List.getElem_cons_succ, Nat.pow_succ]
      have e1 : B ^ i * B * a[i]'(by simpa using h) = B * (B ^ i * a[i]'(by simpa using h)) := by rw [Nat.mul_comm (B ^ i), Nat.mul_assoc]
      have e2 : B ^ i * B * v = B * (B ^ i * v) := by rw [Nat.mul_comm (B ^ i), Nat.mul_assoc]
      rw [e1, e2]
      have := congrArg (B * ·) this
      simp only [Nat.mul_add] at this
      omega

/-! ### Bits -/
def blen (n : Nat) : Nat := if n = 0 then 0 else Nat.log2 n + 1
theorem blen_le {n k : Nat} : blen n ≤ k ↔ n < 2 ^ k := by
  unfold blen
  split
  · rename_i h; subst h; simp [Nat.pow_pos]
  · rename_i h; rw [Nat.succ_le_iff, Nat.log2_lt h]
theorem lt_blen (n : Nat) : n < 2 ^ blen n := blen_le.1 (Nat.le_refl _)
theorem blen_ge {n k : Nat} (h : 2 ^ k ≤ n) : k < blen n := by
  rcases Nat.lt_or_ge k (blen n) with h1 | h1
  · exact h1
  · have := blen_le.1 h1; omega
theorem blen_eq {n k : Nat} (h1 : 2 ^ k ≤ n) (h2 : n < 2 ^ (k + 1)) : blen n = k + 1 := Nat.le_antisymm (blen_le.2 h2) (blen_ge h1)
theorem blen_mono {m n : Nat} (h : m ≤ n) : blen m ≤ blen n := blen_le.2 (Nat.lt_of_le_of_lt h (lt_blen n))
theorem blen_zero : blen 0 = 0 := rfl
theorem blen_pos {n : Nat} (h : n ≠ 0) : 0 < blen n := by unfold blen; rw [if_neg h]; omega
theorem blen_low {n : Nat} (h : n ≠ 0) : 2 ^ (blen n - 1) ≤ n := by
  unfold blen; rw [if_neg h, Nat.add_sub_cancel]; exact Nat.log2_self_le h
theorem blen_shift {m : Nat} (hm : m ≠ 0) (k r : Nat) (hr : r < 2 ^ k) : blen (m * 2 ^ k + r) = blen m + k := by
  have h1 := blen_low hm
  have h2 := lt_blen m
  have h0 := blen_pos hm
  have e1 : 2 ^ (blen m - 1) * 2 ^ k ≤ m * 2 ^ k := Nat.mul_le_mul_right _ h1
  have e2 : (m + 1) * 2 ^ k ≤ 2 ^ blen m * 2 ^ k := Nat.mul_le_mul_right _ h2
  rw [← Nat.pow_add] at e1 e2
  rw [Nat.add_mul, Nat.one_mul] at e2
  have : blen (m * 2 ^ k + r) = (blen m - 1 + k) + 1 := blen_eq (by omega) (by rw [show blen m - 1 + k + 1 = blen m + k by omega]; omega)
  omega
theorem B_pow2 : B = 2 ^ 32 := by decide
theorem Bpow (k : Nat) : B ^ k = 2 ^ (32 * k) := by rw [B_pow2, ← Nat.pow_mul]
theorem dig_len_blen (n : Nat) : 32 * (dig n).length ≤ blen n + 31 := by
  by_cases h : n = 0
  · subst h; rw [dig_zero]; simp
  · have h1 := dig_ge h
    rw [Bpow] at h1
    have := blen_ge h1
    have h2 : 0 < (dig n).length := by rcases Nat.eq_zero_or_pos (dig n).length with h3 | h3; exact absurd (dig_len0.1 h3) h; exact h3
    omega
theorem blen_dig_len (n : Nat) : blen n ≤ 32 * (dig n).length := blen_le.2 (by rw [← Bpow]; exact lt_dig n)
theorem blen_add (m n : Nat) : blen (m + n) ≤ max (blen m) (blen n) + 1 := by
  apply blen_le.2
  have h1 : m < 2 ^ max (blen m) (blen n) := Nat.lt_of_lt_of_le (lt_blen m) (Nat.pow_le_pow_right (by omega) (by omega))
  have h2 : n < 2 ^ max (blen m) (blen n) := Nat.lt_of_lt_of_le (lt_blen n) (Nat.pow_le_pow_right (by omega) (by omega))
  rw [Nat.pow_succ]; omega
theorem blen_mul (m n : Nat) : blen (m * n) ≤ blen m + blen n := by
  apply blen_le.2
  rw [Nat.pow_add]
  exact Nat.mul_lt_mul'' (lt_blen m) (lt_blen n)
theorem row_step {A Q x ai q d lo hi Vp Vq Vo T c : Nat} (hv : Vp + A * Q * d = Vo + A * (x * T + c)) (e1 : Vq + A * Q * q = Vp + A * Q * lo) (e2 : lo + 4294967296 * hi = x * ai + (q + d)) : Vq + A * Q * B * hi = Vo + A * (x * (T + Q * ai) + c) := by
  have e3 := congrArg (A * Q * ·) e2
  simp only [Nat.mul_add] at e3
  have e4 : A * Q * B * hi = A * Q * (4294967296 * hi) := by rw [Nat.mul_assoc]; rfl
  have e5 : A * (x * (T + Q * ai) + c) = A * (x * T + c) + A * Q * (x * ai) := by
    rw [Nat.mul_add x, Nat.mul_left_comm x Q, Nat.add_right_comm, Nat.mul_add A (x * T + c), Nat.mul_assoc A Q]
  rw [e4, e5]
  omega
theorem val_drop (a : List Nat) (i : Nat) : val (a.drop i) = a.getD i 0 + B * val (a.drop (i + 1)) := by
  by_cases h : i < a.length
  · rw [List.drop_eq_getElem_cons h, val_cons, getD_of_lt h]
  · rw [List.drop_eq_nil_of_le (by omega), List.drop_eq_nil_of_le (by omega), getD_of_ge (by omega)]; rfl
theorem val_split (a : List Nat) (i : Nat) : val a = val (a.take i) + B ^ i * val (a.drop i) := by
  by_cases h : i ≤ a.length
  · conv => lhs; rw [← List.take_append_drop i a]
    rw [val_append, List.length_take, Nat.min_eq_left h]
  · rw [List.take_of_length_le (by omega), List.drop_eq_nil_of_le (by omega)]; simp [val]
theorem val_drop_div {a : List Nat} (h : Wd a) (i : Nat) : val (a.drop i) = val a / B ^ i := by
  have h1 := val_split a i
  rw [h1, Nat.add_mul_div_left _ _ (Nat.pow_pos B_pos), Nat.div_eq_of_lt (val_take_lt h i), Nat.zero_add]
end Go.Num

set_option linter.unusedVariables false
set_option linter.unusedSimpArgs false
set_option maxRecDepth 10000
namespace Go.Ab
open Go.Num

theorem wu32 (n : Nat) : IntKind.u32.wrap (n : Int) = ((n % 4294967296 : Nat) : Int) := by
  unfold IntKind.wrap
  simp only [show IntKind.u32.bits = 32 from rfl, show IntKind.u32.signed = false from rfl, Bool.false_and, Bool.false_eq_true, if_false]
  omega
theorem wu64 (n : Nat) : IntKind.u64.wrap (n : Int) = ((n % 18446744073709551616 : Nat) : Int) := by
  unfold IntKind.wrap
  simp only [show IntKind.u64.bits = 64 from rfl, show IntKind.u64.signed = false from rfl, Bool.false_and, Bool.false_eq_true, if_false]
  omega
theorem wi64 {n : Nat} (h : n < 9223372036854775808) : IntKind.i64.wrap (n : Int) = (n : Int) := wrap64_id (by omega) (by omega)
theorem wu32_add (x y : Nat) : IntKind.u32.wrap ((x : Int) + (y : Int)) = (((x + y) % 4294967296 : Nat) : Int) := by rw [← wu32]; rfl
theorem wu32_sub {x y : Nat} (h : y ≤ x) : IntKind.u32.wrap ((x : Int) - (y : Int)) = (((x - y) % 4294967296 : Nat) : Int) := by rw [← wu32]; congr 1; omega
theorem wu32_sub' {x y : Nat} (h : x < y) (hx : x < 4294967296) (hy : y < 4294967296) : IntKind.u32.wrap ((x : Int) - (y : Int)) = ((x + 4294967296 - y : Nat) : Int) := by
  unfold IntKind.wrap
  simp only [show IntKind.u32.bits = 32 from rfl, show IntKind.u32.signed = false from rfl, Bool.false_and, Bool.false_eq_true, if_false]
  omega
theorem wu64_add (x y : Nat) : IntKind.u64.wrap ((x : Int) + (y : Int)) = (((x + y) % 18446744073709551616 : Nat) : Int) := by rw [← wu64]; rfl
theorem wu64_mul (x y : Nat) : IntKind.u64.wrap ((x : Int) * (y : Int)) = (((x * y) % 18446744073709551616 : Nat) : Int) := by rw [← wu64]; rfl
theorem shr_nat (x k : Nat) : (x : Int).fdiv ((2 : Int) ^ k) = ((x / 2 ^ k : Nat) : Int) := by
  rw [show ((2 : Int) ^ k) = ((2 ^ k : Nat) : Int) by simp]
  rw [Int.fdiv_eq_ediv_of_nonneg _ (Int.natCast_nonneg _), ← Int.natCast_ediv]
theorem shr32 (x : Nat) : (x : Int).fdiv 4294967296 = ((x / 4294967296 : Nat) : Int) := shr_nat x 32
theorem mul32 (x : Nat) : (x : Int) * 4294967296 = ((x * 4294967296 : Nat) : Int) := by omega
theorem tdiv_nat (x y : Nat) : (x : Int).tdiv (y : Int) = ((x / y : Nat) : Int) := by
  rw [Int.tdiv_eq_ediv_of_nonneg (Int.natCast_nonneg _), ← Int.natCast_ediv]
theorem tmod_nat (x y : Nat) : (x : Int).tmod (y : Int) = ((x % y : Nat) : Int) := by
  rw [Int.tmod_eq_emod_of_nonneg (Int.natCast_nonneg _), ← Int.natCast_emod]
theorem or_u64' {x y : Nat} (hx : x < 18446744073709551616) (hy : y < 18446744073709551616) : (BitVec.ofInt 64 (x : Int) ||| BitVec.ofInt 64 (y : Int)).toNat = (x ||| y) := by
  rw [BitVec.ofInt_natCast, BitVec.ofInt_natCast]
  simp only [BitVec.toNat_or, BitVec.toNat_ofNat]
  rw [show (2 : Nat) ^ 64 = 18446744073709551616 from rfl, Nat.mod_eq_of_lt hx, Nat.mod_eq_of_lt hy]
theorem or_u64 {x y : Nat} (hx : x < 18446744073709551616) (hy : y < 18446744073709551616) : orI .u64 (x : Int) (y : Int) = ((x ||| y : Nat) : Int) := by
  show IntKind.u64.wrap ((BitVec.ofInt 64 (x : Int) ||| BitVec.ofInt 64 (y : Int)).toNat : Int) = _
  rw [or_u64' hx hy, wu64, Nat.mod_eq_of_lt (Nat.or_lt_two_pow (n := 64) hx hy)]
theorem or_hi (x : Nat) {y : Nat} (k : Nat) (hy : y < 2 ^ k) : (x * 2 ^ k ||| y) = x * 2 ^ k + y := by
  rw [← Nat.shiftLeft_eq, Nat.shiftLeft_add_eq_or_of_lt hy]
theorem beq_nat (a b : Nat) : (((a : Nat) : Int) == ((b : Nat) : Int)) = decide (a = b) := by
  by_cases h : a = b
  · simp [h]
  · have : ((a : Nat) : Int) ≠ (b : Nat) := by omega
    rw [decide_eq_false h]; simpa using this
theorem bne_nat (a b : Nat) : (((a : Nat) : Int) != ((b : Nat) : Int)) = !decide (a = b) := by rw [bne, beq_nat]
theorem dlt_nat (a b : Nat) : decide (((a : Nat) : Int) < ((b : Nat) : Int)) = decide (a < b) := by
  by_cases h : a < b
  · rw [decide_eq_true h, decide_eq_true (show ((a : Nat) : Int) < (b : Nat) by omega)]
  · rw [decide_eq_false h, decide_eq_false (show ¬ ((a : Nat) : Int) < (b : Nat) by omega)]
theorem dlt0_nat (b : Nat) : decide ((0 : Int) < ((b : Nat) : Int)) = decide (0 < b) := dlt_nat 0 b
theorem dle_nat (a b : Nat) : decide (((a : Nat) : Int) ≤ ((b : Nat) : Int)) = decide (a ≤ b) := by
  by_cases h : a ≤ b
  · rw [decide_eq_true h, decide_eq_true (show ((a : Nat) : Int) ≤ (b : Nat) by omega)]
  · rw [decide_eq_false h, decide_eq_false (show ¬ ((a : Nat) : Int) ≤ (b : Nat) by omega)]

/-- Limb by limb. -/
theorem ashift_eq (op : BinOp) (k : IntKind) (x y : Int) : ashift op k x y = if y < 0 then none else match op with
  | .shl => some (.int k (k.wrap (x * 2 ^ (min y.toNat k.bits))))
  | .shr => some (.int k (x.fdiv (2 ^ (min y.toNat k.bits))))
  | _ => none := rfl
attribute [go_sem] ashift_eq
theorem min32_64 : min (32 : Nat) 64 = 32 := rfl
theorem toNat32 : (32 : Int).toNat = 32 := rfl

/-- Words, as values. -/
def wv (a : List Nat) : List AV := a.map fun x : Nat => .int .u32 (x : Int)
theorem wv_length (a : List Nat) : (wv a).length = a.length := by simp [wv]
theorem wv_append (a b : List Nat) : wv (a ++ b) = wv a ++ wv b := by simp [wv]
theorem wv_flat (a : List Nat) : (wv a).all (·.flat1) = true := by simp [wv, AV.flat1]
theorem wv_take (a : List Nat) (n : Nat) : (wv a).take n = wv (a.take n) := by simp [wv, List.map_take]
theorem wv_drop (a : List Nat) (n : Nat) : (wv a).drop n = wv (a.drop n) := by simp [wv, List.map_drop]
theorem wv_head {a : List Nat} {i : Nat} (h : i < a.length) : ((wv a).drop i).head? = some (.int .u32 (a.getD i 0 : Nat)) := by
  rw [List.head?_drop]; simp [wv, List.getD, h]
theorem wv_lay {a : List Nat} {i v : Nat} (h : i < a.length) : (wv a).take i ++ [.int .u32 (v : Int)] ++ (wv a).drop (i + 1) = wv (a.set i v) := by
  rw [List.set_eq_take_append_cons_drop, if_pos h]; simp [wv]
theorem wv_rep (n : Nat) : repCells n [.int .u32 0] = wv (List.replicate n 0) := by
  induction n with
  | zero => rfl
  | succ n ih => simp only [repCells, ih, List.replicate_succ]; rfl
theorem wv_cells (a : List Nat) : (a.map fun x : Nat => AV.int .u32 (x : Int)).flatMap cellsD = wv a := by
  induction a with
  | nil => rfl
  | cons x a ih => simp only [List.map_cons, List.flatMap_cons, ih]; rfl
theorem wv_chunk (a : List Nat) : chunk 1 a.length (wv a) = wv a := by
  induction a with
  | nil => rfl
  | cons x a ih => simp only [wv, List.map_cons, List.length_cons, chunk, if_true, List.headD_cons, List.drop_succ_cons, List.drop_zero] at ih ⊢; rw [ih]
theorem getD_wv {a : List Nat} {i : Nat} (h : i < a.length) (d : AV) : (wv a).getD i d = .int .u32 (a.getD i 0 : Nat) := by simp [wv, List.getD, h]
/-- What an own slice of words is, as a value. -/
theorem frz1_wv {h : Heap} {b off len : Nat} {a : List Nat} (hb : h b = some (wv a)) (hl : off + len ≤ a.length) : frz1 h (.own b off len 1) = .sl 1 (wv ((a.drop off).take len)) := by
  have hc : cut (wv a) off (len * 1) = wv ((a.drop off).take len) := by unfold cut; rw [wv_drop, wv_take, Nat.mul_one]
  simp only [frz1, hb, hc, wv_length]
  rw [if_pos ⟨by omega, by omega, wv_flat _⟩]
  have := wv_chunk ((a.drop off).take len)
  have hl2 : ((a.drop off).take len).length = len := by simp; omega
  rw [hl2] at this; rw [this]
theorem frz1_wv0 {h : Heap} {b len : Nat} {a : List Nat} (hb : h b = some (wv a)) (hl : len = a.length) : frz1 h (.own b 0 len 1) = .sl 1 (wv a) := by
  subst hl; rw [frz1_wv hb (by omega)]; simp
end Go.Ab

set_option linter.unusedVariables false
set_option linter.unusedSimpArgs false
set_option maxRecDepth 10000
namespace Go.Ab

theorem dec_true {p : Prop} [Decidable p] (h : p) : decide p = true := by simp [h]
theorem dec_false {p : Prop} [Decidable p] (h : ¬ p) : decide p = false := by simp [h]
theorem beq_false_of {a b : Int} (h : a ≠ b) : (a == b) = false := by simp [h]
theorem ne_false (b : Bool) : (b != false) = b := by cases b <;> rfl
theorem bne_int (a b : Int) : (a != b) = !decide (a = b) := by by_cases h : a = b <;> simp [h]
theorem beq_int (a b : Int) : (a == b) = decide (a = b) := by by_cases h : a = b <;> simp [h]
theorem drop_cons {α : Type} {l : List α} {i : Nat} (h : i < l.length) : l.drop i = l[i] :: l.drop (i + 1) := List.drop_eq_getElem_cons h
theorem w01 : IntKind.i64.wrap (0 + 1) = 1 := by decide
theorem w12 : IntKind.i64.wrap (1 + 1) = 2 := by decide
theorem w10 : IntKind.i64.wrap (1 - 1) = 0 := by decide
theorem w21 : IntKind.i64.wrap (2 - 1) = 1 := by decide
theorem w0m : IntKind.i64.wrap (0 - 1) = -1 := by decide
theorem w11 : IntKind.i64.wrap (1 - 1) = 0 := by decide
theorem u01 : IntKind.u32.wrap (0 + 1) = 1 := by decide
theorem u11 : IntKind.u32.wrap (1 + 1) = 2 := by decide
theorem cast3 : ((3 : Nat) : Int) = 3 := rfl
def encW (a : List Nat) : AV := .sl 1 (a.map fun x : Nat => .int .u32 (x : Int))
theorem encW_wv (a : List Nat) : encW a = .sl 1 (wv a) := rfl
theorem getD_w {a : List Nat} {i : Nat} (h : i < a.length) (d : AV) : (a.map fun x : Nat => AV.int .u32 (x : Int)).getD i d = .int .u32 (a.getD i 0 : Nat) := by simp [List.getD, h]

theorem Ret.words {st : ASt} {t b len : Nat} {a : List Nat} (h1 : st.τ t = .own b 0 len 1) (h2 : st.h b = some (wv a)) (hl : len = a.length) : Ret [t] (encW a) st :=
  .mk (by simp only [resV, h1, frz_own]; exact frz1_wv0 h2 hl)

theorem args_words {h : Heap} {b len : Nat} {a : List Nat} (h2 : h b = some (wv a)) (hl : len = a.length) : [AV.own b 0 len 1].map (frz2 h) = [encW a] := congrArg (fun x => [x]) (frz1_wv0 h2 hl)

theorem args_wi {h : Heap} {b len : Nat} {a : List Nat} {k : IntKind} {i : Int} (h2 : h b = some (wv a)) (hl : len = a.length) : [AV.own b 0 len 1, .int k i].map (frz2 h) = [encW a, .int k i] := congrArg (fun x => [x, AV.int k i]) (frz1_wv0 h2 hl)
theorem Acc.frz {α : Type} {e : Nat} {enc : α → AV} (he : Elt e enc) {st : ASt} {v : AV} {l : List α} (h : Acc e enc st v l) : (frz1 st.h v).le (.sl e (l.map enc)) := by
  rcases h with ⟨rfl, rfl⟩ | ⟨b, rfl, h2, _⟩
  · exact AV.le_nil e
  · exact AV.le_of_eq (frz1_flatC he h2)
theorem Acc.keep {α : Type} {e : Nat} {enc : α → AV} {st st' : ASt} {v : AV} {l : List α} (h : Acc e enc st v l) (hn : st.n ≤ st'.n) (hh : ∀ b o n e, v = .own b o n e → b < st.n → st'.h b = st.h b) : Acc e enc st' v l := by
  rcases h with h | ⟨b, h1, h2, h3⟩
  · exact .inl h
  · exact .inr ⟨b, h1, by rw [hh _ _ _ _ h1 h3, h2], by omega⟩
end Go.Ab

set_option linter.unusedVariables false
set_option linter.unusedSimpArgs false
set_option maxRecDepth 10000
namespace Go.Ab

def noRet : Code → Bool
  | .ret => false
  | .seq a b => noRet a && noRet b
  | .cond _ a b => noRet a && noRet b
  | .block _ c => noRet c
  | .loop c => noRet c
  | .scope c => noRet c
  | _ => true
def noRetI : Item → Bool
  | .code c => noRet c
  | .inLoop c => noRet c
  | _ => true

theorem exitTo_app {id : Nat} {k : List Item} : ∀ {l l' : List Item}, exitTo id l = some l' → exitTo id (l ++ k) = some (l' ++ k) ∧ ∀ x ∈ l', x ∈ l
  | [], l', h => by simp [exitTo] at h
  | x :: l, l', h => by
    have step : (∀ id', x ≠ .inBlock id') → exitTo id (x :: l) = exitTo id l ∧ exitTo id (x :: l ++ k) = exitTo id (l ++ k) := fun hx => by
      cases x <;> first | exact ⟨rfl, rfl⟩ | exact absurd rfl (hx _)
    by_cases hx : ∃ id', x = .inBlock id'
    · obtain ⟨id', rfl⟩ := hx
      simp only [exitTo, List.cons_append] at h ⊢
      by_cases hi : (id' == id) = true
      · rw [if_pos hi] at h ⊢
        cases h
        exact ⟨rfl, fun x hx => by simp [hx]⟩
      · rw [if_neg hi] at h ⊢
        obtain ⟨h1, h2⟩ := exitTo_app h
        exact ⟨h1, fun x hx => by simp [h2 x hx]⟩
    · obtain ⟨s1, s2⟩ := step fun id' e => hx ⟨id', e⟩
      rw [s1] at h
      rw [s2]
      obtain ⟨h1, h2⟩ := exitTo_app h
      exact ⟨h1, fun x hx => by simp [h2 x hx]⟩

section
variable {P : Program} {pa : List Tmp} {Q J : ASt → Prop} {k : List Item}
theorem AW_app {l : List Item} {st : ASt} (h : AW P pa J l st) (hl : ∀ x ∈ l, noRetI x = true) (h2 : ∀ st', J st' → AW P pa Q k st') : AW P pa Q (l ++ k) st := by
  refine h (fun l st => (∀ x ∈ l, noRetI x = true) → AW P pa Q (l ++ k) st) ?_ hl
  clear h hl
  intro l st h hl
  have tl : ∀ {x : Item} {r : List Item}, l = x :: r → ∀ y ∈ r, noRetI y = true := fun e y hy => hl y (by rw [e]; exact List.mem_cons_of_mem _ hy)
  have hd : ∀ {x : Item} {r : List Item}, l = x :: r → noRetI x = true := fun e => hl _ (by rw [e]; exact List.mem_cons_self ..)
  unfold stepF at h
  split at h
  · exact h2 _ h
  · rw [List.cons_append, AW_skip]; exact h (tl rfl)
  · rw [List.cons_append, AW_seq]
    have := hd rfl
    simp only [noRetI, noRet, Bool.and_eq_true] at this
    exact h (fun y hy => by
      simp only [List.mem_cons] at hy
      rcases hy with rfl | rfl | hy
      · exact this.1
      · exact this.2
      · exact tl rfl y hy)
  · rename_i c a b r _
    rw [List.cons_append, AW_cond]
    have := hd rfl
    simp only [noRetI, noRet, Bool.and_eq_true] at this
    split at h
    · exact ⟨fun e => h.1 e (fun y hy => by
        simp only [List.mem_cons] at hy
        rcases hy with rfl | hy
        · exact this.1
        · exact tl rfl y hy), fun e => h.2 e (fun y hy => by
        simp only [List.mem_cons] at hy
        rcases hy with rfl | hy
        · exact this.2
        · exact tl rfl y hy)⟩
    · exact h.elim
  · rw [List.cons_append, AW_block]
    have := hd rfl
    simp only [noRetI, noRet] at this
    exact h (fun y hy => by
      simp only [List.mem_cons] at hy
      rcases hy with rfl | rfl | hy
      · exact this
      · rfl
      · exact tl rfl y hy)
  · rw [List.cons_append, AW_loop]
    have := hd rfl
    simp only [noRetI, noRet] at this
    exact h (fun y hy => by
      simp only [List.mem_cons] at hy
      rcases hy with rfl | rfl | hy
      · exact this
      · exact this
      · exact tl rfl y hy)
  · rw [List.cons_append, AW_exit]
    split at h
    · rename_i k' hk
      obtain ⟨h3, h4⟩ := exitTo_app (k := k) hk
      rw [h3]
      exact h (fun y hy => tl rfl y (h4 y hy))
    · exact h.elim
  · have := hd rfl
    simp [noRetI, noRet] at this
  · rw [List.cons_append, AW_region]
    exact ARegion_mono (fun st hs => hs (tl rfl)) h
  · rw [List.cons_append, AW_inBlock]; exact h (tl rfl)
  · rw [List.cons_append, AW_inLoop]
    have := hd rfl
    simp only [noRetI] at this
    exact h (fun y hy => by
      simp only [List.mem_cons] at hy
      rcases hy with rfl | rfl | hy
      · exact this
      · exact this
      · exact tl rfl y hy)
  · rw [List.cons_append, AW_scope]
    have := hd rfl
    simp only [noRetI, noRet] at this
    exact h (fun y hy => by
      simp only [List.mem_cons] at hy
      rcases hy with rfl | rfl | hy
      · exact this
      · rfl
      · exact tl rfl y hy)
  · rw [List.cons_append, AW_label]; exact h (tl rfl)
  · rw [List.cons_append, AW_inScope]; exact h (tl rfl)
  · exact h.elim

/-- One statement first; then, from what holds behind it, the rest. -/
theorem AW_cut (J : ASt → Prop) {c : Code} {st : ASt} (hc : noRet c = true) (h1 : AW P pa J [.code c] st) (h2 : ∀ st', J st' → AW P pa Q k st') : AW P pa Q (.code c :: k) st :=
  AW_app (l := [.code c]) h1 (fun x hx => by simp at hx; subst hx; exact hc) h2
end
end Go.Ab
