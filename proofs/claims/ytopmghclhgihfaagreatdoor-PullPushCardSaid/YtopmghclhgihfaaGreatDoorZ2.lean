/- Parts of the proof, joined: Ab6, Ab7, Ab8, H, Ab9, Ab10. -/
import Derived.Scope
import Derived.Test.YtopmghclhgihfaaGreatDoorProg
import Derived.Test.YtopmghclhgihfaaGreatDoorZ1

set_option linter.unusedVariables false
set_option linter.unusedSimpArgs false
set_option maxRecDepth 10000
namespace Go.Ab
open Go.RowKit

structure FRel (nt : Nat) (I : Imm) (M : Mp) (st : ASt) (a : Act) (w : World) : Prop where
  defers : a.defers = []
  size : a.tmps.size = nt
  tmps : ∀ t, VRel I M (st.τ t) (a.tmps.getD t undef)
  heap : HRel I M st.h st.n w

/-! ### Own slices turned to values -/
/-- An own slice's blocks, taken as only read. -/
theorem frz1_rel {I J : Imm} {M : Mp} {h : Heap} {n : Nat} {w : World} (H : HRel I M h n w) (hIJ : ILe I J) {x : AV} {v : Value} (hx : VRel I M x v)
    (hJ : ∀ i ∈ ids1 x, ∀ A sz, M i = .live A sz → J A.block = w.heap[A.block]?) : PRel J (frz1 h x) v := by
  cases x with
  | own b off len e =>
    simp only [frz1]
    split
    case h_2 => exact .undef _
    rename_i blk hb
    split
    case isFalse => exact .undef _
    rename_i hc
    obtain ⟨c1, c2, c3⟩ := hc
    obtain ⟨A, cap, rfl, hA, hcap, hm⟩ := hx.own_inv
    by_cases hl0 : len = 0
    · subst hl0; exact .sl0 _ _ _
    rcases hm with hm | ⟨B, sz, hm, hB⟩
    · have := H.no b (fun A sz h => by rw [hm] at h; cases h)
      rw [hb] at this; cases this
    obtain ⟨g1, g2, blk', c, el, g3, g4, g5, g6, g7, g8⟩ := H.live b B sz hm
    have g5' : c.size = sz.1 := congrArg Prod.fst g5
    rw [hb] at g3
    cases g3
    rcases hB with hB | ⟨rfl, hB⟩
    · omega
    have hcl : (cut blk off (len * e)).length = len * e := by simp [cut]; omega
    have hcg : ∀ j y, (cut blk off (len * e))[j]? = some y → blk[off + j]? = some y := fun j y hy => by
      unfold cut at hy
      rw [List.getElem?_take] at hy
      split at hy
      · rw [List.getElem?_drop] at hy; exact hy
      · cases hy
    have hle : len * e ≤ cap * e := Nat.mul_le_mul_right _ hcap
    refine .sl e _ ⟨B.block, B.off + off, none⟩ len cap c el (0, 0) (fun h0 => hl0 (by have := congrArg List.length h0; rw [chunk_length] at this; exact this)) (chunk_length _ _ _).symm hcap rfl
      (by rw [hJ b (by simp [ids1]) B sz hm]; exact g4) (by dsimp only; omega) (fun i x hx' => ?_) (fun i x cs j y u hx' hcs hy hu => ?_)
    · obtain ⟨cs', h1, h2, h3, _⟩ := chunk_get c2 len _ (by rw [hcl]; exact Nat.le_refl _) c3 i x hx'
      exact ⟨cs', h1, h2, h3⟩
    · obtain ⟨cs', h1, h2, h3, h4⟩ := chunk_get c2 len _ (by rw [hcl]; exact Nat.le_refl _) c3 i x hx'
      rw [hcs] at h1
      cases h1
      have h5 := h4 j y hy
      have h6 := hcg _ _ h5
      have hfl : y.flat1 = true := (List.all_eq_true.1 c3) y (List.mem_of_getElem? h5)
      exact (flat1_rel hfl (g8 _ y u h6 (by rw [← hu]; congr 1; dsimp only; omega))).mono hIJ
  | int k n => exact (flat1_rel rfl hx).mono hIJ
  | bool b => exact (flat1_rel rfl hx).mono hIJ
  | str s => exact (flat1_rel rfl hx).mono hIJ
  | nilsl => exact (flat1_rel rfl hx).mono hIJ
  | sl e l => exact (flat1_rel rfl hx).mono hIJ
  | pp cs => exact (flat1_rel rfl hx).mono hIJ
  | nilp => exact (flat1_rel rfl hx).mono hIJ
  | opq => exact (flat1_rel rfl hx).mono hIJ
  | ptr b off => exact .opq _ (hx.one rfl)
  | tptr b k t => exact .opq _ (hx.one rfl)
  | bsl b len t => exact .opq _ (hx.one rfl)
  | bptr b t => exact .opq _ (hx.one rfl)
  | func f cap => exact .opq _ (hx.one rfl)
  | ifc t x => exact .opq _ (hx.one rfl)
  | _ => exact .undef _

theorem frz2_rel {I J : Imm} {M : Mp} {h : Heap} {n : Nat} {w : World} (H : HRel I M h n w) (hIJ : ILe I J) {x : AV} {v : Value} (hx : VRel I M x v)
    (hJ : ∀ i ∈ ids2 x, ∀ A sz, M i = .live A sz → J A.block = w.heap[A.block]?) : PRel J (frz2 h x) v := by
  cases x with
  | agg cs =>
    obtain ⟨vs, rfl, hs, hv⟩ := hx.agg_inv
    refine .agg _ _ (by simpa using hs) fun i y u hy hu => ?_
    simp only [List.getElem?_map, Option.map_eq_some_iff] at hy
    obtain ⟨z, hz, rfl⟩ := hy
    exact frz1_rel H hIJ (hv i z u hz hu) fun j hj => hJ j (by simp only [ids2, List.mem_flatMap]; exact ⟨z, List.mem_of_getElem? hz, hj⟩)
  | _ => exact frz1_rel H hIJ hx hJ

theorem scal1_rel {I J : Imm} {x : AV} {v : Value} (hs : x.scal1 = true) (h : PRel I x v) : PRel J x v := by
  cases h <;> first | exact .int _ _ | exact .bool _ | exact .str _ | simp [AV.scal1] at hs
theorem scal2_rel {I J : Imm} {x : AV} {v : Value} (hs : x.scal2 = true) (h : PRel I x v) : PRel J x v := by
  cases x with
  | agg cs =>
    cases h with
    | agg _ vs h1 h2 => exact .agg _ _ h1 fun i y u hy hu => scal1_rel ((List.all_eq_true.1 hs) y (List.mem_of_getElem? hy)) (h2 i y u hy hu)
  | _ => exact scal1_rel hs h
theorem scalar_rel {I J : Imm} {x : AV} {v : Value} (hs : x.scalar = true) (h : PRel I x v) : PRel J x v := by
  cases x with
  | tup cs =>
    cases h with
    | tup _ vs h1 h2 => exact .tup _ _ h1 fun i y u hy hu => scal2_rel ((List.all_eq_true.1 hs) y (List.mem_of_getElem? hy)) (h2 i y u hy hu)
  | _ => exact scal2_rel hs h

theorem updH_ids (ids : List Nat) (h : Heap) (i : Nat) : updH h (ids.map (·, none)) i = if i ∈ ids then none else h i := by
  induction ids generalizing h with
  | nil => simp [updH]
  | cons j r ih =>
    simp only [List.map_cons, updH, ih]
    by_cases h1 : i ∈ r
    · simp [h1]
    · by_cases h2 : i = j <;> simp [h1, h2]

/-- How a call with values alone is used, in the middle of a run. -/
theorem pcall_use {P : Program} {f : FuncId} {args : List AV} {cargs : Array Value} {v : AV} {I : Imm} {M : Mp} {h : Heap} {n : Nat} {w : World} (H : HRel I M h n w) (hargs : AllRel I M args cargs) (hP : PCalls P f (args.map (frz2 h)) v) :
    Calls P f cargs w fun e w' => ∃ cv I' M', e = .returned cv ∧ VRel I' M' v cv ∧ HRel I' M' (updH h (callOut v (args.flatMap ids2)).up) n w' ∧ Ext I M w I' M' w' ∧ (∀ j, M j = MS.fresh → M' j = MS.fresh) := by
  classical
  have himmlt : ∀ b o, I b = some o → b < w.heap.size := fun b o hb => by
    have := H.imm b o hb
    rcases Nat.lt_or_ge b w.heap.size with h | h
    · exact h
    · simp [Array.getElem?_eq_none h] at this
  let ids := args.flatMap ids2
  let J : Imm := fun b => if ∃ i ∈ ids, ∃ A sz, M i = .live A sz ∧ A.block = b then w.heap[b]? else I b
  have hIJ : ILe I J := fun b o hb => by
    show (if _ then _ else _) = _
    split
    · exact H.imm b o hb
    · exact hb
  have hJimm : ∀ b o, J b = some o → w.heap[b]? = some o := fun b o hb => by
    by_cases hc : ∃ i ∈ ids, ∃ A sz, M i = .live A sz ∧ A.block = b
    · have : J b = w.heap[b]? := if_pos hc
      rw [← this]; exact hb
    · have : J b = I b := if_neg hc
      rw [this] at hb; exact H.imm b o hb
  have hJids : ∀ i ∈ ids, ∀ A sz, M i = .live A sz → J A.block = w.heap[A.block]? := fun i hi A sz hm => if_pos ⟨i, hi, A, sz, hm, rfl⟩
  have hJargs : AllRel J M0 (args.map (frz2 h)) cargs := by
    refine ⟨by rw [List.length_map]; exact hargs.1, fun i x u hx hu => ?_⟩
    simp only [List.getElem?_map, Option.map_eq_some_iff] at hx
    obtain ⟨z, hz, rfl⟩ := hx
    exact .pure _ _ (frz2_rel H hIJ (hargs.2 i z u hz hu) fun j hj => hJids j (List.mem_flatMap.2 ⟨z, List.mem_of_getElem? hz, hj⟩))
  refine (hP.2 J w cargs hJimm hJargs).mono fun e w' ⟨cv, I', he, hle, himm, hv, hb, hnew⟩ => ?_
  have hkeep : ∀ b, b < w.heap.size → w'.heap[b]? = w.heap[b]? := fun b hb' => hb.block b hb'
  by_cases hsc : v.scalar = true
  · have hup : (callOut v (args.flatMap ids2)).up = [] := by simp [callOut, hsc]
    rw [hup]
    refine ⟨cv, I, M, he, .pure _ _ (scalar_rel hsc hv), ⟨fun b o hbo => ?_, H.fr, H.no, fun i A sz hm => ?_, H.inj⟩, ⟨hb.os, hb.tape, hb.output, hb.size, fun b hb' _ => hkeep b hb', .refl _, .refl _, fun _ _ h _ => h, fun _ h => .inl h⟩, fun _ h => h⟩
    · rw [hkeep b (himmlt b o hbo)]; exact H.imm b o hbo
    · obtain ⟨g1, g2, b', c', el', g3, g4, g5⟩ := H.live i A sz hm
      exact ⟨g1, g2, b', c', el', g3, by rw [hkeep _ (Live.lt H ⟨i, A, sz, hm, rfl⟩)]; exact g4, g5⟩
  · have hup : (callOut v (args.flatMap ids2)).up = ids.map (·, none) := by simp [callOut, hsc, ids]
    rw [hup]
    let M' : Mp := fun i => match M i with | .live A sz => if i ∈ ids then .gone else .live A sz | s => s
    have hM'live : ∀ i A sz, M' i = .live A sz → M i = .live A sz ∧ i ∉ ids := fun i A sz hm => by
      simp only [M'] at hm
      split at hm
      · split at hm
        · cases hm
        · rename_i h1 h2; cases hm; exact ⟨h1, h2⟩
      · rename_i hne; exact absurd hm (hne A sz)
    have hMM : MLe M M' := fun i => by
      cases hmi : M i with
      | fresh => trivial
      | gone => simp only [M', hmi]
      | live A sz =>
        by_cases hi : i ∈ ids
        · simp only [M', hmi, if_pos hi]; exact .inr trivial
        · simp only [M', hmi, if_neg hi]; exact .inl trivial
    have hII : ILe I I' := hIJ.trans hle
    have hfr : ∀ j, M j = MS.fresh → M' j = MS.fresh := fun j hj => by simp only [M', hj]
    refine ⟨cv, I', M', he, .pure _ _ hv, ⟨himm, fun i hi => hfr i (H.fr i hi), fun i hi => ?_, fun i A sz hm => ?_, fun i j A sz B sz' hi hj hbb => H.inj i j A sz B sz' (hM'live _ _ _ hi).1 (hM'live _ _ _ hj).1 hbb⟩,
      ⟨hb.os, hb.tape, hb.output, hb.size, fun b hb' _ => hkeep b hb', hII, hMM, fun b hb' hI hn => ?_, fun b ⟨i, A, sz, hm, hbb⟩ => .inl ⟨i, A, sz, (hM'live _ _ _ hm).1, hbb⟩⟩, hfr⟩
    · rw [updH_ids]
      by_cases hid : i ∈ ids
      · rw [if_pos hid]
      · rw [if_neg hid]
        refine H.no i fun A sz hm => hi A sz ?_
        simp only [M', hm, if_neg hid]
    · obtain ⟨hm1, hm2⟩ := hM'live i A sz hm
      obtain ⟨g1, g2, b', c', el', g3, g4, g5, g6, g7, g8⟩ := H.live i A sz hm1
      have hlt := Live.lt H ⟨i, A, sz, hm1, rfl⟩
      refine ⟨g1, hnew A.block hlt ?_, b', c', el', by rw [updH_ids, if_neg hm2]; exact g3, by rw [hkeep _ hlt]; exact g4, g5, g6, g7, fun j x u hx hu => (g8 j x u hx hu).mono hII hMM⟩
      have : J A.block = I A.block := if_neg (by
        rintro ⟨k, hk, B, sz', hB, hbb⟩
        have := H.inj k i B sz' A sz hB hm1 hbb
        subst this
        exact hm2 hk)
      rw [this]; exact g2
    · refine hnew b hb' ?_
      have : J b = I b := if_neg (by
        rintro ⟨k, hk, B, sz', hB, hbb⟩
        exact hn ⟨k, B, sz', hB, hbb⟩)
      rw [this]; exact hI

/-- How a call with values alone is used, in the middle of a run; own slices among its arguments are only read from then on. -/
theorem pcall_freeze {P : Program} {f : FuncId} {args : List AV} {cargs : Array Value} {v : AV} {I : Imm} {M : Mp} {h : Heap} {n : Nat} {w : World} (H : HRel I M h n w) (hargs : AllRel I M args cargs) (hP : PCalls P f (args.map (frz2 h)) v) :
    Calls P f cargs w fun e w' => ∃ cv I' M', e = .returned cv ∧ VRel I' M' v cv ∧ HRel I' M' (updH h ((args.flatMap ids2).map (·, none))) n w' ∧ Ext I M w I' M' w' ∧ (∀ j, M j = MS.fresh → M' j = MS.fresh) ∧ (∀ x u, VRel I M x u → VRel I' M' (frzT (args.flatMap ids2) h x) u) := by
  classical
  have himmlt : ∀ b o, I b = some o → b < w.heap.size := fun b o hb => by
    have := H.imm b o hb
    rcases Nat.lt_or_ge b w.heap.size with h | h
    · exact h
    · simp [Array.getElem?_eq_none h] at this
  let ids := args.flatMap ids2
  let J : Imm := fun b => if ∃ i ∈ ids, ∃ A sz, M i = .live A sz ∧ A.block = b then w.heap[b]? else I b
  have hIJ : ILe I J := fun b o hb => by
    show (if _ then _ else _) = _
    split
    · exact H.imm b o hb
    · exact hb
  have hJimm : ∀ b o, J b = some o → w.heap[b]? = some o := fun b o hb => by
    by_cases hc : ∃ i ∈ ids, ∃ A sz, M i = .live A sz ∧ A.block = b
    · have : J b = w.heap[b]? := if_pos hc
      rw [← this]; exact hb
    · have : J b = I b := if_neg hc
      rw [this] at hb; exact H.imm b o hb
  have hJids : ∀ i ∈ ids, ∀ A sz, M i = .live A sz → J A.block = w.heap[A.block]? := fun i hi A sz hm => if_pos ⟨i, hi, A, sz, hm, rfl⟩
  have hJargs : AllRel J M0 (args.map (frz2 h)) cargs := by
    refine ⟨by rw [List.length_map]; exact hargs.1, fun i x u hx hu => ?_⟩
    simp only [List.getElem?_map, Option.map_eq_some_iff] at hx
    obtain ⟨z, hz, rfl⟩ := hx
    exact .pure _ _ (frz2_rel H hIJ (hargs.2 i z u hz hu) fun j hj => hJids j (List.mem_flatMap.2 ⟨z, List.mem_of_getElem? hz, hj⟩))
  refine (hP.2 J w cargs hJimm hJargs).mono fun e w' ⟨cv, I', he, hle, himm, hv, hb, hnew⟩ => ?_
  have hkeep : ∀ b, b < w.heap.size → w'.heap[b]? = w.heap[b]? := fun b hb' => hb.block b hb'
  let M' : Mp := fun i => match M i with | .live A sz => if i ∈ ids then .gone else .live A sz | s => s
  have hM'live : ∀ i A sz, M' i = .live A sz → M i = .live A sz ∧ i ∉ ids := fun i A sz hm => by
    simp only [M'] at hm
    split at hm
    · split at hm
      · cases hm
      · rename_i h1 h2; cases hm; exact ⟨h1, h2⟩
    · rename_i hne; exact absurd hm (hne A sz)
  have hMM : MLe M M' := fun i => by
    cases hmi : M i with
    | fresh => trivial
    | gone => simp only [M', hmi]
    | live A sz =>
      by_cases hi : i ∈ ids
      · simp only [M', hmi, if_pos hi]; exact .inr trivial
      · simp only [M', hmi, if_neg hi]; exact .inl trivial
  have hII : ILe I I' := hIJ.trans hle
  have hfr : ∀ j, M j = MS.fresh → M' j = MS.fresh := fun j hj => by simp only [M', hj]
  refine ⟨cv, I', M', he, .pure _ _ hv, ⟨himm, fun i hi => hfr i (H.fr i hi), fun i hi => ?_, fun i A sz hm => ?_, fun i j A sz B sz' hi hj hbb => H.inj i j A sz B sz' (hM'live _ _ _ hi).1 (hM'live _ _ _ hj).1 hbb⟩,
    ⟨hb.os, hb.tape, hb.output, hb.size, fun b hb' _ => hkeep b hb', hII, hMM, fun b hb' hI hn => ?_, fun b ⟨i, A, sz, hm, hbb⟩ => .inl ⟨i, A, sz, (hM'live _ _ _ hm).1, hbb⟩⟩, hfr, fun x u hx => ?_⟩
  · rw [updH_ids]
    by_cases hid : i ∈ ids
    · rw [if_pos hid]
    · rw [if_neg hid]
      refine H.no i fun A sz hm => hi A sz ?_
      simp only [M', hm, if_neg hid]
  · obtain ⟨hm1, hm2⟩ := hM'live i A sz hm
    obtain ⟨g1, g2, b', c', el', g3, g4, g5, g6, g7, g8⟩ := H.live i A sz hm1
    have hlt := Live.lt H ⟨i, A, sz, hm1, rfl⟩
    refine ⟨g1, hnew A.block hlt ?_, b', c', el', by rw [updH_ids, if_neg hm2]; exact g3, by rw [hkeep _ hlt]; exact g4, g5, g6, g7, fun j x u hx hu => (g8 j x u hx hu).mono hII hMM⟩
    have : J A.block = I A.block := if_neg (by
      rintro ⟨k, hk, B, sz', hB, hbb⟩
      have := H.inj k i B sz' A sz hB hm1 hbb
      subst this
      exact hm2 hk)
    rw [this]; exact g2
  · refine hnew b hb' ?_
    have : J b = I b := if_neg (by
      rintro ⟨k, hk, B, sz', hB, hbb⟩
      exact hn ⟨k, B, sz', hB, hbb⟩)
    rw [this]; exact hI
  · have hI' : ∀ i ∈ ids, ∀ A sz, M i = .live A sz → I' A.block = w.heap[A.block]? := fun i hi A sz hm => by
      have h1 := hJids i hi A sz hm
      have hlt := Live.lt H ⟨i, A, sz, hm, rfl⟩
      rw [Array.getElem?_eq_getElem hlt] at h1 ⊢
      exact hle _ _ h1
    have one : ∀ x u, VRel I M x u → VRel I' M' (frzT1 ids h x) u := fun x u hx => by
      cases x with
      | own b off len e =>
        simp only [frzT1]
        by_cases hb' : b ∈ ids
        · rw [if_pos hb']
          exact .pure _ _ (frz1_rel H hII hx fun i hi => (by simp only [ids1, List.mem_singleton] at hi; subst hi; exact hI' i hb'))
        · rw [if_neg hb']; exact hx.mono hII hMM
      | _ => exact hx.mono hII hMM
    cases x with
    | agg cs =>
      obtain ⟨vs, rfl, hs, hv'⟩ := hx.agg_inv
      refine .agg _ _ (by simpa using hs) fun i y u hy hu => ?_
      simp only [List.getElem?_map, Option.map_eq_some_iff] at hy
      obtain ⟨z, hz, rfl⟩ := hy
      exact one _ _ (hv' i z u hz hu)
    | _ => exact one _ _ hx

section
variable {P : Program} {pa : List Tmp} {nt : Nat} {I : Imm} {M : Mp} {st : ASt} {a : Act} {w : World} {ops : Array Oper}

theorem put_rel {I' : Imm} {M' : Mp} (hI : ILe I I') (hM : MLe M M') (hsz : a.tmps.size = nt) (ht : ∀ t, VRel I M (st.τ t) (a.tmps.getD t undef)) {d : Option Tmp} (hd : ∀ t : Nat, d = some t → t < nt) {x : AV} {v : Value} (hv : VRel I' M' x v) :
    (a.put d v).tmps.size = nt ∧ (a.put d v).defers = a.defers ∧ ∀ t, VRel I' M' (putT st.τ d x t) ((a.put d v).tmps.getD t undef) := by
  cases d with
  | none => exact ⟨hsz, rfl, fun t => (ht t).mono hI hM⟩
  | some d =>
    have hd' := hd d rfl
    refine ⟨by simp [Act.put, hsz], rfl, fun t => ?_⟩
    simp only [putT, Act.put]
    by_cases e : t = d
    · subst e
      rw [if_pos rfl]
      have : t < a.tmps.size := by omega
      simp [Array.getD, this]
      exact hv
    · rw [if_neg e]
      have := (ht t).mono hI hM
      simp only [Array.getD_eq_getD_getElem?] at this ⊢
      rw [Array.getElem?_setIfInBounds_ne (fun h => e h.symm)]
      exact this

theorem awant_sound {o : Oper} (hsz : a.tmps.size = nt) (ht : ∀ t, VRel I M (st.τ t) (a.tmps.getD t undef)) (hops : ∀ (i : Nat) (o : Oper) (t : Nat), ops[i]? = some o → o.dst = some t → t < nt) {b : Bool} (h : awant ops o st.τ = some b) :
    Region.wanted o (yielded ops a.tmps) = b := by
  unfold awant at h
  unfold Region.wanted
  split at h
  · rename_i hg; simp only [hg]; cases h; rfl
  · rename_i g want hg
    simp only [hg]
    split at h
    · rename_i d hd
      have hdn : d < nt := by
        cases ho : ops[g]? with
        | none => simp [ho] at hd
        | some o' => simp only [ho, Option.bind_some] at hd; exact hops g o' d ho hd
      have hlt : (d : Nat) < a.tmps.size := by rw [hsz]; exact hdn
      have h1 := ht d
      have hget : a.tmps[d]? = some (a.tmps.getD d undef) := by simp [Array.getD, hlt]
      unfold yielded
      rw [hd]
      simp only [Option.bind_some, hget]
      split at h
      · rename_i c hc
        rw [hc] at h1
        rw [h1.bool_inv]
        cases h
        cases c <;> cases want <;> rfl
      · rename_i vs hc
        rw [hc] at h1
        obtain ⟨us, hu, _⟩ := h1.tup_inv
        rw [hu]
        cases h
        rfl
      · cases h
    · rename_i hd
      unfold yielded
      rw [hd]
      cases h
      rfl

/-- An outcome, carried out. -/
theorem res_sound {slot : Nat} {o : Oper} {out : Out} (F : FRel nt I M st a w) (hops : ∀ (i : Nat) (o : Oper) (t : Nat), ops[i]? = some o → o.dst = some t → t < nt) {i : Nat} (hi : ops[i]? = some o) (hs : M slot = .fresh) (hn : slot < st.n)
    (hr : Res P pa ops slot o st out) {Q : Exit → Act → World → Prop} {K : Act → World → Prop}
    (hK : ∀ a' w' I' M', FRel nt I' M' (app st o out) a' w' → Ext I M w I' M' w' → (∀ j, j ≠ slot → M j = MS.fresh → M' j = MS.fresh) → K a' w') : wpOp P ops Q i K a w := by
  have hd : ∀ t : Nat, o.dst = some t → t < nt := fun t ht => hops i o t hi ht
  unfold wpOp
  simp only [hi]
  rcases hr with ⟨hw, hr⟩ | ⟨hw, rfl⟩
  · rw [awant_sound F.size F.tmps hops hw]
    simp only [if_true]
    refine .inl ?_
    rcases hr with hr | ⟨f, args, v, hcall, hP, rfl⟩
    · obtain ⟨v, w', I', M', hrun, hv, hh, he, hfr⟩ := aop_sound F.heap (fun x => aev_rel F.tmps x) hs hn hr
      obtain ⟨p1, p2, p3⟩ := put_rel (st := st) he.imm he.mp F.size F.tmps hd hv
      have fin := hK (a.put o.dst v) w' I' M' ⟨by rw [p2]; exact F.defers, p1, p3, hh⟩ he hfr
      unfold Oper.wp
      rcases hrun with hrun | ⟨hrun, rfl⟩
      · rw [hrun]; exact fin
      · rw [hrun]; exact fin
    · obtain ⟨cargs, hrun, hargs⟩ := call_sound (o := o) (ρ := a.eval) (w := w) (M := M) (I := I) (fun x => aev_rel F.tmps x) hcall hP.1
      unfold Oper.wp
      rw [hrun]
      refine (pcall_use F.heap hargs hP).mono fun e w' ⟨cv, I', M', he, hv, hh, hx, hfr⟩ => ?_
      subst he
      obtain ⟨p1, p2, p3⟩ := put_rel (st := st) hx.imm hx.mp F.size F.tmps hd hv
      exact hK (a.put o.dst cv) w' I' M' ⟨by rw [p2]; exact F.defers, p1, p3, hh⟩ hx fun j _ => hfr j
  · rw [awant_sound F.size F.tmps hops hw]
    simp only [Bool.false_eq_true, if_false]
    obtain ⟨p1, p2, p3⟩ := put_rel (st := st) (.refl I) (.refl M) F.size F.tmps hd (x := .tup []) (v := undef) (.pure _ _ (.tup [] #[] rfl (fun i x v hx => by simp at hx)))
    exact hK _ w I M ⟨by rw [p2]; exact F.defers, p1, p3, F.heap⟩ (.refl _ _ _) fun _ _ h => h

/-- The text's order. -/
theorem swalk_sound {Q : Exit → Act → World → Prop} {K : ASt → Prop} (top : Nat) (hops : ∀ (i : Nat) (o : Oper) (t : Nat), ops[i]? = some o → o.dst = some t → t < nt) : ∀ (l : List Oper) (i slot : Nat) (st : ASt) (I : Imm) (M : Mp) (a : Act) (w : World),
    (∀ j, l[j]? = ops[i + j]?) → FRel nt I M st a w → (∀ j, slot ≤ j → j < top → M j = MS.fresh) → slot + l.length ≤ top → top ≤ st.n → SWalk P pa ops l slot st K →
    (∀ st' I' M' a' w', K st' → FRel nt I' M' st' a' w' → Ext I M w I' M' w' → st.n ≤ st'.n → (∀ j, j < slot → M j = MS.fresh → M' j = MS.fresh) → Q .normal a' w') →
    wpOps P ops Q (List.range' i l.length) a w
  | [], i, slot, st, I, M, a, w, _, F, _, _, _, h, hQ => by
    simp only [List.length_nil, List.range'_zero, wpOps]
    exact hQ st I M a w h F (.refl _ _ _) (Nat.le_refl _) fun _ _ h => h
  | o :: rest, i, slot, st, I, M, a, w, hl, F, hfr, hsn, htop, h, hQ => by
    have hi : ops[i]? = some o := by simpa using (hl 0).symm
    have hl' : ∀ j, rest[j]? = ops[i + 1 + j]? := fun j => by have := hl (j + 1); simpa [Nat.add_assoc, Nat.add_comm 1 j] using this
    simp only [List.length_cons] at hsn ⊢
    rw [List.range'_succ, wpOps_cons]
    have step : ∀ out, Res P pa ops slot o st out → SWalk P pa ops rest (slot + 1) (app st o out) K → wpOp P ops Q i (wpOps P ops Q (List.range' (i + 1) rest.length)) a w := fun out hr hk =>
      res_sound F hops hi (hfr slot (Nat.le_refl _) (by omega)) (by omega) hr fun a' w' I' M' F' he hf' =>
        swalk_sound top hops rest (i + 1) (slot + 1) (app st o out) I' M' a' w' hl' F' (fun j hj hj' => hf' j (by omega) (hfr j (by omega) hj')) (by omega) (by simpa only [app] using htop) hk
          fun st'' I'' M'' a'' w'' hK'' F'' he'' hn'' hf'' => hQ st'' I'' M'' a'' w'' hK'' F'' (he.trans he'') hn'' fun j hj hm => hf'' j (by omega) (hf' j (by omega) hm)
    simp only [SWalk] at h
    split at h
    · rename_i hw
      split at h
      · rename_i out ha; exact step out (.inl ⟨hw, .inl ha⟩) h
      · rename_i f args ha
        rcases h with (⟨v, hP, hk⟩ | ⟨post, hH, hk⟩) | ⟨v, hP, hk⟩
        · exact step _ (.inl ⟨hw, .inr ⟨f, args, v, ha, hP, rfl⟩⟩) hk
        · have hd : ∀ t : Nat, o.dst = some t → t < nt := fun t ht => hops i o t hi ht
          obtain ⟨cargs, hrun, hargs⟩ := call_sound (o := o) (ρ := a.eval) (w := w) (M := M) (I := I) (fun x => aev_rel F.tmps x) ha hH.1
          unfold wpOp
          simp only [hi]
          rw [awant_sound F.size F.tmps hops hw]
          simp only [if_true]
          refine .inl ?_
          unfold Oper.wp
          rw [hrun]
          refine (hH.2 I M w cargs F.heap hargs).mono fun e w' ⟨cv, v, I', M', h', n', he, hpost, hv, hh, hx, hnn, hf'⟩ => ?_
          subst he
          obtain ⟨p1, p2, p3⟩ := put_rel (st := st) hx.imm hx.mp F.size F.tmps hd hv
          exact swalk_sound top hops rest (i + 1) (slot + 1) { τ := putT st.τ o.dst v, h := h', n := n' } I' M' (a.put o.dst cv) w' hl' ⟨by rw [p2]; exact F.defers, p1, p3, hh⟩ (fun j hj hj' => hf' j (by omega) (hfr j (by omega) hj')) (by omega) (by simp only; omega) (hk v h' n' hnn hpost)
            fun st'' I'' M'' a'' w'' hK'' F'' he'' hn'' hf'' => hQ st'' I'' M'' a'' w'' hK'' F'' (hx.trans he'') (by simp only at hn''; omega) fun j hj hm => hf'' j (by omega) (hf' j (by omega) hm)
        · have hd : ∀ t : Nat, o.dst = some t → t < nt := fun t ht => hops i o t hi ht
          obtain ⟨cargs, hrun, hargs⟩ := call_sound (o := o) (ρ := a.eval) (w := w) (M := M) (I := I) (fun x => aev_rel F.tmps x) ha hP.1
          unfold wpOp
          simp only [hi]
          rw [awant_sound F.size F.tmps hops hw]
          simp only [if_true]
          refine .inl ?_
          unfold Oper.wp
          rw [hrun]
          refine (pcall_freeze F.heap hargs hP).mono fun e w' ⟨cv, I', M', he, hv, hh, hx, hf', hfz⟩ => ?_
          subst he
          obtain ⟨p1, p2, p3⟩ := put_rel (st := { st with τ := frzτ (args.flatMap ids2) st.h st.τ }) (I := I') (M := M') (.refl _) (.refl _) F.size (fun t => hfz _ _ (F.tmps t)) hd hv
          exact swalk_sound top hops rest (i + 1) (slot + 1) (frzSt (args.flatMap ids2) st o.dst v) I' M' (a.put o.dst cv) w' hl' ⟨by rw [p2]; exact F.defers, p1, p3, hh⟩ (fun j hj hj' => hf' j (hfr j (by omega) hj')) (by omega) (by simpa only [frzSt] using htop) hk
            fun st'' I'' M'' a'' w'' hK'' F'' he'' hn'' hf'' => hQ st'' I'' M'' a'' w'' hK'' F'' (hx.trans he'') hn'' fun j hj hm => hf'' j (by omega) (hf' j hm)
      · exact h.elim
    · rename_i hw; exact step skipOut (.inr ⟨hw, rfl⟩) h
    · exact h.elim


/-! ### Orders -/
/-- What number 'i' comes to, in a statement that draws its order. -/
def ResD (P : Program) (pa : List Tmp) (ops : Array Oper) (base : Nat) (T : Nat → Out) (i : Nat) (o : Oper) (st : ASt) (out : Out) : Prop :=
  Res P pa ops (base + i) o st out ∨ (awant ops o st.τ = some true ∧ ∃ f args, aop P (isPure pa o) o.op (base + i) (aev st.τ) st.h = some (.call f args) ∧ OLoc P f args st.h out ∧
    ∀ e ∈ out.up.map (·.1), st.h e = none → base + ops.size ≤ e ∧ e < base + ops.size + growP pa ∧ ∀ j, j < i → e ∉ (T j).up.map (·.1))
/-- Operations come up in any order; number 'i' comes to 'T i'. -/
def AAny (P : Program) (pa : List Tmp) (ops : Array Oper) (base : Nat) (T : Nat → Out) (K : ASt → Prop) : Nat → Array Bool → ASt → Prop
  | 0, listed, st => Region.ready .any ops listed = [] ∧ K st
  | fuel + 1, listed, st => (Region.ready .any ops listed = [] → K st) ∧
    ∀ i ∈ Region.ready .any ops listed, ∃ o, ops[i]? = some o ∧ ResD P pa ops base T i o st (T i) ∧ AAny P pa ops base T K fuel (listed.setIfInBounds i true) (app st o (T i))

theorem resD_sound {base i : Nat} {T : Nat → Out} {o : Oper} {out : Out} (F : FRel nt I M st a w) (hops : ∀ (i : Nat) (o : Oper) (t : Nat), ops[i]? = some o → o.dst = some t → t < nt) (hi : ops[i]? = some o) (hil : i < ops.size) (hs : M (base + i) = .fresh) (hn : base + i < st.n)
    (hr : ResD P pa ops base T i o st out) (hex : ∀ e, base + ops.size ≤ e → e < base + ops.size + growP pa → e ∈ out.up.map (·.1) → (∀ j, j < i → e ∉ (T j).up.map (·.1)) → M e = .fresh ∧ e < st.n) {Q : Exit → Act → World → Prop} {K : Act → World → Prop}
    (hK : ∀ a' w' I' M', FRel nt I' M' (app st o out) a' w' → Ext I M w I' M' w' → (∀ j, j ≠ base + i → (base + ops.size ≤ j → j ∉ out.up.map (·.1)) → M j = MS.fresh → M' j = MS.fresh) → K a' w') : wpOp P ops Q i K a w := by
  rcases hr with hr | ⟨hw, f, args, hcall, hO, hnew⟩
  · exact res_sound F hops hi hs hn hr fun a' w' I' M' F' he hf => hK a' w' I' M' F' he fun j hj _ => hf j hj
  · have hd : ∀ t : Nat, o.dst = some t → t < nt := fun t ht => hops i o t hi ht
    unfold wpOp
    simp only [hi]
    rw [awant_sound F.size F.tmps hops hw]
    simp only [if_true]
    refine .inl ?_
    obtain ⟨cargs, hrun, hargs⟩ := call_sound (o := o) (ρ := a.eval) (w := w) (M := M) (I := I) (fun x => aev_rel F.tmps x) hcall hO.1
    unfold Oper.wp
    rw [hrun]
    refine (hO.2 st.h (fun _ _ => rfl) I M st.n w cargs F.heap hargs fun e he hh => ?_).mono fun e w' ⟨cv, I', M', he, hv, hh, hx, hfr⟩ => ?_
    · obtain ⟨e1, e2, e3⟩ := hnew e he hh
      exact hex e e1 e2 he e3
    subst he
    obtain ⟨p1, p2, p3⟩ := put_rel (st := st) hx.imm hx.mp F.size F.tmps hd hv
    refine hK (a.put o.dst cv) w' I' M' ⟨by rw [p2]; exact F.defers, p1, p3, hh⟩ hx fun j _ hj hm => ?_
    by_cases hju : j ∈ out.up.map (·.1)
    · have hno : st.h j = none := F.heap.no j fun A sz h => by rw [hm] at h; cases h
      exact absurd hju (hj (hnew j hju hno).1)
    · exact hfr j hju hm

theorem aany_sound {Q : Exit → Act → World → Prop} {K : ASt → Prop} {base : Nat} {T : Nat → Out} (hops : ∀ (i : Nat) (o : Oper) (t : Nat), ops[i]? = some o → o.dst = some t → t < nt)
    (hP : ∀ j k o, j < k → ops[k]? = some o → waitsB j o = false → outOk (T j) (T k)) : ∀ (fuel : Nat) (listed : Array Bool) (st : ASt) (I : Imm) (M : Mp) (a : Act) (w : World),
    listed.size = ops.size → FRel nt I M st a w → (∀ i, i < ops.size → listed.getD i true = false → M (base + i) = .fresh) →
    (∀ e, base + ops.size ≤ e → e < base + ops.size + growP pa → (∀ j, j < ops.size → listed.getD j true = true → e ∉ (T j).up.map (·.1)) → M e = .fresh) →
    (∀ (j : Nat) (oj : Oper), ops[j]? = some oj → listed.getD j true = true → ∀ e ∈ oj.after, Region.binds .any e = true → listed.getD e.on false = true) →
    base + ops.size + growP pa ≤ st.n → AAny P pa ops base T K fuel listed st →
    (∀ st' I' M' a' w', K st' → FRel nt I' M' st' a' w' → Ext I M w I' M' w' → st'.n = st.n → (∀ j, j < base → M j = MS.fresh → M' j = MS.fresh) → Q .normal a' w') →
    wpAny P .any ops Q fuel listed a w
  | 0, listed, st, I, M, a, w, _, F, _, _, _, _, h, hQ => ⟨h.1, hQ st I M a w h.2 F (.refl _ _ _) rfl fun _ _ h => h⟩
  | fuel + 1, listed, st, I, M, a, w, hls, F, hfr, hE, hcl, hn, h, hQ => by
    refine ⟨fun h0 => hQ st I M a w (h.1 h0) F (.refl _ _ _) rfl fun _ _ h => h, fun i hi => ?_⟩
    obtain ⟨o, ho, hr, hk⟩ := h.2 i hi
    have hil : i < ops.size := (Array.getElem?_eq_some_iff.1 ho).1
    obtain ⟨hun, o', ho', hall⟩ := mem_ready.1 hi
    rw [ho] at ho'
    cases ho'
    have hset : ∀ j, (listed.setIfInBounds i true).getD j true = true → j ≠ i → listed.getD j true = true := fun j hj hne => by
      rwa [getD_set_ne true (fun e => hne e.symm)] at hj
    have hset' : ∀ j, listed.getD j true = true → (listed.setIfInBounds i true).getD j true = true := fun j hj => by
      by_cases e : i = j
      · subst e
        have : i < listed.size := by omega
        simp [Array.getD, this]
      · rw [getD_set_ne true e]; exact hj
    have hsetf : ∀ j, listed.getD j false = true → (listed.setIfInBounds i true).getD j false = true := fun j hj => by
      by_cases e : i = j
      · subst e
        have : i < listed.size := by omega
        simp [Array.getD, this]
      · rw [getD_set_ne false e]; exact hj
    refine resD_sound F hops ho hil (hfr i hil hun) (by omega) hr (fun e e1 e2 he e3 => ⟨hE e e1 e2 fun j hjs hj => ?_, by omega⟩) fun a' w' I' M' F' he hf' => ?_
    · by_cases hji : j < i
      · exact e3 j hji
      · have hne : i ≠ j := fun h => by subst h; rw [hun] at hj; cases hj
        have hoj : ops[j]? = some ops[j] := Array.getElem?_eq_getElem hjs
        cases hwt : waitsB i ops[j] with
        | false => exact fun hm => (hP i j _ (by omega) hoj hwt).1 e he (List.mem_append_right _ hm)
        | true =>
          unfold waitsB at hwt
          rw [Array.any_eq_true'] at hwt
          obtain ⟨x, hx, hb⟩ := hwt
          simp only [Bool.and_eq_true, beq_iff_eq] at hb
          have := hcl j _ hoj hj x hx hb.1
          rw [hb.2] at this
          have h' : i < listed.size := by omega
          simp [Array.getD, h'] at hun this
          rw [hun] at this
          cases this
    refine aany_sound hops hP fuel _ _ I' M' a' w' (by simp [hls]) F' (fun j hj hlj => ?_) (fun e e1 e2 he' => ?_) (fun j oj hoj hj x hx hb => ?_) (by simpa only [app] using hn) hk
      fun st'' I'' M'' a'' w'' hK'' F'' he'' hn'' hf'' => hQ st'' I'' M'' a'' w'' hK'' F'' (he.trans he'') (by simpa only [app] using hn'') fun j hj hm => hf'' j hj (hf' j (by omega) (fun h => by omega) hm)
    · have hji : j ≠ i := fun e => by
        subst e
        have : j < listed.size := by omega
        simp [Array.getD, this] at hlj
      rw [getD_set_ne true (fun e => hji e.symm)] at hlj
      exact hf' _ (by omega) (fun h => by omega) (hfr j hj hlj)
    · have hii : (listed.setIfInBounds i true).getD i true = true := by
        have : i < listed.size := by omega
        simp [Array.getD, this]
      exact hf' e (by omega) (fun _ => he' i hil hii) (hE e e1 e2 fun j hjs hj => he' j hjs (hset' j hj))
    · by_cases e : j = i
      · subst e
        rw [ho] at hoj
        cases hoj
        exact hsetf _ (hall x hx hb)
      · exact hsetf _ (hcl j oj hoj (hset j hj e) x hx hb)

/-! What one operation comes to hangs on its operands, and on the blocks that it touches, alone. -/
theorem putT_other {τ : Nat → AV} {d : Option Tmp} {v : AV} {t : Nat} (h : ∀ e, d = some e → e ≠ t) : putT τ d v t = τ t := by
  cases d with
  | none => rfl
  | some e => simp only [putT]; rw [if_neg (fun e' => h e rfl e'.symm)]
theorem putT_comm {τ : Nat → AV} {d e : Option Tmp} {u v : AV} (h : ∀ t, d = some t → e ≠ some t) : putT (putT τ d u) e v = putT (putT τ e v) d u := by
  cases d with
  | none => rfl
  | some d =>
    cases e with
    | none => rfl
    | some e =>
      have hne : d ≠ e := fun hh => h d rfl (by rw [hh])
      funext t
      simp only [putT]
      by_cases h1 : t = e <;> by_cases h2 : t = d <;> simp [h1, h2]
      · subst h1; exact absurd h2.symm hne
      · intro h3; exact absurd h3.symm hne
      · intro h3; exact absurd h3 hne

theorem updH_other : ∀ (up : List (Nat × Option Blk)) (h : Heap) (i : Nat), i ∉ up.map (·.1) → updH h up i = h i
  | [], _, _, _ => rfl
  | (j, b) :: r, h, i, hi => by
    simp only [List.map_cons, List.mem_cons, not_or] at hi
    simp only [updH]
    rw [updH_other r _ i hi.2, if_neg hi.1]
theorem updH_congr : ∀ (up : List (Nat × Option Blk)) (h g : Heap) (i : Nat), (i ∉ up.map (·.1) → h i = g i) → updH h up i = updH g up i
  | [], h, g, i, hi => hi (by simp)
  | (j, b) :: r, h, g, i, hi => by
    simp only [updH]
    refine updH_congr r _ _ i fun hr => ?_
    by_cases e : i = j
    · simp only [e, if_pos]
    · simp only [if_neg e]; exact hi (by simp [e, hr])
theorem updH_comm {u v : List (Nat × Option Blk)} (h : Heap) (hd : ∀ x ∈ u.map (·.1), x ∉ v.map (·.1)) : updH (updH h u) v = updH (updH h v) u := by
  funext i
  by_cases hu : i ∈ u.map (·.1)
  · rw [updH_other v _ i (hd i hu)]
    exact updH_congr u _ _ i fun hn => absurd hu hn
  · rw [updH_other u (updH h v) i hu]
    exact updH_congr v _ _ i fun _ => updH_other u h i hu

theorem aev_other {τ : Nat → AV} {d : Option Tmp} {v : AV} {x : Operand} (h : ∀ t, d = some t → x ≠ .tmp t) : aev (putT τ d v) x = aev τ x := by
  cases x with
  | tmp t => exact putT_other fun e he ht => h e he (by rw [ht])
  | _ => rfl

theorem awant_other {o : Oper} {τ : Nat → AV} {d : Option Tmp} {v : AV} (h : ∀ t, d = some t → t ∉ o.looksAt ops) : awant ops o (putT τ d v) = awant ops o τ := by
  unfold awant
  cases hg : o.guard with
  | none => rfl
  | some gw =>
    obtain ⟨g, want⟩ := gw
    simp only
    cases ht : (ops[g]?).bind (·.dst) with
    | none => rfl
    | some t =>
      simp only
      rw [putT_other fun e he hte => h e he (by subst hte; simp [Oper.looksAt, hg, ht])]

/-- Operands that an operation names. -/
theorem operand_mem {o : Oper} {x : Operand} (hx : x ∈ o.op.operands) {t : Nat} (ht : x = .tmp t) : t ∈ o.looksAt ops := by
  subst ht
  exact List.mem_append_left _ (List.mem_filterMap.2 ⟨.tmp t, by simpa using hx, rfl⟩)

/-- What an operation comes to hangs on its operands' values. -/
theorem aop_congr {op : Op} {pu : Bool} {slot : Nat} {ev ev' : Operand → AV} {h : Heap} (hev : ∀ x ∈ op.operands, ev x = ev' x) : aop P pu op slot ev h = aop P pu op slot ev' h := by
  have pairs : ∀ ps : Array (Nat × Operand), (∀ x ∈ ((ps.toList.map (·.2)).toArray : Array Operand), ev x = ev' x) → (ps.toList.map fun (i, x) => (i, ev x)) = (ps.toList.map fun (i, x) => (i, ev' x)) := fun ps hp =>
    List.map_congr_left fun p hm => by
      obtain ⟨i, x⟩ := p
      simp only [hp x (by simp; exact ⟨i, by simpa using hm⟩)]
  cases op with
  | build t ps => simp only [Op.operands] at hev; simp only [aop, pairs ps hev]
  | buildSlice t n ps => simp only [Op.operands] at hev; simp only [aop, pairs ps hev]
  | slice t x lo hi mx =>
    simp only [Op.operands] at hev
    cases lo <;> cases hi <;> cases mx <;> simp_all [aop]
  | makeFunc f first cap =>
    simp only [Op.operands] at hev
    have : cap.toList.map ev = cap.toList.map ev' := List.map_congr_left fun x hx => hev x (by simp; exact .inr (by simpa using hx))
    cases f <;> simp only [aop, this]
  | call c =>
    obtain ⟨callee, args, ts⟩ := c
    simp only [Op.operands, Call.operands] at hev
    have : args.toList.map ev = args.toList.map ev' := List.map_congr_left fun x hx => hev x (by simp; exact .inr (by simpa using hx))
    cases callee with
    | value f => have hf : ev f = ev' f := hev f (by simp); simp only [aop, this, hf]
    | invoke r m => have hr : ev r = ev' r := hev r (by simp); simp only [aop, this, hr]
    | builtin b => simp only [aop, this]
  | _ => simp_all [aop, Op.operands]

theorem aload_local {t : TypeId} {a : AV} {h g : Heap} {out : Out} (ha : aload P h t a = some (.out out)) (hg : ∀ i ∈ out.rd ++ out.up.map (·.1), g i = h i) : aload P g t a = some (.out out) := by
  unfold aload at *
  split at ha
  case h_2 => cases ha
  rename_i gg k e1 e2
  split at ha
  · exact ha
  · rename_i b off
    split at ha
    case h_2 => cases ha
    rename_i blk hb
    split at ha
    case isFalse => cases ha
    rename_i hoff
    cases hv : getAs gg k (blk.drop off) with
    | none => simp [hv] at ha
    | some v =>
      simp only [hv, Option.bind_some, Option.some.injEq, Did.out.injEq] at ha
      subst ha
      simp only [hg b (by simp), hb, if_pos hoff, hv, Option.bind_some]
  · cases ha

theorem astore_local {t : TypeId} {a x : AV} {h g : Heap} {out : Out} (ha : astore P h t a x = some (.out out)) (hg : ∀ i ∈ out.rd ++ out.up.map (·.1), g i = h i) : astore P g t a x = some (.out out) := by
  unfold astore at *
  split at ha
  case h_2 => cases ha
  rename_i k b off cs e1 e2
  split at ha
  case h_2 => cases ha
  rename_i blk hb
  split at ha
  case isFalse => cases ha
  rename_i hc
  simp only [Option.some.injEq, Did.out.injEq] at ha
  subst ha
  simp only [hg b (by simp), hb, if_pos hc]

theorem srcCells_local {e : Nat} {x : AV} {h g : Heap} {new : List AV} {k : Nat} {rd : List Nat} (ha : srcCells h e x = some (new, k, rd)) (hg : ∀ i ∈ rd, g i = h i) : srcCells g e x = some (new, k, rd) := by
  unfold srcCells at *
  split at ha
  · exact ha
  · exact ha
  · rename_i b off len s
    split at ha
    case h_2 => cases ha
    rename_i blk hb
    split at ha
    case isFalse => cases ha
    rename_i hc
    simp only [Option.some.injEq, Prod.mk.injEq] at ha
    obtain ⟨rfl, rfl, rfl⟩ := ha
    simp only [hg b (by simp), hb, if_pos hc]
  · cases ha

theorem aappend_local {pu : Bool} {slot : Nat} {ts : Array TypeId} {x y : AV} {h g : Heap} {out : Out} (ha : aappend P pu slot h ts x y = some (.out out)) (hg : ∀ i ∈ out.rd ++ out.up.map (·.1), g i = h i) : aappend P pu slot g ts x y = some (.out out) := by
  unfold aappend at *
  split at ha
  case h_2 => cases ha
  rename_i e e' e1 e2
  split at ha
  case h_2 => cases ha
  rename_i s by_ z e3 e4 e5
  split at ha
  case isFalse => cases ha
  rename_i hc
  rw [if_pos hc]
  split at ha
  case h_2 => cases ha
  rename_i new k rd hsrc
  split at ha
  case isFalse => cases ha
  rename_i hk
  split at ha
  · by_cases hpu : pu = true
    · rw [if_pos hpu] at ha
      split at ha
      · rename_i se xs
        have : srcCells g (s + 1) (.sl se xs) = some (new, k, rd) := hsrc
        simp only [this, if_pos hk, if_pos hpu]
        exact ha
      · cases ha
    · rw [if_neg hpu] at ha
      by_cases hk0 : k = 0
      · rw [if_pos hk0] at ha
        simp only [Option.some.injEq, Did.out.injEq] at ha
        subst ha
        rw [srcCells_local hsrc (fun i hi => hg i (by simp [hi]))]
        simp only [if_pos hk, if_neg hpu, if_pos hk0]
      · rw [if_neg hk0] at ha
        simp only [Option.some.injEq, Did.out.injEq] at ha
        subst ha
        rw [srcCells_local hsrc (fun i hi => hg i (by simp [hi]))]
        simp only [if_pos hk, if_neg hpu, if_neg hk0]
  · rename_i b off len s'
    split at ha
    case h_2 => cases ha
    rename_i blk hb
    split at ha
    case isFalse => cases ha
    rename_i hc2
    simp only [Option.some.injEq, Did.out.injEq] at ha
    subst ha
    rw [srcCells_local hsrc (fun i hi => hg i (by simp [hi]))]
    simp only [if_pos hk, hg b (by simp), hb, if_pos hc2]
  · cases ha

theorem acopy_local {ts : Array TypeId} {x y : AV} {h g : Heap} {out : Out} (ha : acopy P h ts x y = some (.out out)) (hg : ∀ i ∈ out.rd ++ out.up.map (·.1), g i = h i) : acopy P g ts x y = some (.out out) := by
  unfold acopy at *
  split at ha
  case h_2 => cases ha
  rename_i e e1
  split at ha
  case h_2 => cases ha
  rename_i s e3
  split at ha
  case h_2 => cases ha
  rename_i b off len s' new k rd hsrc
  split at ha
  case h_2 => cases ha
  rename_i blk hb
  split at ha
  case isFalse => cases ha
  rename_i hc
  simp only [Option.some.injEq, Did.out.injEq] at ha
  subst ha
  rw [srcCells_local hsrc (fun i hi => hg i (by simp [hi]))]
  simp only [hg b (by simp), hb, if_pos hc]

theorem aconvert_local {src dst : TypeId} {x : AV} {h g : Heap} {out : Out} (ha : aconvert P h src dst x = some (.out out)) (hg : ∀ i ∈ out.rd ++ out.up.map (·.1), g i = h i) : aconvert P g src dst x = some (.out out) := by
  unfold aconvert at *
  split at ha
  · exact ha
  · exact ha
  · rename_i e b off len hu1 hu2
    split at ha
    case h_2 => cases ha
    rename_i blk hu8 hb
    split at ha
    case isFalse => cases ha
    rename_i hlen
    cases hbo : bytesOf (cut blk off len) with
    | none => rw [hbo] at ha; cases ha
    | some l =>
      have ha' := ha
      rw [hbo] at ha
      simp only [Option.bind_some, Option.some.injEq, Did.out.injEq] at ha
      have hgb : g b = some blk := by rw [hg b (by rw [← ha]; simp), hb]
      simp only [hu8, hgb, if_pos hlen]
      exact ha'
  · rename_i e b k t hu1 hu2
    split at ha
    case h_2 => cases ha
    rename_i s c0 r hsz hb
    simp only [Option.some.injEq, Did.out.injEq] at ha
    have hgb : g b = some (c0 :: r) := by rw [hg b (by rw [← ha]; simp), hb]
    simp only [hsz, hgb, ha]
  · rename_i u b k t hu1 hu2
    split at ha
    case h_2 => cases ha
    rename_i s blk hsz hli hb
    simp only [Option.some.injEq, Did.out.injEq] at ha
    have hgb : g b = some blk := by rw [hg b (by rw [← ha]; simp), hb]
    simp only [hsz, hli, hgb, ha]
  · cases ha

theorem abinH_local {op : BinOp} {t : TypeId} {x y : AV} {h g : Heap} {out : Out} (ha : abinH P h op t x y = some (.out out)) (hg : ∀ i ∈ out.rd ++ out.up.map (·.1), g i = h i) : abinH P g op t x y = some (.out out) := by
  unfold abinH at *
  split at ha
  · split at ha
    · rename_i e blk hu hb
      split at ha
      case h_2 => cases ha
      rename_i s hsz
      split at ha
      case isFalse => cases ha
      rename_i hbb
      simp only [Option.some.injEq, Did.out.injEq] at ha
      have hgb := (hg _ (by rw [← ha]; simp)).trans hb
      simp only [hu, hgb, hsz, if_pos hbb, ha]
    · rename_i e blk hu hb
      split at ha
      case h_2 => cases ha
      rename_i s hsz
      split at ha
      case isFalse => cases ha
      rename_i hbb
      simp only [Option.some.injEq, Did.out.injEq] at ha
      have hgb := (hg _ (by rw [← ha]; simp)).trans hb
      simp only [hu, hgb, hsz, if_pos hbb, ha]
    · cases ha
  · exact ha

theorem asliceH_local {t : TypeId} {x : AV} {lo hi : Option AV} {h g : Heap} {out : Out} (ha : asliceH P h t x lo hi = some (.out out)) (hg : ∀ i ∈ out.rd ++ out.up.map (·.1), g i = h i) : asliceH P g t x lo hi = some (.out out) := by
  unfold asliceH at *
  split at ha
  · rename_i b off
    split at ha
    case h_2 => cases ha
    rename_i m e blk hu hb
    split at ha
    case h_2 => cases ha
    rename_i s hsz
    split at ha
    case isFalse => cases ha
    rename_i hle
    simp only [Option.some.injEq, Did.out.injEq] at ha
    have hgb := (hg _ (by rw [← ha]; simp)).trans hb
    simp only [hu, hgb, hsz, if_pos hle, ha]
  · exact ha

theorem aappendS_local {slot : Nat} {ts : Array TypeId} {x : AV} {s : ByteArray} {h g : Heap} {out : Out} (ha : aappendS P slot h ts x s = some (.out out)) (hg : ∀ i ∈ out.rd ++ out.up.map (·.1), g i = h i) : aappendS P slot g ts x s = some (.out out) := by
  unfold aappendS at *
  split at ha
  case h_2 => cases ha
  split at ha
  case h_2 => cases ha
  rename_i z0 hsz hby hz hu1
  split at ha
  case isFalse => cases ha
  rename_i hs38
  simp only [hsz, hby, hz, hu1, if_pos hs38]
  split at ha
  · exact ha
  · rename_i b len t
    split at ha
    case h_2 => cases ha
    rename_i blk hb
    split at ha
    case isFalse => cases ha
    rename_i hc
    simp only [Option.some.injEq, Did.out.injEq] at ha
    have hgb := (hg b (by rw [← ha]; simp)).trans hb
    simp only [hgb, if_pos hc, ha]
  · cases ha

theorem aunsafeString_local {ts : Array TypeId} {x y : AV} {h g : Heap} {out : Out} (ha : aunsafeString P h ts x y = some (.out out)) (hg : ∀ i ∈ out.rd ++ out.up.map (·.1), g i = h i) : aunsafeString P g ts x y = some (.out out) := by
  unfold aunsafeString at *
  split at ha
  case h_2 => cases ha
  split at ha
  · exact ha
  · rename_i b t
    split at ha
    · rename_i hk0
      rw [if_pos hk0]; exact ha
    rename_i hk0
    rw [if_neg hk0]
    split at ha
    case h_2 => cases ha
    rename_i blk hb
    split at ha
    case isFalse => cases ha
    rename_i hc
    simp only [Option.bind_eq_some_iff] at ha
    obtain ⟨l, hl, ha⟩ := ha
    simp only [Option.some.injEq, Did.out.injEq] at ha
    have hgb := (hg b (by rw [← ha]; simp)).trans hb
    simp only [hgb, if_pos hc, hl, Option.bind_some, ha]
  · cases ha

/-- .. and on the blocks that it touches. -/
theorem aop_local {op : Op} {pu : Bool} {slot : Nat} {ev : Operand → AV} {h g : Heap} {out : Out} (ha : aop P pu op slot ev h = some (.out out)) (hg : ∀ i ∈ out.rd ++ out.up.map (·.1), g i = h i) : aop P pu op slot ev g = some (.out out) := by
  unfold aop at *
  split at ha
  case h_8 => exact aload_local ha hg
  case h_9 => exact astore_local ha hg
  case h_11 => exact abinH_local ha hg
  case h_13 => exact aconvert_local ha hg
  case h_16 => exact asliceH_local ha hg
  case h_22 =>
    unfold abuiltin at *
    split at ha
    · exact aappendS_local ha hg
    · exact aappend_local ha hg
    · exact ha
    · exact ha
    · exact aunsafeString_local ha hg
    · exact ha
    · exact acopy_local ha hg
    all_goals exact ha
  all_goals exact ha

theorem frz1_local {h g : Heap} {x : AV} (hg : ∀ i ∈ ids1 x, g i = h i) : frz1 g x = frz1 h x := by
  cases x with
  | own b off len e => simp only [frz1, hg b (by simp [ids1])]
  | _ => rfl
theorem frz2_local {h g : Heap} {x : AV} (hg : ∀ i ∈ ids2 x, g i = h i) : frz2 g x = frz2 h x := by
  cases x with
  | agg cs =>
    simp only [frz2, AV.agg.injEq]
    exact List.map_congr_left fun y hy => frz1_local fun i hi => hg i (by simp only [ids2, List.mem_flatMap]; exact ⟨y, hy, hi⟩)
  | _ => simp only [frz2]; exact frz1_local (by simpa only [ids2] using hg)

theorem Res_same {slot : Nat} {o : Oper} {st st' : ASt} {out : Out} (hw : awant ops o st'.τ = awant ops o st.τ) (hev : ∀ x ∈ o.op.operands, aev st'.τ x = aev st.τ x) (hg : ∀ i ∈ out.rd ++ out.up.map (·.1), st'.h i = st.h i)
    (h : Res P pa ops slot o st out) : Res P pa ops slot o st' out := by
  unfold Res at *
  rw [hw]
  rcases h with ⟨h1, h2 | ⟨f, args, v, h3, h4, rfl⟩⟩ | h
  · exact .inl ⟨h1, .inl (by rw [aop_congr hev]; exact aop_local h2 hg)⟩
  · have hfz : args.map (frz2 st'.h) = args.map (frz2 st.h) := List.map_congr_left fun x hx => frz2_local fun i hi => hg i (by
      simp only [callOut, List.mem_append]
      exact .inl (List.mem_flatMap.2 ⟨x, hx, hi⟩))
    refine .inl ⟨h1, .inr ⟨f, args, v, ?_, by rw [hfz]; exact h4, rfl⟩⟩
    rw [aop_congr hev]
    rcases aop_call h3 with ⟨g, xs, ts, cap, ho, hgv, ha, hns, hnm⟩ | ⟨r, name, xs, ts, t, x, ho, hr, hd, ha⟩
    · rw [ho]
      simp only [aop, hgv, ha, hns, hnm, Bool.false_eq_true, if_false]
    · rw [ho]
      simp only [aop, hr, hd, ha]
  · exact .inr h

/-- What another operation has done elsewhere makes no difference. -/
theorem Res.local {slot : Nat} {o oj : Oper} {st : ASt} {out outj : Out} (hap : ∀ d, oj.dst = some d → d ∉ o.looksAt ops) (hd : ∀ x ∈ outj.up.map (·.1), x ∉ out.rd ++ out.up.map (·.1)) :
    Res P pa ops slot o st out ↔ Res P pa ops slot o (app st oj outj) out := by
  have hw : awant ops o (app st oj outj).τ = awant ops o st.τ := awant_other hap
  have hev : ∀ x ∈ o.op.operands, aev (app st oj outj).τ x = aev st.τ x := fun x hx => aev_other fun t ht hxt => hap t ht (operand_mem hx hxt)
  have hg : ∀ i ∈ out.rd ++ out.up.map (·.1), (app st oj outj).h i = st.h i := fun i hi => updH_other _ _ _ fun hm => hd i hm hi
  exact ⟨Res_same hw hev hg, Res_same hw.symm (fun x hx => (hev x hx).symm) fun i hi => (hg i hi).symm⟩

theorem OLoc.same {f : FuncId} {args : List AV} {h g : Heap} {out : Out} (hO : OLoc P f args h out) (hg : ∀ i ∈ out.rd ++ out.up.map (·.1), g i = h i) : OLoc P f args g out :=
  ⟨hO.1, fun h' hh => hO.2 h' fun b hb => (hh b hb).trans (hg b hb)⟩
theorem ResD_same {base i : Nat} {T : Nat → Out} {o : Oper} {st st' : ASt} {out : Out} (hw : awant ops o st'.τ = awant ops o st.τ) (hev : ∀ x ∈ o.op.operands, aev st'.τ x = aev st.τ x) (hg : ∀ i ∈ out.rd ++ out.up.map (·.1), st'.h i = st.h i)
    (h : ResD P pa ops base T i o st out) : ResD P pa ops base T i o st' out := by
  rcases h with h | ⟨h1, f, args, h3, h4, h5⟩
  · exact .inl (Res_same hw hev hg h)
  · refine .inr ⟨by rw [hw]; exact h1, f, args, ?_, h4.same hg, fun e he hh => h5 e he ((hg e (List.mem_append_right _ he)).symm.trans hh)⟩
    rw [aop_congr hev]
    rcases aop_call h3 with ⟨g, xs, ts, cap, ho, hgv, ha, hns, hnm⟩ | ⟨r, name, xs, ts, t, x, ho, hr, hd, ha⟩
    · rw [ho]
      simp only [aop, hgv, ha, hns, hnm, Bool.false_eq_true, if_false]
    · rw [ho]
      simp only [aop, hr, hd, ha]
theorem ResD.local {base i : Nat} {T : Nat → Out} {o oj : Oper} {st : ASt} {out outj : Out} (hap : ∀ d, oj.dst = some d → d ∉ o.looksAt ops) (hd : ∀ x ∈ outj.up.map (·.1), x ∉ out.rd ++ out.up.map (·.1)) :
    ResD P pa ops base T i o st out ↔ ResD P pa ops base T i o (app st oj outj) out := by
  have hw : awant ops o (app st oj outj).τ = awant ops o st.τ := awant_other hap
  have hev : ∀ x ∈ o.op.operands, aev (app st oj outj).τ x = aev st.τ x := fun x hx => aev_other fun t ht hxt => hap t ht (operand_mem hx hxt)
  have hg : ∀ i ∈ out.rd ++ out.up.map (·.1), (app st oj outj).h i = st.h i := fun i hi => updH_other _ _ _ fun hm => hd i hm hi
  exact ⟨ResD_same hw hev hg, ResD_same hw.symm (fun x hx => (hev x hx).symm) fun i hi => (hg i hi).symm⟩

theorem aany_first {K : ASt → Prop} {base : Nat} {T : Nat → Out} {i : Nat} {oi : Oper} (hi : ops[i]? = some oi) : ∀ (fuel : Nat) (listed : Array Bool) (st : ASt),
    (∀ j oj, ops[j]? = some oj → j ≠ i → listed.getD j true = false → (∀ e ∈ oj.after, Region.binds .any e = true → e.on ≠ i) → oi.apart ops oj = true ∧ outOk (T i) (T j)) →
    i ∈ Region.ready .any ops listed → ResD P pa ops base T i oi st (T i) →
    AAny P pa ops base T K fuel (listed.setIfInBounds i true) (app st oi (T i)) → AAny P pa ops base T K (fuel + 1) listed st := by
  intro fuel
  induction fuel with
  | zero =>
    intro listed st _ hr hy H
    refine ⟨fun h => (by rw [h] at hr; cases hr), fun j hj => ?_⟩
    by_cases hji : j = i
    · subst hji; exact ⟨oi, hi, hy, H⟩
    · have := ready_mono hj hji
      rw [H.1] at this
      cases this
  | succ fuel ih =>
    intro listed st hfree hr hy H
    refine ⟨fun h => (by rw [h] at hr; cases hr), fun j hj => ?_⟩
    by_cases hji : j = i
    · subst hji; exact ⟨oi, hi, hy, H⟩
    · obtain ⟨oj, hoj, h1, h2⟩ := H.2 j (ready_mono hj hji)
      obtain ⟨hjun, oj', hoj', hall⟩ := mem_ready.1 hj
      rw [hoj] at hoj'
      cases hoj'
      have hnot : ∀ e ∈ oj.after, Region.binds .any e = true → e.on ≠ i := fun e he hb heq => by
        have h1 := hall e he hb
        have h0 := (mem_ready.1 hr).1
        rw [heq] at h1
        rcases Nat.lt_or_ge i listed.size with h' | h'
        · simp [h'] at h0 h1; rw [h0] at h1; cases h1
        · simp [Array.getElem?_eq_none h'] at h1
      obtain ⟨hap, hout⟩ := hfree j oj hoj hji hjun hnot
      obtain ⟨a1, a2, a3⟩ := Oper.apart_spec hap
      have hrj : ResD P pa ops base T j oj st (T j) := (ResD.local a1 hout.1).2 h1
      have hri : ResD P pa ops base T i oi (app st oj (T j)) (T i) := (ResD.local a3 (fun x hx hx' => by
        rcases List.mem_append.1 hx' with hx' | hx'
        · exact hout.2 x hx hx'
        · exact hout.1 x hx' (List.mem_append.2 (.inr hx)))).1 hy
      refine ⟨oj, hoj, hrj, ih (listed.setIfInBounds j true) _ (fun k ok hk hki hun hno => ?_) (ready_mono hr (Ne.symm hji)) hri ?_⟩
      · refine hfree k ok hk hki ?_ hno
        by_cases hjk : j = k
        · subst hjk; exact hjun
        · rw [getD_set_ne true hjk] at hun; exact hun
      · rw [Array.setIfInBounds_comm _ _ hji]
        have : app (app st oj (T j)) oi (T i) = app (app st oi (T i)) oj (T j) := by
          simp only [app]
          rw [putT_comm (fun t ht hit => a2 t hit ht), updH_comm st.h (fun x hx hx' => hout.1 x hx' (List.mem_append.2 (.inr hx)))]
        rw [this]
        exact h2

theorem logOk_spec : ∀ (log : List (Nat × Out)) (o : Oper) (b : Out), logOk log o b → ∀ p ∈ log, outOk p.2 b ∨ waitsB p.1 o = true
  | [], _, _, _, p, hp => by cases hp
  | (i, a) :: r, o, b, h, p, hp => by
    rcases List.mem_cons.1 hp with rfl | hp
    · exact h.1
    · exact logOk_spec r o b h.2 p hp

theorem cold_of {out : Out} (h : hotB out = false) : out.up = [] ∧ out.rd = [] := by
  unfold hotB at h
  simp only [Bool.not_eq_false', Bool.and_eq_true, List.isEmpty_iff] at h
  exact h
theorem outOk_coldL {a b : Out} (h : a.up = [] ∧ a.rd = []) : outOk a b := by
  unfold outOk disj
  rw [h.1, h.2]
  exact ⟨fun x hx => (by cases hx), fun x _ hx => (by cases hx)⟩
theorem outOk_coldR {a b : Out} (h : b.up = [] ∧ b.rd = []) : outOk a b := by
  unfold outOk disj
  rw [h.1, h.2]
  exact ⟨fun x _ hx => (by cases hx), fun x hx => (by cases hx)⟩

/-- One walk of the text's order serves every order. -/
theorem dwalk_lex {K : ASt → Prop} {base : Nat} : ∀ (l : List Oper) (i : Nat) (st : ASt) (log : List (Nat × Out)), (∀ j, l[j]? = ops[i + j]?) →
    DWalk P pa ops l i (base + i) st log K → ∀ T0 : Nat → Out, (∀ p ∈ log, T0 p.1 = p.2 ∧ p.1 < i) → (∀ j, j < i → j ∉ log.map (·.1) → (T0 j).up = [] ∧ (T0 j).rd = []) →
    ∃ T : Nat → Out, (∀ j, j < i → T j = T0 j) ∧ (∀ j k o, j < k → i ≤ k → ops[k]? = some o → waitsB j o = false → outOk (T j) (T k)) ∧
      ∀ listed : Array Bool, (∀ j, j < i → listed.getD j true = true) → Region.lexFrom .any ops l.length i listed = true → AAny P pa ops base T K l.length listed st
  | [], i, st, log, hl, h, T0, _, _ => by
    refine ⟨T0, fun _ _ => rfl, fun j k o _ hk ho => ?_, fun listed _ hB => ⟨by simpa [Region.lexFrom] using hB, h⟩⟩
    have := hl (k - i)
    rw [show i + (k - i) = k by omega, ho] at this
    simp at this
  | o :: rest, i, st, log, hl, h, T0, hT0, hcold => by
    have hi : ops[i]? = some o := by simpa using (hl 0).symm
    have hl' : ∀ j, rest[j]? = ops[i + 1 + j]? := fun j => by have := hl (j + 1); simpa [Nat.add_assoc, Nat.add_comm 1 j] using this
    have step : ∀ (out : Out) (log' : List (Nat × Out)), (∀ T : Nat → Out, (∀ j, j < i → T j = T0 j) → ResD P pa ops base T i o st out) → ((hotB out = true ∧ logOk log o out ∧ log' = (i, out) :: log) ∨ (hotB out = false ∧ log' = log)) →
        DWalk P pa ops rest (i + 1) (base + i + 1) (app st o out) log' K →
        ∃ T : Nat → Out, (∀ j, j < i → T j = T0 j) ∧ (∀ j k o, j < k → i ≤ k → ops[k]? = some o → waitsB j o = false → outOk (T j) (T k)) ∧
          ∀ listed : Array Bool, (∀ j, j < i → listed.getD j true = true) → Region.lexFrom .any ops (o :: rest).length i listed = true → AAny P pa ops base T K (o :: rest).length listed st := by
      intro out log' hr hlog hw
      obtain ⟨T, t1, t2, t3⟩ := dwalk_lex rest (i + 1) (app st o out) log' hl' (by rw [← Nat.add_assoc]; exact hw) (fun j => if j = i then out else T0 j)
        (fun p hp => by
          rcases hlog with ⟨_, _, rfl⟩ | ⟨_, rfl⟩
          · rcases List.mem_cons.1 hp with rfl | hp
            · exact ⟨by simp, by simp⟩
            · obtain ⟨g1, g2⟩ := hT0 p hp
              exact ⟨by simp [show p.1 ≠ i by omega, g1], by omega⟩
          · obtain ⟨g1, g2⟩ := hT0 p hp
            exact ⟨by simp [show p.1 ≠ i by omega, g1], by omega⟩)
        (fun j hj hn => by
          by_cases e : j = i
          · subst e
            rcases hlog with ⟨_, _, rfl⟩ | ⟨hc, rfl⟩
            · simp at hn
            · simp only [if_pos]; exact cold_of hc
          · simp only [if_neg e]
            refine hcold j (by omega) fun hm => hn ?_
            rcases hlog with ⟨_, _, rfl⟩ | ⟨_, rfl⟩
            · simp only [List.map_cons, List.mem_cons]; exact .inr hm
            · exact hm)
      have hTi : T i = out := by rw [t1 i (by omega)]; simp
      have hTj : ∀ j, j < i → T j = T0 j := fun j hj => by rw [t1 j (by omega)]; simp [show j ≠ i by omega]
      have hpair : ∀ j k o, j < k → i ≤ k → ops[k]? = some o → waitsB j o = false → outOk (T j) (T k) := fun j k o' hjk hik hk hwt => by
        by_cases e : k = i
        · subst e
          rw [hi] at hk
          cases hk
          rw [hTi, hTj j hjk]
          rcases hlog with ⟨_, hlo, rfl⟩ | ⟨hc, _⟩
          · by_cases hm : j ∈ log.map (·.1)
            · obtain ⟨p, hp, rfl⟩ := List.mem_map.1 hm
              rw [(hT0 p hp).1]
              rcases logOk_spec log o out hlo p hp with h | h
              · exact h
              · rw [hwt] at h; cases h
            · exact outOk_coldL (hcold j hjk hm)
          · exact outOk_coldR (cold_of hc)
        · exact t2 j k o' hjk (by omega) hk hwt
      refine ⟨T, hTj, hpair, fun listed hlis hB => ?_⟩
      simp only [List.length_cons, Region.lexFrom, Bool.and_eq_true] at hB
      obtain ⟨⟨hr1, hf⟩, hB'⟩ := hB
      have hrdy : i ∈ Region.ready .any ops listed := by simpa using hr1
      have hls : i < listed.size := by
        have h0 := (mem_ready.1 hrdy).1
        rcases Nat.lt_or_ge i listed.size with h' | h'
        · exact h'
        · simp [Array.getD, Nat.not_lt.2 h'] at h0
      refine aany_first hi rest.length listed st (fun j oj hoj hji hun hno => ⟨Region.free_spec hi hf j oj hoj hji hun hno, ?_⟩) hrdy (by rw [hTi]; exact hr T hTj) ?_
      · have hij : i < j := by
          rcases Nat.lt_trichotomy i j with h' | h' | h'
          · exact h'
          · exact absurd h'.symm hji
          · rw [hlis j h'] at hun; cases hun
        refine hpair i j oj hij (by omega) hoj ?_
        unfold waitsB
        rw [Array.any_eq_false']
        intro e he
        by_cases hb : Region.binds .any e = true
        · have := hno e he hb
          simp [hb, this]
        · simp [hb]
      · rw [hTi]
        refine t3 _ (fun j hj => ?_) hB'
        by_cases e : j = i
        · subst e; simp [Array.getD, hls]
        · rw [getD_set_ne true (fun h => e h.symm)]; exact hlis j (by omega)
    simp only [DWalk] at h
    split at h
    · rename_i hw
      split at h
      · rename_i out ha
        by_cases hh : hotB out = true
        · simp only [hh, if_true] at h; exact step out _ (fun _ _ => .inl (.inl ⟨hw, .inl ha⟩)) (.inl ⟨hh, h.1, rfl⟩) h.2
        · simp only [hh, if_false, Bool.false_eq_true] at h; exact step out _ (fun _ _ => .inl (.inl ⟨hw, .inl ha⟩)) (.inr ⟨by simpa using hh, rfl⟩) h.2
      · rename_i f args ha
        rcases h with ⟨v, hP, hlo, hk⟩ | ⟨out, hO, hh, hlo, hnw, hk⟩
        · by_cases hh : hotB (callOut v (args.flatMap ids2)) = true
          · simp only [hh, if_true] at hlo hk; exact step _ _ (fun _ _ => .inl (.inl ⟨hw, .inr ⟨f, args, v, ha, hP, rfl⟩⟩)) (.inl ⟨hh, hlo, rfl⟩) hk
          · simp only [hh, if_false, Bool.false_eq_true] at hlo hk; exact step _ _ (fun _ _ => .inl (.inl ⟨hw, .inr ⟨f, args, v, ha, hP, rfl⟩⟩)) (.inr ⟨by simpa using hh, rfl⟩) hk
        · rw [Nat.add_sub_cancel] at hnw
          refine step out _ (fun T hT => .inr ⟨hw, f, args, ha, hO, fun e he hn => ?_⟩) (.inl ⟨hh, hlo, rfl⟩) hk
          obtain ⟨e1, e2, e3⟩ := hnw e he hn
          refine ⟨e1, e2, fun j hj => ?_⟩
          rw [hT j hj]
          by_cases hm : j ∈ log.map (·.1)
          · obtain ⟨p, hp, rfl⟩ := List.mem_map.1 hm
            rw [(hT0 p hp).1]
            exact e3 p hp
          · rw [(hcold j hj hm).1]; simp
      · exact h.elim
    · rename_i hw; exact step skipOut log (fun _ _ => .inl (.inr ⟨hw, rfl⟩)) (.inr ⟨rfl, rfl⟩) h
    · exact h.elim


/-- A region, in whatever order. -/
theorem region_sound {id : Nat} {draw : Bool} {K : ASt → Prop} {Q : Exit → Act → World → Prop} (hm : P.follows .mixedOrders = true) (hops : ∀ (i : Nat) (o : Oper) (t : Nat), ops[i]? = some o → o.dst = some t → t < nt)
    (hB : draw = true → Region.lexB .any ops = true) (F : FRel nt I M st a w) (h : ARegion P pa ops draw st K)
    (hQ : ∀ st' I' M' a' w', K st' → FRel nt I' M' st' a' w' → Ext I M w I' M' w' → st.n ≤ st'.n → (∀ j, j < st.n → M j = MS.fresh → M' j = MS.fresh) → Q .normal a' w') :
    (Code.region id ops draw).wp P Q a w := by
  have F0 : FRel nt I M { st with n := st.n + ops.size } a w := ⟨F.defers, F.size, F.tmps, F.heap.imm, fun i hi => F.heap.fr i (by simp only at hi; omega), F.heap.no, F.heap.live, F.heap.inj⟩
  unfold ARegion at h
  cases draw with
  | false =>
    simp only [Bool.false_eq_true, if_false] at h
    refine wp_region ?_
    have := swalk_sound (P := P) (Q := Q) (st.n + ops.size) hops ops.toList 0 st.n { st with n := st.n + ops.size } I M a w (fun j => by simp) F0 (fun j hj hj' => F.heap.fr j hj) (by simp) (Nat.le_refl _) h
      (fun st' I' M' a' w' hk F' he hn hf => hQ st' I' M' a' w' hk F' he (by simp only at hn; omega) hf)
    rw [List.range_eq_range']
    simpa using this
  | true =>
    simp only [if_true] at h
    have hB' := hB rfl
    simp only [Region.lexB, Bool.and_eq_true] at hB'
    refine wp_region_any hm ?_
    have F1 : FRel nt I M { st with n := st.n + ops.size + growP pa } a w := ⟨F.defers, F.size, F.tmps, F.heap.imm, fun i hi => F.heap.fr i (by simp only at hi; omega), F.heap.no, F.heap.live, F.heap.inj⟩
    obtain ⟨T, _, hP, hT⟩ := dwalk_lex (P := P) (K := K) (base := st.n) ops.toList 0 _ [] (fun j => by simp) h (fun _ => skipOut) (fun p hp => by cases hp) (fun j hj => by omega)
    have hA := hT (Array.replicate ops.size false) (fun j hj => by omega) (by simpa using hB'.2)
    have Fd : FRel nt I M { st with n := st.n + ops.size + growP pa } a { w with drawn := w.drawn + 1 } := ⟨F1.defers, F1.size, F1.tmps, F1.heap.drew⟩
    rw [Array.length_toList] at hA
    exact aany_sound hops (fun j k o hj ho hw => hP j k o hj (Nat.zero_le _) ho hw) ops.size _ _ I M a _ (by simp) Fd (fun i hi _ => F.heap.fr _ (by omega)) (fun e e1 _ _ => F.heap.fr _ (by omega)) (fun j oj hoj hj => by
        have hjs : j < ops.size := (Array.getElem?_eq_some_iff.1 hoj).1
        simp [Array.getD, hjs] at hj) (Nat.le_refl _) hA
      (fun st' I' M' a' w' hk F' he hn hf => hQ st' I' M' a' w' hk F' ((Ext.drew I M w).trans he) (by simp only at hn; omega) hf)

/-! ### The run -/
def codeOk (nt : Nat) : Code → Bool
  | .region _ ops draw => ops.all (fun o => match o.dst with | some d => decide (d < nt) | none => true) && (!draw || Region.lexB .any ops)
  | .seq a b => codeOk nt a && codeOk nt b
  | .cond _ a b => codeOk nt a && codeOk nt b
  | .block _ c => codeOk nt c
  | .loop c => codeOk nt c
  | .scope c => codeOk nt c
  | _ => true

def itemOk (nt : Nat) : Item → Bool
  | .code c => codeOk nt c
  | .inLoop c => codeOk nt c
  | _ => true

theorem exitTo_ok {id : Nat} : ∀ {k k' : List Item}, (∀ x ∈ k, itemOk nt x = true) → exitTo id k = some k' → ∀ x ∈ k', itemOk nt x = true
  | [], _, _, h => by simp [exitTo] at h
  | x :: k, k', hk, h => by
    have hk' : ∀ x ∈ k, itemOk nt x = true := fun y hy => hk y (List.mem_cons_of_mem _ hy)
    unfold exitTo at h
    split at h
    · rename_i e
      injection e with e1 e2
      subst e2
      split at h
      · cases h; exact hk'
      · exact exitTo_ok hk' h
    · rename_i e
      injection e with e1 e2
      subst e2
      exact exitTo_ok hk' h
    · cases h

theorem codeOk_region {nt id : Nat} {ops : Array Oper} {draw : Bool} (h : codeOk nt (.region id ops draw) = true) :
    (∀ (i : Nat) (o : Oper) (t : Nat), ops[i]? = some o → o.dst = some t → t < nt) ∧ (draw = true → Region.lexB .any ops = true) := by
  simp only [codeOk, Bool.and_eq_true] at h
  refine ⟨fun i o t ho ht => ?_, fun hd => ?_⟩
  · have := (Array.all_eq_true_iff_forall_mem.1 h.1) o (Array.mem_of_getElem? ho)
    simp only [ht, decide_eq_true_eq] at this
    exact this
  · have := h.2
    rw [hd] at this
    simpa using this

theorem AW_sound {Q : ASt → Prop} (hm : P.follows .mixedOrders = true) {k : List Item} {st : ASt} (h : AW P pa Q k st) : (∀ x ∈ k, itemOk nt x = true) → ∀ (I : Imm) (M : Mp) (a : Act) (w : World), FRel nt I M st a w → ∀ (b : Frame) (cs : List Frame),
    ∃ todo a' w' st' I' M', Steps P (lone (b.at a k) cs w) (lone { b.at a' todo with mode := .returning } cs w') ∧ Q st' ∧ FRel nt I' M' st' a' w' ∧ Ext I M w I' M' w' ∧ st.n ≤ st'.n ∧ (∀ j, j < st.n → M j = MS.fresh → M' j = MS.fresh) := by
  refine h (fun k st => (∀ x ∈ k, itemOk nt x = true) → ∀ (I : Imm) (M : Mp) (a : Act) (w : World), FRel nt I M st a w → ∀ (b : Frame) (cs : List Frame),
    ∃ todo a' w' st' I' M', Steps P (lone (b.at a k) cs w) (lone { b.at a' todo with mode := .returning } cs w') ∧ Q st' ∧ FRel nt I' M' st' a' w' ∧ Ext I M w I' M' w' ∧ st.n ≤ st'.n ∧ (∀ j, j < st.n → M j = MS.fresh → M' j = MS.fresh)) ?_
  clear h k st
  intro k st h hk I M a w F b cs
  have tail : ∀ {x : Item} {k' : List Item}, k = x :: k' → ∀ y ∈ k', itemOk nt y = true := fun e y hy => hk y (by rw [e]; exact List.mem_cons_of_mem _ hy)
  have hd : ∀ {x : Item} {k' : List Item}, k = x :: k' → itemOk nt x = true := fun e => hk _ (by rw [e]; exact List.mem_cons_self ..)
  have go : ∀ {k' : List Item} {a' : Act}, step P (lone (b.at a k) cs w) = .next (lone (b.at a k') cs w) → _ → _ := fun {k'} {a'} hs (hx : ∃ todo a' w' st' I' M', Steps P (lone (b.at a k') cs w) (lone { b.at a' todo with mode := .returning } cs w') ∧ Q st' ∧ FRel nt I' M' st' a' w' ∧ Ext I M w I' M' w' ∧ st.n ≤ st'.n ∧ (∀ j, j < st.n → M j = MS.fresh → M' j = MS.fresh)) =>
    (let ⟨todo, a', w', st', I', M', h1, h2⟩ := hx; (⟨todo, a', w', st', I', M', .head hs h1, h2⟩ : ∃ todo a' w' st' I' M', Steps P (lone (b.at a k) cs w) (lone { b.at a' todo with mode := .returning } cs w') ∧ Q st' ∧ FRel nt I' M' st' a' w' ∧ Ext I M w I' M' w' ∧ st.n ≤ st'.n ∧ (∀ j, j < st.n → M j = MS.fresh → M' j = MS.fresh)))
  unfold stepF at h
  split at h
  · exact ⟨[], a, w, st, I, M, .one step_end, h, F, .refl _ _ _, Nat.le_refl _, fun _ _ h => h⟩
  · exact go (a' := a) step_skip (h (tail rfl) I M a w F b cs)
  · rename_i x y k'
    have h1 := hd rfl
    simp only [itemOk, codeOk, Bool.and_eq_true] at h1
    refine go (a' := a) step_seq (h (fun z hz => ?_) I M a w F b cs)
    rcases List.mem_cons.1 hz with rfl | hz
    · exact h1.1
    · rcases List.mem_cons.1 hz with rfl | hz
      · exact h1.2
      · exact tail rfl z hz
  · rename_i c x y k'
    have h1 := hd rfl
    simp only [itemOk, codeOk, Bool.and_eq_true] at h1
    split at h
    · rename_i t hc
      have hv := aev_rel F.tmps c
      rw [hc] at hv
      have hb := hv.bool_inv
      cases t with
      | true =>
        refine go (a' := a) (k' := .code x :: k') (by have := step_cond (P := P) (b := b) (k := k') (cs := cs) (w := w) (x := x) (y := y) hb; simpa using this) (h.1 rfl (fun z hz => ?_) I M a w F b cs)
        rcases List.mem_cons.1 hz with rfl | hz
        · exact h1.1
        · exact tail rfl z hz
      | false =>
        refine go (a' := a) (k' := .code y :: k') (by have := step_cond (P := P) (b := b) (k := k') (cs := cs) (w := w) (x := x) (y := y) hb; simpa using this) (h.2 rfl (fun z hz => ?_) I M a w F b cs)
        rcases List.mem_cons.1 hz with rfl | hz
        · exact h1.2
        · exact tail rfl z hz
    · exact h.elim
  · rename_i id c k'
    have h1 := hd rfl
    simp only [itemOk, codeOk] at h1
    refine go (a' := a) step_block (h (fun z hz => ?_) I M a w F b cs)
    rcases List.mem_cons.1 hz with rfl | hz
    · exact h1
    · rcases List.mem_cons.1 hz with rfl | hz
      · rfl
      · exact tail rfl z hz
  · rename_i c k'
    have h1 := hd rfl
    simp only [itemOk, codeOk] at h1
    refine go (a' := a) step_loop (h (fun z hz => ?_) I M a w F b cs)
    rcases List.mem_cons.1 hz with rfl | hz
    · exact h1
    · rcases List.mem_cons.1 hz with rfl | hz
      · exact h1
      · exact tail rfl z hz
  · rename_i id k'
    split at h
    · rename_i k'' he
      exact go (a' := a) (step_exit he) (h (exitTo_ok (tail rfl) he) I M a w F b cs)
    · exact h.elim
  · exact ⟨_, a, w, st, I, M, .one step_ret, h, F, .refl _ _ _, Nat.le_refl _, fun _ _ h => h⟩
  · rename_i id ops draw k'
    have h1 := hd rfl
    obtain ⟨o1, o2⟩ := codeOk_region (id := id) h1
    have hwp := region_sound (id := id) (Q := fun e a' w' => e = .normal ∧ ∃ st' I' M', ((∀ x ∈ k', itemOk nt x = true) → ∀ (I : Imm) (M : Mp) (a : Act) (w : World), FRel nt I M st' a w → ∀ (b : Frame) (cs : List Frame),
        ∃ todo a' w' st'' I' M', Steps P (lone (b.at a k') cs w) (lone { b.at a' todo with mode := .returning } cs w') ∧ Q st'' ∧ FRel nt I' M' st'' a' w' ∧ Ext I M w I' M' w' ∧ st'.n ≤ st''.n ∧ (∀ j, j < st'.n → M j = MS.fresh → M' j = MS.fresh)) ∧
        FRel nt I' M' st' a' w' ∧ Ext I M w I' M' w' ∧ st.n ≤ st'.n ∧ (∀ j, j < st.n → M j = MS.fresh → M' j = MS.fresh)) hm o1 o2 F h
      (fun st' I' M' a' w' hS F' he hn hf => ⟨rfl, st', I', M', hS, F', he, hn, hf⟩)
    obtain ⟨e, a', w', ⟨rfl, st', I', M', hS, F', he, hn, hf⟩, harr⟩ := hwp b k' cs
    obtain ⟨todo, a'', w'', st'', I'', M'', s1, s2, s3, s4, s5, s6⟩ := hS (tail rfl) I' M' a' w' F' b cs
    exact ⟨todo, a'', w'', st'', I'', M'', Steps.trans harr s1, s2, s3, he.trans s4, Nat.le_trans hn s5, fun j hj hmj => s6 j (by omega) (hf j hj hmj)⟩
  · exact go (a' := a) step_inBlock (h (tail rfl) I M a w F b cs)
  · rename_i c k'
    have h1 := hd rfl
    refine go (a' := a) step_inLoop (h (fun z hz => ?_) I M a w F b cs)
    rcases List.mem_cons.1 hz with rfl | hz
    · exact h1
    · exact hk z hz
  · rename_i c k'
    have h1 := hd rfl
    simp only [itemOk, codeOk] at h1
    refine go (a' := a) step_scope (h (fun z hz => ?_) I M a w F b cs)
    rcases List.mem_cons.1 hz with rfl | hz
    · exact h1
    · rcases List.mem_cons.1 hz with rfl | hz
      · rfl
      · exact tail rfl z hz
  · exact go (a' := a) step_label (h (tail rfl) I M a w F b cs)
  · exact go (a' := a) step_inScope (h (tail rfl) I M a w F b cs)
  · exact h.elim
end
end Go.Ab

set_option linter.unusedVariables false
set_option linter.unusedSimpArgs false
set_option maxRecDepth 10000
namespace Go.Ab
open Go.RowKit

/-- What is said by one value is said by the other one. -/
def AV.le (a b : AV) : Prop := ∀ (I : Imm) (v : Value), PRel I a v → PRel I b v
theorem AV.le_refl (a : AV) : a.le a := fun _ _ h => h
theorem AV.le_of_eq {a b : AV} (h : a = b) : a.le b := h ▸ AV.le_refl a
theorem AV.le_undef (a : AV) : a.le .undef := fun _ v _ => .undef v
theorem AV.le_nil (e : Nat) : AV.nilsl.le (.sl e []) := fun _ _ h => by cases h; exact .sl0 _ _ _
theorem AV.le_agg {a b : List AV} (hl : a.length = b.length) (h : ∀ (i : Nat) x y, a[i]? = some x → b[i]? = some y → x.le y) : (AV.agg a).le (.agg b) := fun I v hv => by
  cases hv with
  | agg _ vs h1 h2 => exact .agg _ _ (by omega) fun i y u hy hu => (by
      have hi : i < a.length := by have := (List.getElem?_eq_some_iff.1 hy).1; omega
      exact h i a[i] y (List.getElem?_eq_getElem hi) hy I u (h2 i a[i] u (List.getElem?_eq_getElem hi) hu))
theorem AV.le_tup {a b : List AV} (hl : a.length = b.length) (h : ∀ (i : Nat) x y, a[i]? = some x → b[i]? = some y → x.le y) : (AV.tup a).le (.tup b) := fun I v hv => by
  cases hv with
  | tup _ vs h1 h2 => exact .tup _ _ (by omega) fun i y u hy hu => (by
      have hi : i < a.length := by have := (List.getElem?_eq_some_iff.1 hy).1; omega
      exact h i a[i] y (List.getElem?_eq_getElem hi) hy I u (h2 i a[i] u (List.getElem?_eq_getElem hi) hu))
theorem AV.le_tup2 {a b c d : AV} (h1 : a.le c) (h2 : b.le d) : (AV.tup [a, b]).le (.tup [c, d]) := AV.le_tup rfl fun i x y hx hy => by
  match i with
  | 0 => simp at hx hy; subst hx; subst hy; exact h1
  | 1 => simp at hx hy; subst hx; subst hy; exact h2
  | i + 2 => simp at hx

def resV (ts : List Tmp) (τ : Nat → AV) : AV := match ts with
  | [t] => τ t
  | ts => .tup (ts.map τ)

def resC (ts : List Tmp) (tmps : Array Value) : Value := match ts with
  | [t] => tmps.getD t undef
  | ts => .tuple (ts.map fun t => tmps.getD t undef).toArray

section
variable {P : Program}

theorem results_run {fn : Func} {ts : List Tmp} (h : fn.results = (ts.map .tmp).toArray) (tmps : Array Value) (w : World) : (results fn tmps).run P w = .ok (resC ts tmps) w := by
  have key : ∀ (g : ResultVar → Sem Value), (∀ t, g (.tmp t) = pure (tmps.getD t undef)) → ((ts.map ResultVar.tmp).toArray).mapM g = pure (ts.map fun t => tmps.getD t undef).toArray := fun g hg => by
    rw [List.mapM_toArray]
    have : (ts.map ResultVar.tmp).mapM g = pure (ts.map fun t => tmps.getD t undef) := by
      clear h
      induction ts with
      | nil => rfl
      | cons t ts ih => simp only [List.map_cons, List.mapM_cons, ih, hg, pure_bind]
    rw [this]; simp
  unfold results
  rw [h, key _ (fun t => rfl)]
  simp only [pure_bind, Sem.run_pure]
  match ts with
  | [] => rfl
  | [t] => rfl
  | t :: u :: r => simp [resC]

theorem resV_rel {I : Imm} {M : Mp} {τ : Nat → AV} {tmps : Array Value} (h : ∀ t, VRel I M (τ t) (tmps.getD t undef)) (ts : List Tmp) : VRel I M (resV ts τ) (resC ts tmps) := by
  have gen : ∀ ts : List Tmp, VRel I M (.tup (ts.map τ)) (.tuple (ts.map fun t => tmps.getD t undef).toArray) := fun ts =>
    .tup _ _ (by simp) fun i x v hx hv => by
      simp only [List.getElem?_map, Option.map_eq_some_iff] at hx
      simp only [List.getElem?_toArray, List.getElem?_map, Option.map_eq_some_iff] at hv
      obtain ⟨t, ht, rfl⟩ := hx
      obtain ⟨t', ht', rfl⟩ := hv
      rw [ht] at ht'
      cases ht'
      exact h t
  match ts with
  | [] => exact gen []
  | [t] => exact h t
  | t :: u :: r => exact gen _

/-- All own blocks, taken as only read. -/
theorem frz_all {I : Imm} {M : Mp} {h : Heap} {n : Nat} {w : World} (H : HRel I M h n w) : ∃ J : Imm, ILe I J ∧ (∀ b o, J b = some o → w.heap[b]? = some o) ∧ (∀ b, ¬ Live M b → J b = I b) ∧
    ∀ {x : AV} {v : Value}, VRel I M x v → PRel J (frz h x) v := by
  classical
  let J : Imm := fun b => if Live M b then w.heap[b]? else I b
  have hIJ : ILe I J := fun b o hb => by
    show (if _ then _ else _) = _
    split
    · exact H.imm b o hb
    · exact hb
  have hJ : ∀ i A sz, M i = .live A sz → J A.block = w.heap[A.block]? := fun i A sz hm => if_pos ⟨i, A, sz, hm, rfl⟩
  refine ⟨J, hIJ, fun b o hb => ?_, fun b hb => if_neg hb, fun {x v} hx => ?_⟩
  · by_cases hc : Live M b
    · have : J b = w.heap[b]? := if_pos hc
      rw [← this]; exact hb
    · have : J b = I b := if_neg hc
      rw [this] at hb; exact H.imm b o hb
  · cases x with
    | tup cs =>
      obtain ⟨vs, rfl, hs, hv⟩ := hx.tup_inv
      refine .tup _ _ (by simpa using hs) fun i y u hy hu => ?_
      simp only [List.getElem?_map, Option.map_eq_some_iff] at hy
      obtain ⟨z, hz, rfl⟩ := hy
      exact frz2_rel H hIJ (hv i z u hz hu) fun i _ A sz hm => hJ i A sz hm
    | _ => exact frz2_rel H hIJ hx fun i _ A sz hm => hJ i A sz hm

def st0 (args : List AV) (h : Heap) (n : Nat) : ASt := { τ := fun t => args.getD t (.tup []), h, n }

theorem enter_rel {I : Imm} {M : Mp} {h : Heap} {n nt : Nat} {w : World} {args : List AV} {cargs : Array Value} (H : HRel I M h n w) (ha : AllRel I M args cargs) (hl : args.length ≤ nt) :
    FRel nt I M (st0 args h n) { tmps := cargs ++ Array.replicate (nt - cargs.size) undef, defers := [] } w := by
  have hsz := ha.1
  refine ⟨rfl, by simp; omega, fun t => ?_, H⟩
  simp only [st0]
  by_cases ht : t < args.length
  · have h1 : args[t]? = some (args.getD t (.tup [])) := by simp [List.getD, ht]
    have h2 : t < cargs.size := by omega
    have h3 : (cargs ++ Array.replicate (nt - cargs.size) undef).getD t undef = cargs[t] := by
      simp only [Array.getD_eq_getD_getElem?, Array.getElem?_append_left h2, Array.getElem?_eq_getElem h2, Option.getD_some]
    rw [h3]
    exact ha.2 t _ _ h1 (Array.getElem?_eq_getElem h2)
  · have h1 : args.getD t (.tup []) = .tup [] := by simp [List.getD, List.getElem?_eq_none (Nat.le_of_not_lt ht)]
    have h3 : (cargs ++ Array.replicate (nt - cargs.size) undef).getD t undef = undef := by
      simp only [Array.getD_eq_getD_getElem?]
      rw [Array.getElem?_append_right (by omega)]
      rw [Array.getElem?_replicate]
      split <;> rfl
    rw [h1, h3]
    exact .pure _ _ (.tup [] #[] rfl (fun i x v hx => by simp at hx))

/-- A run, as a call. -/
theorem calls_of_AW {pa : List Tmp} {f : FuncId} {fn : Func} {c : Code} {ts : List Tmp} {Q : ASt → Prop} (hm : P.follows .mixedOrders = true) (hf : P.funcs[f]? = some fn) (hb : fn.body = some c) (hr : fn.results = (ts.map .tmp).toArray) (hok : codeOk fn.ntmps c = true)
    {args : List AV} (hl : args.length ≤ fn.ntmps) {I : Imm} {M : Mp} {h : Heap} {n : Nat} (h0 : AW P pa Q [.code c] (st0 args h n)) {w : World} {cargs : Array Value} (H : HRel I M h n w) (ha : AllRel I M args cargs) :
    Calls P f cargs w fun e w' => ∃ cv st I' M', e = .returned cv ∧ Q st ∧ VRel I' M' (resV ts st.τ) cv ∧ HRel I' M' st.h st.n w' ∧ Ext I M w I' M' w' ∧ n ≤ st.n ∧ (∀ j, j < n → M j = MS.fresh → M' j = MS.fresh) := by
  intro cs
  let b : Frame := { (default : Frame) with fn := f, kind := .normal }
  have henter : Frame.enter P f cargs .normal = b.at { tmps := cargs ++ Array.replicate (fn.ntmps - cargs.size) undef, defers := [] } [.code c] := by
    simp [Frame.enter, Frame.at, hf, hb, b]
  have F := enter_rel (nt := fn.ntmps) H ha hl
  obtain ⟨todo, a', w', st', I', M', s1, s2, s3, s4, s5, s6⟩ := AW_sound (nt := fn.ntmps) hm h0 (fun x hx => by simp at hx; subst hx; exact hok) I M _ w F b cs
  rw [← henter] at s1
  refine ⟨.returned _, w', _, ⟨_, st', I', M', rfl, s2, resV_rel s3.tmps ts, s3.heap, s4, s5, s6⟩, s1, rfl, rfl, s3.defers, rfl, fn, hf, results_run hr a'.tmps w'⟩

/-- A contract on own blocks. -/
theorem hcalls_of_AW {pa : List Tmp} {f : FuncId} {fn : Func} {c : Code} {ts : List Tmp} (hm : P.follows .mixedOrders = true) (hf : P.funcs[f]? = some fn) (hb : fn.body = some c) (hr : fn.results = (ts.map .tmp).toArray) (hnm : (fn.name == "runtime.NumGoroutine") = false) (hok : codeOk fn.ntmps c = true)
    {args : List AV} (hl : args.length ≤ fn.ntmps) {h : Heap} {n : Nat} {post : AV → Heap → Nat → Prop} (h0 : AW P pa (fun st => post (resV ts st.τ) st.h st.n) [.code c] (st0 args h n)) : HCalls P f args h n post :=
  ⟨⟨fn, c, hf, hb, hnm⟩, fun I M w cargs H ha => (calls_of_AW hm hf hb hr hok hl h0 H ha).mono fun e w' ⟨cv, st, I', M', he, hq, hv, hh, hx, hn, hfr⟩ => ⟨cv, _, I', M', st.h, st.n, he, hq, hv, hh, hx, hn, hfr⟩⟩

theorem HRel.zero {I : Imm} {w : World} (h : ∀ b o, I b = some o → w.heap[b]? = some o) : HRel I M0 (fun _ => none) 0 w :=
  ⟨h, fun _ _ => rfl, fun _ _ => rfl, fun i A sz hm => (by cases hm), fun i j A sz B sz' hm => (by cases hm)⟩

/-- What a run must answer. -/
def Ret (ts : List Tmp) (v : AV) (st : ASt) : Prop := (frz st.h (resV ts st.τ)).le v

/-- A contract on values alone. -/
theorem pcalls_of_AW {pa : List Tmp} {f : FuncId} {fn : Func} {c : Code} {ts : List Tmp} (hm : P.follows .mixedOrders = true) (hf : P.funcs[f]? = some fn) (hb : fn.body = some c) (hr : fn.results = (ts.map .tmp).toArray) (hnm : (fn.name == "runtime.NumGoroutine") = false) (hok : codeOk fn.ntmps c = true)
    {args : List AV} (hl : args.length ≤ fn.ntmps) {v : AV} (h0 : AW P pa (Ret ts v) [.code c] (st0 args (fun _ => none) 0)) : PCalls P f args v :=
  ⟨⟨fn, c, hf, hb, hnm⟩, fun I w cargs himm ha => (calls_of_AW hm hf hb hr hok hl h0 (.zero himm) ha).mono fun e w' ⟨cv, st, I', M', he, hq, hv, hh, hx, hn, hfr⟩ => by
    obtain ⟨J, j1, j2, j3, j4⟩ := frz_all hh
    have hnl : ∀ b, ¬ Live M0 b := fun b ⟨i, A, sz, hm, _⟩ => by cases hm
    refine ⟨cv, J, he, hx.imm.trans j1, j2, hq J cv (j4 hv), ⟨hx.os, hx.tape, hx.output, hx.size, fun b hb' => hx.keep b hb' (hnl b)⟩, fun b hb' hI => ?_⟩
    rw [j3 b fun hl => (hx.newL b hl).elim (hnl b) fun h' => by omega]
    exact hx.newI b hb' hI (hnl b)⟩

theorem PCalls.le {f : FuncId} {args : List AV} {v u : AV} (h : PCalls P f args v) (hv : v.le u) : PCalls P f args u :=
  ⟨h.1, fun I w cargs hi ha => (h.2 I w cargs hi ha).mono fun e w' ⟨cv, I', h1, h2, h3, h4, h5⟩ => ⟨cv, I', h1, h2, h3, hv _ _ h4, h5⟩⟩
end
end Go.Ab

set_option linter.unusedVariables false
set_option linter.unusedSimpArgs false
set_option maxRecDepth 10000
namespace Go.Ab

section
variable {P : Program} {pa : List Tmp} {Q : ASt → Prop} {k : List Item} {st : ASt} {ops : Array Oper} {K : ASt → Prop}

theorem putT_same (τ : Nat → AV) (d : Nat) (v : AV) : putT τ (some d) v d = v := by simp [putT]
theorem putT_ne (τ : Nat → AV) (d t : Nat) (v : AV) (h : t ≠ d) : putT τ (some d) v t = τ t := by simp [putT, h]
theorem frzτ_app (ids : List Nat) (h : Heap) (τ : Nat → AV) (t : Nat) : frzτ ids h τ t = frzT ids h (τ t) := rfl
theorem putT_none (τ : Nat → AV) (v : AV) : putT τ none v = τ := rfl
theorem updH_nil (h : Heap) : updH h [] = h := rfl
theorem updH_cons (h : Heap) (i : Nat) (b : Option Blk) (r : List (Nat × Option Blk)) : updH h ((i, b) :: r) = updH (upd1 h i b) r := rfl
theorem upd1_same (h : Heap) (i : Nat) (b : Option Blk) : upd1 h i b i = b := by simp [upd1]
theorem upd1_ne (h : Heap) (i j : Nat) (b : Option Blk) (hne : j ≠ i) : upd1 h i b j = h j := by simp [upd1, hne]
/-- A block that was there already is none of those that the call itself has made since. -/
theorem upd1_old (h : Heap) (n i j : Nat) (b : Option Blk) (hj : j < n) : upd1 h (n + i) b j = h j := by simp only [upd1]; rw [if_neg (by omega)]

theorem AW_true {c : Operand} {a b : Code} (h : aev st.τ c = .bool true) : AW P pa Q (.code (.cond c a b) :: k) st = AW P pa Q (.code a :: k) st := by rw [AW_cond, h]; simp
theorem AW_false {c : Operand} {a b : Code} (h : aev st.τ c = .bool false) : AW P pa Q (.code (.cond c a b) :: k) st = AW P pa Q (.code b :: k) st := by rw [AW_cond, h]; simp
/-- A test that is not decided: both ways. -/
theorem AW_ite {c : Operand} {a b : Code} {t : Bool} (h : aev st.τ c = .bool t) (h1 : t = true → AW P pa Q (.code a :: k) st) (h2 : t = false → AW P pa Q (.code b :: k) st) : AW P pa Q (.code (.cond c a b) :: k) st := by
  rw [AW_cond, h]; exact ⟨h1, h2⟩

def waitsL (i : Nat) : List Edge → Bool
  | [] => false
  | e :: r => (Region.binds .any e && e.on == i) || waitsL i r
theorem waitsB_list (i : Nat) (o : Oper) : waitsB i o = waitsL i o.after.toList := by
  unfold waitsB
  rw [← Array.any_toList]
  induction o.after.toList with
  | nil => rfl
  | cons e r ih => simp only [List.any_cons, waitsL, ih]
theorem disj_nil (b : List Nat) : disj [] b = True := by simp [disj]
theorem disj_cons (x : Nat) (a b : List Nat) : disj (x :: a) b = (x ∉ b ∧ disj a b) := by simp [disj]
theorem old_ne {b n : Nat} (h : b < n) (k : Nat) : (b = n + k) = False := eq_false (by omega)
theorem old_ne0 {b n : Nat} (h : b < n) : (b = n) = False := eq_false (by omega)
theorem new_ne {b n : Nat} (h : b < n) (k : Nat) : (n + k = b) = False := eq_false (by omega)
theorem new_ne0 {b n : Nat} (h : b < n) : (n = b) = False := eq_false (by omega)
theorem binds_data (i : Nat) : Region.binds .any { on := i, ground := .data } = true := rfl
theorem binds_chain (i : Nat) : Region.binds .any { on := i, ground := .chain } = true := rfl
theorem binds_guard (i : Nat) : Region.binds .any { on := i, ground := .guard } = true := rfl
theorem binds_phase (i : Nat) : Region.binds .any { on := i, ground := .phase } = true := rfl

/-! ### Statement by statement -/
def callS (P : Program) (pa : List Tmp) (ops : Array Oper) (o : Oper) (rest : List Oper) (slot : Nat) (st : ASt) (K : ASt → Prop) (f : FuncId) (args pargs : List AV) (ids : List Nat) : Prop :=
  (callK P f args st fun v h' n' => SWalk P pa ops rest (slot + 1) { τ := putT st.τ o.dst v, h := h', n := n' } K) ∨
    ∃ v, PCalls P f (args.map (frz2 st.h)) v ∧ SWalk P pa ops rest (slot + 1) (frzSt (args.flatMap ids2) st o.dst v) K

def SW1 (P : Program) (pa : List Tmp) (ops : Array Oper) (o : Oper) (rest : List Oper) (slot : Nat) (st : ASt) (K : ASt → Prop) : Option Bool → Option Did → Prop
  | some true, some (.out out) => SWalk P pa ops rest (slot + 1) (app st o out) K
  | some true, some (.call f args) => callS P pa ops o rest slot st K f args (args.map (frz2 st.h)) (args.flatMap ids2)
  | some false, _ => SWalk P pa ops rest (slot + 1) (app st o skipOut) K
  | _, _ => False

theorem SW1_out {o : Oper} {rest : List Oper} {slot : Nat} {out : Out} : SW1 P pa ops o rest slot st K (some true) (some (.out out)) = SWalk P pa ops rest (slot + 1) (app st o out) K := rfl
theorem SW1_call {o : Oper} {rest : List Oper} {slot : Nat} {f : FuncId} {args : List AV} : SW1 P pa ops o rest slot st K (some true) (some (.call f args)) = callS P pa ops o rest slot st K f args (args.map (frz2 st.h)) (args.flatMap ids2) := rfl
theorem SW1_skip {o : Oper} {rest : List Oper} {slot : Nat} {d : Option Did} : SW1 P pa ops o rest slot st K (some false) d = SWalk P pa ops rest (slot + 1) (app st o skipOut) K := rfl
theorem SWalk_nil {slot : Nat} : SWalk P pa ops [] slot st K = K st := rfl
theorem SWalk_cons {o : Oper} {rest : List Oper} {slot : Nat} : SWalk P pa ops (o :: rest) slot st K = SW1 P pa ops o rest slot st K (awant ops o st.τ) (aop P (isPure pa o) o.op slot (aev st.τ) st.h) := by
  simp only [SWalk]
  cases awant ops o st.τ with
  | none => rfl
  | some b => cases b with
    | false => simp only [SW1]
    | true => cases aop P (isPure pa o) o.op slot (aev st.τ) st.h with
      | none => rfl
      | some d => cases d <;> rfl

theorem callS_p {o : Oper} {rest : List Oper} {slot : Nat} {f : FuncId} {args pargs : List AV} {ids : List Nat} {v : AV} (hP : PCalls P f pargs v)
    (hk : SWalk P pa ops rest (slot + 1) (app st o (callOut v ids)) K) (ha : args.map (frz2 st.h) = pargs := by first | rfl | (simp only [go_sem]; done)) (hi : args.flatMap ids2 = ids := by first | rfl | (simp only [go_sem]; done)) : callS P pa ops o rest slot st K f args pargs ids := by
  subst ha; subst hi
  exact .inl (.inl ⟨v, hP, hk⟩)
/-- A call, after which its arguments are only read. -/
theorem callS_f {o : Oper} {rest : List Oper} {slot : Nat} {f : FuncId} {args pargs : List AV} {ids : List Nat} {v : AV} (hP : PCalls P f pargs v)
    (hk : SWalk P pa ops rest (slot + 1) (frzSt ids st o.dst v) K) (ha : args.map (frz2 st.h) = pargs := by first | rfl | (simp only [go_sem]; done)) (hi : args.flatMap ids2 = ids := by first | rfl | (simp only [go_sem]; done)) : callS P pa ops o rest slot st K f args pargs ids := by
  subst ha; subst hi
  exact .inr ⟨v, hP, hk⟩
/-- As 'callS_p', the arguments' values given apart. -/
theorem callS_q {o : Oper} {rest : List Oper} {slot : Nat} {f : FuncId} {args pargs pargs' : List AV} {ids ids' : List Nat} {v : AV} (hP : PCalls P f pargs' v) (ha : args.map (frz2 st.h) = pargs') (hi : args.flatMap ids2 = ids')
    (hk : SWalk P pa ops rest (slot + 1) (app st o (callOut v ids')) K) : callS P pa ops o rest slot st K f args pargs ids := by
  subst ha; subst hi
  exact .inl (.inl ⟨v, hP, hk⟩)
theorem callS_h {o : Oper} {rest : List Oper} {slot : Nat} {f : FuncId} {args pargs : List AV} {ids : List Nat} {post : AV → Heap → Nat → Prop} (hH : HCalls P f args st.h st.n post)
    (hk : ∀ v h' n', st.n ≤ n' → post v h' n' → SWalk P pa ops rest (slot + 1) { τ := putT st.τ o.dst v, h := h', n := n' } K) : callS P pa ops o rest slot st K f args pargs ids :=
  .inl (.inr ⟨post, hH, hk⟩)

def callD (P : Program) (pa : List Tmp) (ops : Array Oper) (o : Oper) (rest : List Oper) (i slot : Nat) (st : ASt) (log : List (Nat × Out)) (K : ASt → Prop) (f : FuncId) (args pargs : List AV) (ids : List Nat) : Prop :=
  (∃ v, PCalls P f pargs v ∧ (if hotB (callOut v ids) then logOk log o (callOut v ids) else True) ∧
    DWalk P pa ops rest (i + 1) (slot + 1) (app st o (callOut v ids)) (if hotB (callOut v ids) then (i, callOut v ids) :: log else log) K) ∨
  ∃ out, OLoc P f args st.h out ∧ hotB out = true ∧ logOk log o out ∧ newOk (slot - i + ops.size) (slot - i + ops.size + growP pa) st.h log out ∧ DWalk P pa ops rest (i + 1) (slot + 1) (app st o out) ((i, out) :: log) K

def logIf (b : Bool) (i : Nat) (out : Out) (log : List (Nat × Out)) : List (Nat × Out) := if b then (i, out) :: log else log
def okIf (b : Bool) (log : List (Nat × Out)) (o : Oper) (out : Out) : Prop := if b then logOk log o out else True
theorem logIf_true (i : Nat) (out : Out) (log : List (Nat × Out)) : logIf true i out log = (i, out) :: log := rfl
theorem logIf_false (i : Nat) (out : Out) (log : List (Nat × Out)) : logIf false i out log = log := rfl
theorem okIf_true (log : List (Nat × Out)) (o : Oper) (out : Out) : okIf true log o out = logOk log o out := rfl
theorem okIf_false (log : List (Nat × Out)) (o : Oper) (out : Out) : okIf false log o out = True := rfl

def DW1 (P : Program) (pa : List Tmp) (ops : Array Oper) (o : Oper) (rest : List Oper) (i slot : Nat) (st : ASt) (log : List (Nat × Out)) (K : ASt → Prop) : Option Bool → Option Did → Prop
  | some true, some (.out out) => okIf (hotB out) log o out ∧ DWalk P pa ops rest (i + 1) (slot + 1) (app st o out) (logIf (hotB out) i out log) K
  | some true, some (.call f args) => callD P pa ops o rest i slot st log K f args (args.map (frz2 st.h)) (args.flatMap ids2)
  | some false, _ => DWalk P pa ops rest (i + 1) (slot + 1) (app st o skipOut) log K
  | _, _ => False

theorem DW1_out {o : Oper} {rest : List Oper} {i slot : Nat} {log : List (Nat × Out)} {out : Out} : DW1 P pa ops o rest i slot st log K (some true) (some (.out out)) = (okIf (hotB out) log o out ∧ DWalk P pa ops rest (i + 1) (slot + 1) (app st o out) (logIf (hotB out) i out log) K) := rfl
theorem DW1_call {o : Oper} {rest : List Oper} {i slot : Nat} {log : List (Nat × Out)} {f : FuncId} {args : List AV} : DW1 P pa ops o rest i slot st log K (some true) (some (.call f args)) = callD P pa ops o rest i slot st log K f args (args.map (frz2 st.h)) (args.flatMap ids2) := rfl
theorem DW1_skip {o : Oper} {rest : List Oper} {i slot : Nat} {log : List (Nat × Out)} {d : Option Did} : DW1 P pa ops o rest i slot st log K (some false) d = DWalk P pa ops rest (i + 1) (slot + 1) (app st o skipOut) log K := rfl
theorem DWalk_nil {i slot : Nat} {log : List (Nat × Out)} : DWalk P pa ops [] i slot st log K = K st := rfl
theorem DWalk_cons {o : Oper} {rest : List Oper} {i slot : Nat} {log : List (Nat × Out)} : DWalk P pa ops (o :: rest) i slot st log K = DW1 P pa ops o rest i slot st log K (awant ops o st.τ) (aop P (isPure pa o) o.op slot (aev st.τ) st.h) := by
  simp only [DWalk]
  cases awant ops o st.τ with
  | none => rfl
  | some b => cases b with
    | false => simp only [DW1]
    | true => cases aop P (isPure pa o) o.op slot (aev st.τ) st.h with
      | none => rfl
      | some d => cases d <;> rfl

theorem callD_p {o : Oper} {rest : List Oper} {i slot : Nat} {log : List (Nat × Out)} {f : FuncId} {args pargs : List AV} {ids : List Nat} {v : AV} (hP : PCalls P f pargs v)
    (hk : okIf (hotB (callOut v ids)) log o (callOut v ids) ∧ DWalk P pa ops rest (i + 1) (slot + 1) (app st o (callOut v ids)) (logIf (hotB (callOut v ids)) i (callOut v ids) log) K) : callD P pa ops o rest i slot st log K f args pargs ids :=
  .inl ⟨v, hP, hk.1, hk.2⟩
/-- A call that changes own blocks, or makes new ones. -/
theorem callD_o {o : Oper} {rest : List Oper} {i slot : Nat} {log : List (Nat × Out)} {f : FuncId} {args pargs : List AV} {ids : List Nat} {out : Out} (hO : OLoc P f args st.h out) (hh : hotB out = true) (hl : logOk log o out)
    (hn : newOk (slot - i + ops.size) (slot - i + ops.size + growP pa) st.h log out) (hk : DWalk P pa ops rest (i + 1) (slot + 1) (app st o out) ((i, out) :: log) K) : callD P pa ops o rest i slot st log K f args pargs ids :=
  .inr ⟨out, hO, hh, hl, hn, hk⟩

theorem ARegion_true : ARegion P pa ops true st K = DWalk P pa ops ops.toList 0 st.n { st with n := st.n + ops.size + growP pa } [] K := rfl
theorem growP_nil : growP [] = 0 := rfl
theorem growP_cons (t : Tmp) (r : List Tmp) : growP (t :: r) = if 1000000 ≤ t then growP r + 1 else growP r := rfl
theorem ARegion_false : ARegion P pa ops false st K = SWalk P pa ops ops.toList st.n { st with n := st.n + ops.size } K := rfl

theorem isPure_none (pa : List Tmp) (o : Oper) (h : o.dst = none) : isPure pa o = false := by unfold isPure; rw [h]
theorem isPure_some (pa : List Tmp) (o : Oper) : isPure pa o = (match o.dst with | some d => pa.contains d | none => false) := rfl
theorem isPure_nil (o : Oper) : isPure [] o = false := by unfold isPure; cases o.dst <;> rfl
end

def orI (k : IntKind) (x y : Int) : Int := k.wrap (BitVec.ofInt k.bits x ||| BitVec.ofInt k.bits y).toNat
def andI (k : IntKind) (x y : Int) : Int := k.wrap (BitVec.ofInt k.bits x &&& BitVec.ofInt k.bits y).toNat
section
variable (k : IntKind) (x y : Int)
theorem abi_add : abinInt .add k x y = some (.int k (k.wrap (x + y))) := rfl
theorem abi_sub : abinInt .sub k x y = some (.int k (k.wrap (x - y))) := rfl
theorem abi_mul : abinInt .mul k x y = some (.int k (k.wrap (x * y))) := rfl
theorem abi_quo : abinInt .quo k x y = if y = 0 then none else some (.int k (k.wrap (x.tdiv y))) := rfl
theorem abi_rem : abinInt .rem k x y = if y = 0 then none else some (.int k (x.tmod y)) := rfl
theorem abi_and : abinInt .and k x y = some (.int k (andI k x y)) := rfl
theorem abi_or : abinInt .or k x y = some (.int k (orI k x y)) := rfl
theorem abi_xor : abinInt .xor k x y = some (.int k (k.wrap (BitVec.ofInt k.bits x ^^^ BitVec.ofInt k.bits y).toNat)) := rfl
theorem abi_andNot : abinInt .andNot k x y = some (.int k (k.wrap (BitVec.ofInt k.bits x &&& ~~~ (BitVec.ofInt k.bits y)).toNat)) := rfl
theorem abi_eql : abinInt .eql k x y = some (.bool (x == y)) := rfl
theorem abi_neq : abinInt .neq k x y = some (.bool (x != y)) := rfl
theorem abi_lss : abinInt .lss k x y = some (.bool (x < y)) := rfl
theorem abi_leq : abinInt .leq k x y = some (.bool (x ≤ y)) := rfl
theorem abi_gtr : abinInt .gtr k x y = some (.bool (x > y)) := rfl
theorem abi_geq : abinInt .geq k x y = some (.bool (x ≥ y)) := rfl
end

theorem aev_tmp (τ : Nat → AV) (t : Nat) : aev τ (.tmp t) = τ t := rfl
theorem aev_const (τ : Nat → AV) (v : Value) : aev τ (.const v) = absV v := rfl
theorem aev_func (τ : Nat → AV) (f : FuncId) : aev τ (.func f) = .func f [] := rfl

theorem getAs_false (n : Nat) (cs : List AV) : getAs false n cs = cs.head? := rfl
theorem getAs_true {n : Nat} {cs : List AV} (h : n ≤ cs.length) : getAs true n cs = some (.agg (cs.take n)) := by simp [getAs, h]

/-- A value's cells. -/
def cellsD (x : AV) : List AV := (x.cells?).getD []
theorem cellsD_app (x : AV) : cellsD x = (x.cells?).getD [] := rfl
theorem srcCells_nil (h : Heap) (e : Nat) : srcCells h e .nilsl = some ([], 0, []) := rfl
theorem srcCells_sl (h : Heap) (e s : Nat) (xs : List AV) : srcCells h e (.sl s xs) = if s = e then some (xs.flatMap cellsD, xs.length, []) else none := rfl
theorem srcCells_own (h : Heap) (e b off len s : Nat) : srcCells h e (.own b off len s) = (match h b with
    | some blk => if s = e ∧ off + len * e ≤ blk.length then some (cut blk off (len * e), len, [b]) else none
    | none => none) := rfl

/-- A flat struct's types, where its values may be held against each other. -/
def flatTs (P : Program) (t : TypeId) : Option (List TypeId) := match P.underlying t with
  | some (.struct fs) => if flatType P t fs then some (fs.toList.map (·.type)) else none
  | _ => none
def tyEq (P : Program) : List TypeId → List AV → List AV → Option Bool
  | [], [], [] => some true
  | t :: ts, x :: xs, y :: ys => match scEq P t x y, tyEq P ts xs ys with
    | some a, some b => some (a && b)
    | _, _ => none
  | _, _, _ => none
theorem flatEq_ty (P : Program) : ∀ (fs : List Field) (xs ys : List AV), flatEq P fs xs ys = tyEq P (fs.map (·.type)) xs ys
  | [], [], [] => rfl
  | [], [], _ :: _ => rfl
  | [], _ :: _, [] => rfl
  | [], _ :: _, _ :: _ => rfl
  | _ :: _, [], _ => rfl
  | _ :: _, _ :: _, [] => rfl
  | f :: fs, x :: xs, y :: ys => by
    simp only [flatEq, List.map_cons, tyEq, flatEq_ty P fs xs ys]
    rcases scEq P f.type x y with _ | a <;> rcases tyEq P (fs.map (·.type)) xs ys with _ | b <;> rfl
theorem aeq_agg (P : Program) (t : TypeId) (xs ys : List AV) : aeq P t (.agg xs) (.agg ys) = (match flatTs P t with | some ts => tyEq P ts xs ys | none => none) := by
  unfold aeq flatTs
  rcases hu : P.underlying t with _ | u
  · rfl
  · cases u with
    | struct fs =>
      simp only
      by_cases hf : flatType P t fs = true
      · rw [if_pos hf, if_pos hf]; exact flatEq_ty P _ _ _
      · rw [if_neg hf, if_neg hf]
    | _ => rfl
theorem aeq_bool (P : Program) (t : TypeId) (a b : Bool) : aeq P t (.bool a) (.bool b) = (match P.underlying t with | some .bool => some (a == b) | _ => none) := rfl
theorem aeq_nil_nil (P : Program) (t : TypeId) : aeq P t .nilsl .nilsl = (match P.underlying t with | some (.slice _) => some true | _ => none) := rfl
theorem aeq_own_nil (P : Program) (t : TypeId) (b o l e : Nat) : aeq P t (.own b o l e) .nilsl = (match P.underlying t with | some (.slice _) => some false | _ => none) := rfl
theorem aeq_sl_nil (P : Program) (t : TypeId) (e : Nat) (x : AV) (l : List AV) : aeq P t (.sl e (x :: l)) .nilsl = (match P.underlying t with | some (.slice _) => some false | _ => none) := rfl
theorem aeq_nilp (P : Program) (t : TypeId) : aeq P t .nilp .nilp = (match P.underlying t with | some (.pointer _) => some true | _ => none) := rfl
theorem aeq_ptr (P : Program) (t : TypeId) (b o : Nat) : aeq P t (.ptr b o) .nilp = (match P.underlying t with | some (.pointer _) => some false | _ => none) := rfl
theorem aeq_tptr (P : Program) (t : TypeId) (b k : Nat) (u : TypeId) : aeq P t (.tptr b k u) .nilp = (match P.underlying t with | some (.pointer _) => some false | _ => none) := rfl
theorem aeq_bsl (P : Program) (t : TypeId) (b l : Nat) (u : TypeId) : aeq P t (.bsl b l u) .nilsl = (match P.underlying t with | some (.slice _) => some false | _ => none) := rfl
theorem aeq_pp (P : Program) (t : TypeId) (cs : List AV) : aeq P t (.pp cs) .nilp = (match P.underlying t with | some (.pointer _) => some false | _ => none) := rfl

theorem wrap64_id {x : Int} (h0 : -9223372036854775808 ≤ x) (h1 : x ≤ 9223372036854775807) : IntKind.i64.wrap x = x := by
  unfold IntKind.wrap
  simp only [show IntKind.i64.bits = 64 from rfl, show IntKind.i64.signed = true from rfl, Bool.true_and, decide_eq_true_eq]
  split <;> omega
theorem wrapu32_id {x : Int} (h0 : 0 ≤ x) (h1 : x < 4294967296) : IntKind.u32.wrap x = x := by
  unfold IntKind.wrap
  simp only [show IntKind.u32.bits = 32 from rfl, show IntKind.u32.signed = false from rfl, Bool.false_and, Bool.false_eq_true, if_false]
  omega
theorem wrapu64_id {x : Int} (h0 : 0 ≤ x) (h1 : x < 18446744073709551616) : IntKind.u64.wrap x = x := by
  unfold IntKind.wrap
  simp only [show IntKind.u64.bits = 64 from rfl, show IntKind.u64.signed = false from rfl, Bool.false_and, Bool.false_eq_true, if_false]
  omega

theorem getD_map_lt {α : Type} (f : α → AV) (l : List α) (i : Nat) (d : AV) (h : i < l.length) : (l.map f).getD i d = f l[i] := by simp [List.getD, h]
theorem cast0 : ((0 : Nat) : Int) = 0 := rfl
theorem cast1 : ((1 : Nat) : Int) = 1 := rfl
theorem cast2 : ((2 : Nat) : Int) = 2 := rfl
theorem toNat_cast (i : Nat) : ((i : Int)).toNat = i := rfl

theorem Ret.mk {ts : List Tmp} {v : AV} {st : ASt} (h : frz st.h (resV ts st.τ) = v) : Ret ts v st := AV.le_of_eq h

section
variable (h : Heap)
theorem frz1_int (k : IntKind) (n : Int) : frz1 h (.int k n) = .int k n := rfl
theorem frz1_bool (b : Bool) : frz1 h (.bool b) = .bool b := rfl
theorem frz1_str (s : ByteArray) : frz1 h (.str s) = .str s := rfl
theorem frz1_nilsl : frz1 h .nilsl = .nilsl := rfl
theorem frz1_sl (e : Nat) (l : List AV) : frz1 h (.sl e l) = .sl e l := rfl
theorem frz1_ifc (t : TypeId) (x : AV) : frz1 h (.ifc t x) = .opq := rfl
theorem frz1_ptr (b o : Nat) : frz1 h (.ptr b o) = .opq := rfl
theorem frz1_opq : frz1 h .opq = .opq := rfl
theorem frz2_ptr (b o : Nat) : frz2 h (.ptr b o) = .opq := rfl
theorem frz2_opq : frz2 h .opq = .opq := rfl
theorem frz1_nilp : frz1 h .nilp = .nilp := rfl
theorem frz2_nilp : frz2 h .nilp = .nilp := rfl
theorem frz1_pp (l : List AV) : frz1 h (.pp l) = .pp l := rfl
theorem frz1_own (b off len e : Nat) : frz1 h (.own b off len e) = (match h b with
    | some blk => if off + len * e ≤ blk.length ∧ 0 < e ∧ (cut blk off (len * e)).all (·.flat1) then .sl e (chunk e len (cut blk off (len * e))) else .undef
    | none => .undef) := rfl
theorem frz2_int (k : IntKind) (n : Int) : frz2 h (.int k n) = .int k n := rfl
theorem frz2_bool (b : Bool) : frz2 h (.bool b) = .bool b := rfl
theorem frz2_str (s : ByteArray) : frz2 h (.str s) = .str s := rfl
theorem frz2_nilsl : frz2 h .nilsl = .nilsl := rfl
theorem frz2_sl (e : Nat) (l : List AV) : frz2 h (.sl e l) = .sl e l := rfl
theorem frz2_pp (l : List AV) : frz2 h (.pp l) = .pp l := rfl
theorem frz2_own (b off len e : Nat) : frz2 h (.own b off len e) = frz1 h (.own b off len e) := rfl
theorem frz2_agg (cs : List AV) : frz2 h (.agg cs) = .agg (cs.map (frz1 h)) := rfl
theorem frz_int (k : IntKind) (n : Int) : frz h (.int k n) = .int k n := rfl
theorem frz_bool (b : Bool) : frz h (.bool b) = .bool b := rfl
theorem frz_str (s : ByteArray) : frz h (.str s) = .str s := rfl
theorem frz_nilsl : frz h .nilsl = .nilsl := rfl
theorem frz_sl (e : Nat) (l : List AV) : frz h (.sl e l) = .sl e l := rfl
theorem frz_own (b off len e : Nat) : frz h (.own b off len e) = frz1 h (.own b off len e) := rfl
theorem frz_agg (cs : List AV) : frz h (.agg cs) = .agg (cs.map (frz1 h)) := rfl
theorem frz_tup (cs : List AV) : frz h (.tup cs) = .tup (cs.map (frz2 h)) := rfl
end

attribute [go_sem] frz1_ptr frz1_opq frz2_ptr frz2_opq frz1_nilp frz2_nilp frz1_int frz1_bool frz1_str frz1_nilsl frz1_sl frz1_pp frz1_own frz2_int frz2_bool frz2_str frz2_nilsl frz2_sl frz2_pp frz2_own frz2_agg frz_int frz_bool frz_str frz_nilsl frz_sl frz_own frz_agg frz_tup
attribute [go_sem] frzSt frzτ_app frzT frzT1 putT_same putT_ne putT_none updH_nil updH_cons upd1_same upd1_ne AW_true AW_false AW_seq AW_skip AW_block AW_exit AW_ret AW_inBlock AW_scope AW_label AW_inScope AW_nil AW_region ARegion_true ARegion_false growP_nil growP_cons
  SWalk_nil SWalk_cons SW1_out SW1_call SW1_skip DWalk_nil DWalk_cons DW1_out DW1_call DW1_skip logIf_true logIf_false okIf_true okIf_false isPure_nil isPure_some List.contains_cons aev_tmp aev_const aev_func aop awant app skipOut absV absV.abs1 pureOut exitTo
  hotB outOk disj_nil disj_cons logOk waitsB_list waitsL binds_data binds_chain binds_guard binds_phase callOut ids1 ids2 AV.scalar AV.scal2 AV.scal1 AV.flat1 AV.single AV.cells?
  aload astore aint abinH asliceH aappendS aunsafeString abin abi_add abi_sub abi_mul abi_quo abi_rem abi_and abi_or abi_xor abi_andNot abi_eql abi_neq abi_lss abi_leq abi_gtr abi_geq aslice afieldAddr apart afield aindexAddr aindex afill places abuild abuildSlice repCells amake cellsD_app srcCells_nil srcCells_sl srcCells_own aappend acopy alen abuiltin aconvert amax2 amin2 aun lay cut chunk scEq tyEq aeq_agg aeq_bool aeq_nil_nil aeq_own_nil aeq_sl_nil aeq_nilp aeq_ptr aeq_pp aeq_tptr aeq_bsl resV st0
  getAs_false getAs_true
  Option.bind_some Option.bind_none Option.map_some Option.map_none List.map_cons List.map_nil List.flatMap_cons List.flatMap_nil List.append_nil List.nil_append List.cons_append List.size_toArray List.length_cons List.length_nil List.length_map
  List.getElem?_toArray List.getElem?_cons_zero List.getElem?_cons_succ List.getElem?_nil List.head?_cons List.head?_nil List.headD_cons List.drop_zero List.drop_succ_cons List.drop_nil List.take_succ_cons List.take_zero List.take_nil List.all_cons List.all_nil List.isEmpty_nil List.isEmpty_cons
  List.toList_toArray List.getD_cons_zero List.getD_cons_succ List.getD_nil List.mem_cons List.not_mem_nil List.foldlM_cons List.foldlM_nil List.mapM_cons List.mapM_nil Option.pure_def Option.bind_eq_bind List.contains_nil
  Nat.zero_add Nat.add_zero Nat.mul_one Nat.one_mul Nat.zero_mul Nat.le_refl Nat.zero_le Nat.succ_ne_zero Int.toNat_natCast Int.natCast_nonneg Nat.add_assoc Nat.add_left_cancel_iff Nat.add_eq_left Nat.left_eq_add Nat.sub_zero
  beq_self_eq_true bne_self_eq_false beq_true beq_false ge_iff_le gt_iff_lt Bool.not_true Bool.not_false Bool.and_true Bool.true_and Bool.and_false Bool.false_and Bool.or_true Bool.true_or Bool.or_false Bool.false_or Bool.and_self Bool.or_self Bool.false_eq_true Bool.true_eq_false
  if_true if_false ite_true ite_false and_true true_and and_self and_false false_and or_true true_or or_false false_or or_self not_true not_false_eq_true true_implies false_implies implies_true forall_const forall_eq ne_eq decide_true decide_false decide_eq_true_eq eq_self

/- Literals are reckoned by the same rewriting. -/
attribute [go_sem] Nat.reduceAdd Nat.reduceMul Nat.reduceSub Nat.reduceBEq Nat.reduceEqDiff Nat.reduceLeDiff Nat.reduceLT Int.reduceLT Int.reduceLE Int.reduceGE Int.reduceGT Int.reduceEq Int.reduceBEq Int.reduceNeg Int.reduceToNat reduceCtorEq Nat.reducePow Int.reducePow
end Go.Ab

namespace Go.Proofs.YtopmghclhgihfaaGreatDoor
open Go.Ab
theorem follows_mixed : Tryz.prog.follows .mixedOrders = true := by kernel_rfl
theorem ts_1 : tsize Tryz.prog 1 = some 1 := by kernel_rfl
theorem tb_1 : tbytes Tryz.prog 1 = some 8 := by kernel_rfl
theorem tg_1 : tagg Tryz.prog 1 = some false := by kernel_rfl
theorem bl_1 : isBld Tryz.prog 1 = false := by kernel_rfl
theorem ts_2 : tsize Tryz.prog 2 = some 1 := by kernel_rfl
theorem tb_2 : tbytes Tryz.prog 2 = some 8 := by kernel_rfl
theorem tg_2 : tagg Tryz.prog 2 = some false := by kernel_rfl
theorem tz_2 : zcells Tryz.prog 2 = some [.int .i64 0] := by kernel_rfl
theorem bl_2 : isBld Tryz.prog 2 = false := by kernel_rfl
theorem ts_3 : tsize Tryz.prog 3 = some 1 := by kernel_rfl
theorem tb_3 : tbytes Tryz.prog 3 = some 8 := by kernel_rfl
theorem tg_3 : tagg Tryz.prog 3 = some false := by kernel_rfl
theorem tz_3 : zcells Tryz.prog 3 = some [.int .i64 0] := by kernel_rfl
theorem bl_3 : isBld Tryz.prog 3 = false := by kernel_rfl
theorem ts_4 : tsize Tryz.prog 4 = some 1 := by kernel_rfl
theorem tb_4 : tbytes Tryz.prog 4 = some 1 := by kernel_rfl
theorem tg_4 : tagg Tryz.prog 4 = some false := by kernel_rfl
theorem tz_4 : zcells Tryz.prog 4 = some [.bool false] := by kernel_rfl
theorem bl_4 : isBld Tryz.prog 4 = false := by kernel_rfl
theorem ts_5 : tsize Tryz.prog 5 = some 1 := by kernel_rfl
theorem tb_5 : tbytes Tryz.prog 5 = some 1 := by kernel_rfl
theorem tg_5 : tagg Tryz.prog 5 = some false := by kernel_rfl
theorem tz_5 : zcells Tryz.prog 5 = some [.int .u8 0] := by kernel_rfl
theorem bl_5 : isBld Tryz.prog 5 = false := by kernel_rfl
theorem iu_5 : isU8 Tryz.prog 5 = true := by kernel_rfl
theorem ro_5 : rowOk Tryz.prog 5 = true := by kernel_rfl
theorem ts_9 : tsize Tryz.prog 9 = some 1 := by kernel_rfl
theorem tb_9 : tbytes Tryz.prog 9 = some 16 := by kernel_rfl
theorem tg_9 : tagg Tryz.prog 9 = some false := by kernel_rfl
theorem tz_9 : zcells Tryz.prog 9 = some [.str ⟨#[]⟩] := by kernel_rfl
theorem bl_9 : isBld Tryz.prog 9 = false := by kernel_rfl
theorem ts_12 : tsize Tryz.prog 12 = some 1 := by kernel_rfl
theorem tb_12 : tbytes Tryz.prog 12 = some 8 := by kernel_rfl
theorem tg_12 : tagg Tryz.prog 12 = some false := by kernel_rfl
theorem tz_12 : zcells Tryz.prog 12 = some [.int .u64 0] := by kernel_rfl
theorem bl_12 : isBld Tryz.prog 12 = false := by kernel_rfl
theorem ts_13 : tsize Tryz.prog 13 = some 2 := by kernel_rfl
theorem tb_13 : tbytes Tryz.prog 13 = some 24 := by kernel_rfl
theorem tg_13 : tagg Tryz.prog 13 = some true := by kernel_rfl
theorem tz_13 : zcells Tryz.prog 13 = some [.str ⟨#[]⟩, .int .u64 0] := by kernel_rfl
theorem bl_13 : isBld Tryz.prog 13 = false := by kernel_rfl
theorem ts_19 : tsize Tryz.prog 19 = some 1 := by kernel_rfl
theorem tb_19 : tbytes Tryz.prog 19 = some 8 := by kernel_rfl
theorem tg_19 : tagg Tryz.prog 19 = some true := by kernel_rfl
theorem tz_19 : zcells Tryz.prog 19 = some [.nilp] := by kernel_rfl
theorem bl_19 : isBld Tryz.prog 19 = false := by kernel_rfl
theorem ts_21 : tsize Tryz.prog 21 = some 1 := by kernel_rfl
theorem tb_21 : tbytes Tryz.prog 21 = some 4 := by kernel_rfl
theorem tg_21 : tagg Tryz.prog 21 = some false := by kernel_rfl
theorem tz_21 : zcells Tryz.prog 21 = some [.int .i32 0] := by kernel_rfl
theorem bl_21 : isBld Tryz.prog 21 = false := by kernel_rfl
theorem ts_22 : tsize Tryz.prog 22 = some 1 := by kernel_rfl
theorem tb_22 : tbytes Tryz.prog 22 = some 24 := by kernel_rfl
theorem tg_22 : tagg Tryz.prog 22 = some false := by kernel_rfl
theorem tz_22 : zcells Tryz.prog 22 = some [.nilsl] := by kernel_rfl
theorem te_22 : telem Tryz.prog 22 = some 88 := by kernel_rfl
theorem bl_22 : isBld Tryz.prog 22 = false := by kernel_rfl
theorem ts_23 : tsize Tryz.prog 23 = some 1 := by kernel_rfl
theorem tb_23 : tbytes Tryz.prog 23 = some 24 := by kernel_rfl
theorem tg_23 : tagg Tryz.prog 23 = some false := by kernel_rfl
theorem tz_23 : zcells Tryz.prog 23 = some [.nilsl] := by kernel_rfl
theorem te_23 : telem Tryz.prog 23 = some 3 := by kernel_rfl
theorem bl_23 : isBld Tryz.prog 23 = false := by kernel_rfl
theorem ts_24 : tsize Tryz.prog 24 = some 4 := by kernel_rfl
theorem tb_24 : tbytes Tryz.prog 24 = some 64 := by kernel_rfl
theorem tg_24 : tagg Tryz.prog 24 = some true := by kernel_rfl
theorem tz_24 : zcells Tryz.prog 24 = some [.nilsl, .nilsl, .int .i64 0, .int .i64 0] := by kernel_rfl
theorem bl_24 : isBld Tryz.prog 24 = false := by kernel_rfl
theorem ts_25 : tsize Tryz.prog 25 = some 4 := by kernel_rfl
theorem tb_25 : tbytes Tryz.prog 25 = some 64 := by kernel_rfl
theorem tg_25 : tagg Tryz.prog 25 = some true := by kernel_rfl
theorem tz_25 : zcells Tryz.prog 25 = some [.nilsl, .nilsl, .int .i64 0, .int .i64 0] := by kernel_rfl
theorem bl_25 : isBld Tryz.prog 25 = false := by kernel_rfl
theorem ts_26 : tsize Tryz.prog 26 = some 1 := by kernel_rfl
theorem tb_26 : tbytes Tryz.prog 26 = some 24 := by kernel_rfl
theorem tg_26 : tagg Tryz.prog 26 = some false := by kernel_rfl
theorem tz_26 : zcells Tryz.prog 26 = some [.nilsl] := by kernel_rfl
theorem te_26 : telem Tryz.prog 26 = some 169 := by kernel_rfl
theorem bl_26 : isBld Tryz.prog 26 = false := by kernel_rfl
theorem ts_27 : tsize Tryz.prog 27 = some 3 := by kernel_rfl
theorem tb_27 : tbytes Tryz.prog 27 = some 56 := by kernel_rfl
theorem tg_27 : tagg Tryz.prog 27 = some true := by kernel_rfl
theorem tz_27 : zcells Tryz.prog 27 = some [.bool false, .nilsl, .nilsl] := by kernel_rfl
theorem bl_27 : isBld Tryz.prog 27 = false := by kernel_rfl
theorem ts_28 : tsize Tryz.prog 28 = some 3 := by kernel_rfl
theorem tb_28 : tbytes Tryz.prog 28 = some 56 := by kernel_rfl
theorem tg_28 : tagg Tryz.prog 28 = some true := by kernel_rfl
theorem tz_28 : zcells Tryz.prog 28 = some [.bool false, .nilsl, .nilsl] := by kernel_rfl
theorem bl_28 : isBld Tryz.prog 28 = false := by kernel_rfl
theorem ts_29 : tsize Tryz.prog 29 = some 1 := by kernel_rfl
theorem tb_29 : tbytes Tryz.prog 29 = some 24 := by kernel_rfl
theorem tg_29 : tagg Tryz.prog 29 = some false := by kernel_rfl
theorem tz_29 : zcells Tryz.prog 29 = some [.nilsl] := by kernel_rfl
theorem te_29 : telem Tryz.prog 29 = some 28 := by kernel_rfl
theorem bl_29 : isBld Tryz.prog 29 = false := by kernel_rfl
theorem ts_30 : tsize Tryz.prog 30 = some 5 := by kernel_rfl
theorem tb_30 : tbytes Tryz.prog 30 = some 104 := by kernel_rfl
theorem tg_30 : tagg Tryz.prog 30 = some true := by kernel_rfl
theorem tz_30 : zcells Tryz.prog 30 = some [.bool false, .nilsl, .nilsl, .nilsl, .nilsl] := by kernel_rfl
theorem bl_30 : isBld Tryz.prog 30 = false := by kernel_rfl
theorem ts_31 : tsize Tryz.prog 31 = some 5 := by kernel_rfl
theorem tb_31 : tbytes Tryz.prog 31 = some 104 := by kernel_rfl
theorem tg_31 : tagg Tryz.prog 31 = some true := by kernel_rfl
theorem tz_31 : zcells Tryz.prog 31 = some [.bool false, .nilsl, .nilsl, .nilsl, .nilsl] := by kernel_rfl
theorem bl_31 : isBld Tryz.prog 31 = false := by kernel_rfl
theorem ts_32 : tsize Tryz.prog 32 = some 11 := by kernel_rfl
theorem tb_32 : tbytes Tryz.prog 32 = some 216 := by kernel_rfl
theorem tg_32 : tagg Tryz.prog 32 = some true := by kernel_rfl
theorem tz_32 : zcells Tryz.prog 32 = some [.bool false, .nilsl, .nilsl, .nilsl, .nilsl, .bool false, .nilsl, .nilsl, .nilsl, .nilsl, .int .i64 0] := by kernel_rfl
theorem bl_32 : isBld Tryz.prog 32 = false := by kernel_rfl
theorem ts_33 : tsize Tryz.prog 33 = some 11 := by kernel_rfl
theorem tb_33 : tbytes Tryz.prog 33 = some 216 := by kernel_rfl
theorem tg_33 : tagg Tryz.prog 33 = some true := by kernel_rfl
theorem tz_33 : zcells Tryz.prog 33 = some [.bool false, .nilsl, .nilsl, .nilsl, .nilsl, .bool false, .nilsl, .nilsl, .nilsl, .nilsl, .int .i64 0] := by kernel_rfl
theorem bl_33 : isBld Tryz.prog 33 = false := by kernel_rfl
theorem ts_34 : tsize Tryz.prog 34 = some 2 := by kernel_rfl
theorem tb_34 : tbytes Tryz.prog 34 = some 48 := by kernel_rfl
theorem tg_34 : tagg Tryz.prog 34 = some true := by kernel_rfl
theorem tz_34 : zcells Tryz.prog 34 = some [.nilsl, .nilsl] := by kernel_rfl
theorem bl_34 : isBld Tryz.prog 34 = false := by kernel_rfl
theorem ts_35 : tsize Tryz.prog 35 = some 1 := by kernel_rfl
theorem tb_35 : tbytes Tryz.prog 35 = some 8 := by kernel_rfl
theorem tg_35 : tagg Tryz.prog 35 = some false := by kernel_rfl
theorem bl_35 : isBld Tryz.prog 35 = false := by kernel_rfl
theorem ts_36 : tsize Tryz.prog 36 = some 1 := by kernel_rfl
theorem tb_36 : tbytes Tryz.prog 36 = some 8 := by kernel_rfl
theorem tg_36 : tagg Tryz.prog 36 = some false := by kernel_rfl
theorem bl_36 : isBld Tryz.prog 36 = false := by kernel_rfl
theorem ts_37 : tsize Tryz.prog 37 = some 1 := by kernel_rfl
theorem tb_37 : tbytes Tryz.prog 37 = some 8 := by kernel_rfl
theorem tg_37 : tagg Tryz.prog 37 = some false := by kernel_rfl
theorem bl_37 : isBld Tryz.prog 37 = false := by kernel_rfl
theorem ts_38 : tsize Tryz.prog 38 = some 1 := by kernel_rfl
theorem tb_38 : tbytes Tryz.prog 38 = some 8 := by kernel_rfl
theorem tg_38 : tagg Tryz.prog 38 = some false := by kernel_rfl
theorem bl_38 : isBld Tryz.prog 38 = false := by kernel_rfl
theorem ts_39 : tsize Tryz.prog 39 = some 1 := by kernel_rfl
theorem tb_39 : tbytes Tryz.prog 39 = some 24 := by kernel_rfl
theorem tg_39 : tagg Tryz.prog 39 = some false := by kernel_rfl
theorem tz_39 : zcells Tryz.prog 39 = some [.nilsl] := by kernel_rfl
theorem te_39 : telem Tryz.prog 39 = some 90 := by kernel_rfl
theorem bl_39 : isBld Tryz.prog 39 = false := by kernel_rfl
theorem ts_40 : tsize Tryz.prog 40 = some 4 := by kernel_rfl
theorem tb_40 : tbytes Tryz.prog 40 = some 64 := by kernel_rfl
theorem tg_40 : tagg Tryz.prog 40 = some true := by kernel_rfl
theorem tz_40 : zcells Tryz.prog 40 = some [.nilsl, .nilsl, .int .i64 0, .int .i64 0] := by kernel_rfl
theorem bl_40 : isBld Tryz.prog 40 = false := by kernel_rfl
theorem ts_41 : tsize Tryz.prog 41 = some 4 := by kernel_rfl
theorem tb_41 : tbytes Tryz.prog 41 = some 64 := by kernel_rfl
theorem tg_41 : tagg Tryz.prog 41 = some true := by kernel_rfl
theorem tz_41 : zcells Tryz.prog 41 = some [.nilsl, .nilsl, .int .i64 0, .int .i64 0] := by kernel_rfl
theorem bl_41 : isBld Tryz.prog 41 = false := by kernel_rfl
theorem ts_42 : tsize Tryz.prog 42 = some 1 := by kernel_rfl
theorem tb_42 : tbytes Tryz.prog 42 = some 8 := by kernel_rfl
theorem tg_42 : tagg Tryz.prog 42 = some false := by kernel_rfl
theorem bl_42 : isBld Tryz.prog 42 = false := by kernel_rfl
theorem ts_43 : tsize Tryz.prog 43 = some 2 := by kernel_rfl
theorem tb_43 : tbytes Tryz.prog 43 = some 32 := by kernel_rfl
theorem tg_43 : tagg Tryz.prog 43 = some true := by kernel_rfl
theorem tz_43 : zcells Tryz.prog 43 = some [.bool false, .nilsl] := by kernel_rfl
theorem bl_43 : isBld Tryz.prog 43 = false := by kernel_rfl
theorem ts_44 : tsize Tryz.prog 44 = some 2 := by kernel_rfl
theorem tb_44 : tbytes Tryz.prog 44 = some 32 := by kernel_rfl
theorem tg_44 : tagg Tryz.prog 44 = some true := by kernel_rfl
theorem tz_44 : zcells Tryz.prog 44 = some [.bool false, .nilsl] := by kernel_rfl
theorem bl_44 : isBld Tryz.prog 44 = false := by kernel_rfl
theorem ts_45 : tsize Tryz.prog 45 = some 3 := by kernel_rfl
theorem tb_45 : tbytes Tryz.prog 45 = some 56 := by kernel_rfl
theorem tg_45 : tagg Tryz.prog 45 = some true := by kernel_rfl
theorem tz_45 : zcells Tryz.prog 45 = some [.bool false, .nilsl, .nilsl] := by kernel_rfl
theorem bl_45 : isBld Tryz.prog 45 = false := by kernel_rfl
theorem ts_46 : tsize Tryz.prog 46 = some 3 := by kernel_rfl
theorem tb_46 : tbytes Tryz.prog 46 = some 56 := by kernel_rfl
theorem tg_46 : tagg Tryz.prog 46 = some true := by kernel_rfl
theorem tz_46 : zcells Tryz.prog 46 = some [.bool false, .nilsl, .nilsl] := by kernel_rfl
theorem bl_46 : isBld Tryz.prog 46 = false := by kernel_rfl
theorem ts_47 : tsize Tryz.prog 47 = some 1 := by kernel_rfl
theorem tb_47 : tbytes Tryz.prog 47 = some 24 := by kernel_rfl
theorem tg_47 : tagg Tryz.prog 47 = some false := by kernel_rfl
theorem tz_47 : zcells Tryz.prog 47 = some [.nilsl] := by kernel_rfl
theorem te_47 : telem Tryz.prog 47 = some 46 := by kernel_rfl
theorem bl_47 : isBld Tryz.prog 47 = false := by kernel_rfl
theorem ts_48 : tsize Tryz.prog 48 = some 5 := by kernel_rfl
theorem tb_48 : tbytes Tryz.prog 48 = some 104 := by kernel_rfl
theorem tg_48 : tagg Tryz.prog 48 = some true := by kernel_rfl
theorem tz_48 : zcells Tryz.prog 48 = some [.bool false, .nilsl, .nilsl, .nilsl, .nilsl] := by kernel_rfl
theorem bl_48 : isBld Tryz.prog 48 = false := by kernel_rfl
theorem ts_49 : tsize Tryz.prog 49 = some 5 := by kernel_rfl
theorem tb_49 : tbytes Tryz.prog 49 = some 104 := by kernel_rfl
theorem tg_49 : tagg Tryz.prog 49 = some true := by kernel_rfl
theorem tz_49 : zcells Tryz.prog 49 = some [.bool false, .nilsl, .nilsl, .nilsl, .nilsl] := by kernel_rfl
theorem bl_49 : isBld Tryz.prog 49 = false := by kernel_rfl
theorem ts_50 : tsize Tryz.prog 50 = some 1 := by kernel_rfl
theorem tb_50 : tbytes Tryz.prog 50 = some 8 := by kernel_rfl
theorem tg_50 : tagg Tryz.prog 50 = some false := by kernel_rfl
theorem bl_50 : isBld Tryz.prog 50 = false := by kernel_rfl
theorem ts_51 : tsize Tryz.prog 51 = some 1 := by kernel_rfl
theorem tb_51 : tbytes Tryz.prog 51 = some 8 := by kernel_rfl
theorem tg_51 : tagg Tryz.prog 51 = some false := by kernel_rfl
theorem bl_51 : isBld Tryz.prog 51 = false := by kernel_rfl
theorem ts_53 : tsize Tryz.prog 53 = some 1 := by kernel_rfl
theorem tb_53 : tbytes Tryz.prog 53 = some 8 := by kernel_rfl
theorem tg_53 : tagg Tryz.prog 53 = some false := by kernel_rfl
theorem bl_53 : isBld Tryz.prog 53 = false := by kernel_rfl
theorem ts_54 : tsize Tryz.prog 54 = some 5 := by kernel_rfl
theorem tb_54 : tbytes Tryz.prog 54 = some 104 := by kernel_rfl
theorem tg_54 : tagg Tryz.prog 54 = some true := by kernel_rfl
theorem tz_54 : zcells Tryz.prog 54 = some [.bool false, .nilsl, .nilsl, .nilsl, .nilsl] := by kernel_rfl
theorem bl_54 : isBld Tryz.prog 54 = false := by kernel_rfl
theorem ts_55 : tsize Tryz.prog 55 = some 4 := by kernel_rfl
theorem tb_55 : tbytes Tryz.prog 55 = some 32 := by kernel_rfl
theorem tg_55 : tagg Tryz.prog 55 = some true := by kernel_rfl
theorem tz_55 : zcells Tryz.prog 55 = some [.int .i64 0, .int .i64 0, .int .i64 0, .int .i64 0] := by kernel_rfl
theorem bl_55 : isBld Tryz.prog 55 = false := by kernel_rfl
theorem ts_56 : tsize Tryz.prog 56 = some 4 := by kernel_rfl
theorem tb_56 : tbytes Tryz.prog 56 = some 32 := by kernel_rfl
theorem tg_56 : tagg Tryz.prog 56 = some true := by kernel_rfl
theorem tz_56 : zcells Tryz.prog 56 = some [.int .i64 0, .int .i64 0, .int .i64 0, .int .i64 0] := by kernel_rfl
theorem tf_56 : flatTs Tryz.prog 56 = some [3, 3, 3, 3] := by kernel_rfl
theorem bl_56 : isBld Tryz.prog 56 = false := by kernel_rfl
theorem ts_58 : tsize Tryz.prog 58 = some 1 := by kernel_rfl
theorem tb_58 : tbytes Tryz.prog 58 = some 8 := by kernel_rfl
theorem tg_58 : tagg Tryz.prog 58 = some false := by kernel_rfl
theorem bl_58 : isBld Tryz.prog 58 = false := by kernel_rfl
theorem ts_60 : tsize Tryz.prog 60 = some 1 := by kernel_rfl
theorem tb_60 : tbytes Tryz.prog 60 = some 8 := by kernel_rfl
theorem tg_60 : tagg Tryz.prog 60 = some false := by kernel_rfl
theorem bl_60 : isBld Tryz.prog 60 = false := by kernel_rfl
theorem ts_61 : tsize Tryz.prog 61 = some 1 := by kernel_rfl
theorem tb_61 : tbytes Tryz.prog 61 = some 8 := by kernel_rfl
theorem tg_61 : tagg Tryz.prog 61 = some false := by kernel_rfl
theorem bl_61 : isBld Tryz.prog 61 = false := by kernel_rfl
theorem ts_62 : tsize Tryz.prog 62 = some 1 := by kernel_rfl
theorem tb_62 : tbytes Tryz.prog 62 = some 8 := by kernel_rfl
theorem tg_62 : tagg Tryz.prog 62 = some false := by kernel_rfl
theorem bl_62 : isBld Tryz.prog 62 = false := by kernel_rfl
theorem ts_63 : tsize Tryz.prog 63 = some 1 := by kernel_rfl
theorem tb_63 : tbytes Tryz.prog 63 = some 8 := by kernel_rfl
theorem tg_63 : tagg Tryz.prog 63 = some false := by kernel_rfl
theorem bl_63 : isBld Tryz.prog 63 = false := by kernel_rfl
theorem ts_65 : tsize Tryz.prog 65 = some 1 := by kernel_rfl
theorem tb_65 : tbytes Tryz.prog 65 = some 8 := by kernel_rfl
theorem tg_65 : tagg Tryz.prog 65 = some false := by kernel_rfl
theorem bl_65 : isBld Tryz.prog 65 = false := by kernel_rfl
theorem ts_67 : tsize Tryz.prog 67 = some 1 := by kernel_rfl
theorem tb_67 : tbytes Tryz.prog 67 = some 8 := by kernel_rfl
theorem tg_67 : tagg Tryz.prog 67 = some false := by kernel_rfl
theorem bl_67 : isBld Tryz.prog 67 = false := by kernel_rfl
theorem ts_68 : tsize Tryz.prog 68 = some 1 := by kernel_rfl
theorem tb_68 : tbytes Tryz.prog 68 = some 8 := by kernel_rfl
theorem tg_68 : tagg Tryz.prog 68 = some false := by kernel_rfl
theorem bl_68 : isBld Tryz.prog 68 = false := by kernel_rfl
theorem ts_69 : tsize Tryz.prog 69 = some 1 := by kernel_rfl
theorem tb_69 : tbytes Tryz.prog 69 = some 8 := by kernel_rfl
theorem tg_69 : tagg Tryz.prog 69 = some false := by kernel_rfl
theorem bl_69 : isBld Tryz.prog 69 = false := by kernel_rfl
theorem ts_70 : tsize Tryz.prog 70 = some 1 := by kernel_rfl
theorem tb_70 : tbytes Tryz.prog 70 = some 8 := by kernel_rfl
theorem tg_70 : tagg Tryz.prog 70 = some false := by kernel_rfl
theorem bl_70 : isBld Tryz.prog 70 = false := by kernel_rfl
theorem ts_71 : tsize Tryz.prog 71 = some 1 := by kernel_rfl
theorem tb_71 : tbytes Tryz.prog 71 = some 8 := by kernel_rfl
theorem tg_71 : tagg Tryz.prog 71 = some false := by kernel_rfl
theorem bl_71 : isBld Tryz.prog 71 = false := by kernel_rfl
theorem ts_72 : tsize Tryz.prog 72 = some 1 := by kernel_rfl
theorem tb_72 : tbytes Tryz.prog 72 = some 8 := by kernel_rfl
theorem tg_72 : tagg Tryz.prog 72 = some false := by kernel_rfl
theorem bl_72 : isBld Tryz.prog 72 = false := by kernel_rfl
theorem ts_74 : tsize Tryz.prog 74 = some 1 := by kernel_rfl
theorem tb_74 : tbytes Tryz.prog 74 = some 8 := by kernel_rfl
theorem tg_74 : tagg Tryz.prog 74 = some false := by kernel_rfl
theorem bl_74 : isBld Tryz.prog 74 = false := by kernel_rfl
theorem ts_76 : tsize Tryz.prog 76 = some 1 := by kernel_rfl
theorem tb_76 : tbytes Tryz.prog 76 = some 8 := by kernel_rfl
theorem tg_76 : tagg Tryz.prog 76 = some false := by kernel_rfl
theorem bl_76 : isBld Tryz.prog 76 = false := by kernel_rfl
theorem ts_77 : tsize Tryz.prog 77 = some 1 := by kernel_rfl
theorem tb_77 : tbytes Tryz.prog 77 = some 8 := by kernel_rfl
theorem tg_77 : tagg Tryz.prog 77 = some false := by kernel_rfl
theorem bl_77 : isBld Tryz.prog 77 = false := by kernel_rfl
theorem ts_78 : tsize Tryz.prog 78 = some 1 := by kernel_rfl
theorem tb_78 : tbytes Tryz.prog 78 = some 8 := by kernel_rfl
theorem tg_78 : tagg Tryz.prog 78 = some false := by kernel_rfl
theorem bl_78 : isBld Tryz.prog 78 = false := by kernel_rfl
theorem ts_79 : tsize Tryz.prog 79 = some 1 := by kernel_rfl
theorem tb_79 : tbytes Tryz.prog 79 = some 24 := by kernel_rfl
theorem tg_79 : tagg Tryz.prog 79 = some false := by kernel_rfl
theorem tz_79 : zcells Tryz.prog 79 = some [.nilsl] := by kernel_rfl
theorem te_79 : telem Tryz.prog 79 = some 47 := by kernel_rfl
theorem bl_79 : isBld Tryz.prog 79 = false := by kernel_rfl
theorem ts_80 : tsize Tryz.prog 80 = some 3 := by kernel_rfl
theorem tb_80 : tbytes Tryz.prog 80 = some 72 := by kernel_rfl
theorem tg_80 : tagg Tryz.prog 80 = some true := by kernel_rfl
theorem tz_80 : zcells Tryz.prog 80 = some [.nilsl, .nilsl, .nilsl] := by kernel_rfl
theorem bl_80 : isBld Tryz.prog 80 = false := by kernel_rfl
theorem ts_81 : tsize Tryz.prog 81 = some 3 := by kernel_rfl
theorem tb_81 : tbytes Tryz.prog 81 = some 72 := by kernel_rfl
theorem tg_81 : tagg Tryz.prog 81 = some true := by kernel_rfl
theorem tz_81 : zcells Tryz.prog 81 = some [.nilsl, .nilsl, .nilsl] := by kernel_rfl
theorem bl_81 : isBld Tryz.prog 81 = false := by kernel_rfl
theorem ts_83 : tsize Tryz.prog 83 = some 1 := by kernel_rfl
theorem tb_83 : tbytes Tryz.prog 83 = some 8 := by kernel_rfl
theorem tg_83 : tagg Tryz.prog 83 = some false := by kernel_rfl
theorem bl_83 : isBld Tryz.prog 83 = false := by kernel_rfl
theorem ts_84 : tsize Tryz.prog 84 = some 1 := by kernel_rfl
theorem tb_84 : tbytes Tryz.prog 84 = some 8 := by kernel_rfl
theorem tg_84 : tagg Tryz.prog 84 = some false := by kernel_rfl
theorem bl_84 : isBld Tryz.prog 84 = false := by kernel_rfl
theorem ts_85 : tsize Tryz.prog 85 = some 1 := by kernel_rfl
theorem tb_85 : tbytes Tryz.prog 85 = some 8 := by kernel_rfl
theorem tg_85 : tagg Tryz.prog 85 = some false := by kernel_rfl
theorem bl_85 : isBld Tryz.prog 85 = false := by kernel_rfl
theorem ts_86 : tsize Tryz.prog 86 = some 1 := by kernel_rfl
theorem tb_86 : tbytes Tryz.prog 86 = some 8 := by kernel_rfl
theorem tg_86 : tagg Tryz.prog 86 = some false := by kernel_rfl
theorem bl_86 : isBld Tryz.prog 86 = false := by kernel_rfl
theorem ts_87 : tsize Tryz.prog 87 = some 6 := by kernel_rfl
theorem tb_87 : tbytes Tryz.prog 87 = some 80 := by kernel_rfl
theorem tg_87 : tagg Tryz.prog 87 = some true := by kernel_rfl
theorem tz_87 : zcells Tryz.prog 87 = some [.int .i64 0, .int .i64 0, .int .i64 0, .bool false, .nilsl, .nilsl] := by kernel_rfl
theorem bl_87 : isBld Tryz.prog 87 = false := by kernel_rfl
theorem ts_88 : tsize Tryz.prog 88 = some 6 := by kernel_rfl
theorem tb_88 : tbytes Tryz.prog 88 = some 80 := by kernel_rfl
theorem tg_88 : tagg Tryz.prog 88 = some true := by kernel_rfl
theorem tz_88 : zcells Tryz.prog 88 = some [.int .i64 0, .int .i64 0, .int .i64 0, .bool false, .nilsl, .nilsl] := by kernel_rfl
theorem bl_88 : isBld Tryz.prog 88 = false := by kernel_rfl
theorem ts_89 : tsize Tryz.prog 89 = some 6 := by kernel_rfl
theorem tb_89 : tbytes Tryz.prog 89 = some 80 := by kernel_rfl
theorem tg_89 : tagg Tryz.prog 89 = some true := by kernel_rfl
theorem tz_89 : zcells Tryz.prog 89 = some [.int .i64 0, .int .i64 0, .int .i64 0, .bool false, .nilsl, .nilsl] := by kernel_rfl
theorem bl_89 : isBld Tryz.prog 89 = false := by kernel_rfl
theorem ts_90 : tsize Tryz.prog 90 = some 6 := by kernel_rfl
theorem tb_90 : tbytes Tryz.prog 90 = some 80 := by kernel_rfl
theorem tg_90 : tagg Tryz.prog 90 = some true := by kernel_rfl
theorem tz_90 : zcells Tryz.prog 90 = some [.int .i64 0, .int .i64 0, .int .i64 0, .bool false, .nilsl, .nilsl] := by kernel_rfl
theorem bl_90 : isBld Tryz.prog 90 = false := by kernel_rfl
theorem ts_91 : tsize Tryz.prog 91 = some 1 := by kernel_rfl
theorem tb_91 : tbytes Tryz.prog 91 = some 8 := by kernel_rfl
theorem tg_91 : tagg Tryz.prog 91 = some false := by kernel_rfl
theorem bl_91 : isBld Tryz.prog 91 = false := by kernel_rfl
theorem ts_92 : tsize Tryz.prog 92 = some 1 := by kernel_rfl
theorem tb_92 : tbytes Tryz.prog 92 = some 8 := by kernel_rfl
theorem tg_92 : tagg Tryz.prog 92 = some false := by kernel_rfl
theorem bl_92 : isBld Tryz.prog 92 = false := by kernel_rfl
theorem ts_93 : tsize Tryz.prog 93 = some 1 := by kernel_rfl
theorem tb_93 : tbytes Tryz.prog 93 = some 8 := by kernel_rfl
theorem tg_93 : tagg Tryz.prog 93 = some false := by kernel_rfl
theorem bl_93 : isBld Tryz.prog 93 = false := by kernel_rfl
theorem ts_94 : tsize Tryz.prog 94 = some 1 := by kernel_rfl
theorem tb_94 : tbytes Tryz.prog 94 = some 8 := by kernel_rfl
theorem tg_94 : tagg Tryz.prog 94 = some false := by kernel_rfl
theorem bl_94 : isBld Tryz.prog 94 = false := by kernel_rfl
theorem ts_95 : tsize Tryz.prog 95 = some 1 := by kernel_rfl
theorem tb_95 : tbytes Tryz.prog 95 = some 8 := by kernel_rfl
theorem tg_95 : tagg Tryz.prog 95 = some false := by kernel_rfl
theorem bl_95 : isBld Tryz.prog 95 = false := by kernel_rfl
theorem ts_96 : tsize Tryz.prog 96 = some 1 := by kernel_rfl
theorem tb_96 : tbytes Tryz.prog 96 = some 8 := by kernel_rfl
theorem tg_96 : tagg Tryz.prog 96 = some false := by kernel_rfl
theorem bl_96 : isBld Tryz.prog 96 = false := by kernel_rfl
theorem ts_97 : tsize Tryz.prog 97 = some 1 := by kernel_rfl
theorem tb_97 : tbytes Tryz.prog 97 = some 8 := by kernel_rfl
theorem tg_97 : tagg Tryz.prog 97 = some false := by kernel_rfl
theorem tz_97 : zcells Tryz.prog 97 = some [.nilp] := by kernel_rfl
theorem bl_97 : isBld Tryz.prog 97 = false := by kernel_rfl
theorem pe_97 : pelem Tryz.prog 97 = some 99 := by kernel_rfl
theorem ts_98 : tsize Tryz.prog 98 = some 11 := by kernel_rfl
theorem tb_98 : tbytes Tryz.prog 98 = some 216 := by kernel_rfl
theorem tg_98 : tagg Tryz.prog 98 = some true := by kernel_rfl
theorem tz_98 : zcells Tryz.prog 98 = some [.nilsl, .nilsl, .int .i64 0, .int .i64 0, .nilsl, .nilsl, .bool false, .nilsl, .nilsl, .nilsl, .nilsl] := by kernel_rfl
theorem bl_98 : isBld Tryz.prog 98 = false := by kernel_rfl
theorem ts_99 : tsize Tryz.prog 99 = some 11 := by kernel_rfl
theorem tb_99 : tbytes Tryz.prog 99 = some 216 := by kernel_rfl
theorem tg_99 : tagg Tryz.prog 99 = some true := by kernel_rfl
theorem tz_99 : zcells Tryz.prog 99 = some [.nilsl, .nilsl, .int .i64 0, .int .i64 0, .nilsl, .nilsl, .bool false, .nilsl, .nilsl, .nilsl, .nilsl] := by kernel_rfl
theorem bl_99 : isBld Tryz.prog 99 = false := by kernel_rfl
theorem ts_100 : tsize Tryz.prog 100 = some 1 := by kernel_rfl
theorem tb_100 : tbytes Tryz.prog 100 = some 8 := by kernel_rfl
theorem tg_100 : tagg Tryz.prog 100 = some false := by kernel_rfl
theorem bl_100 : isBld Tryz.prog 100 = false := by kernel_rfl
theorem ts_101 : tsize Tryz.prog 101 = some 1 := by kernel_rfl
theorem tb_101 : tbytes Tryz.prog 101 = some 8 := by kernel_rfl
theorem tg_101 : tagg Tryz.prog 101 = some false := by kernel_rfl
theorem tz_101 : zcells Tryz.prog 101 = some [.nilp] := by kernel_rfl
theorem bl_101 : isBld Tryz.prog 101 = false := by kernel_rfl
theorem pe_101 : pelem Tryz.prog 101 = some 151 := by kernel_rfl
theorem ts_102 : tsize Tryz.prog 102 = some 1 := by kernel_rfl
theorem tb_102 : tbytes Tryz.prog 102 = some 8 := by kernel_rfl
theorem tg_102 : tagg Tryz.prog 102 = some false := by kernel_rfl
theorem bl_102 : isBld Tryz.prog 102 = false := by kernel_rfl
theorem ts_103 : tsize Tryz.prog 103 = some 1 := by kernel_rfl
theorem tb_103 : tbytes Tryz.prog 103 = some 8 := by kernel_rfl
theorem tg_103 : tagg Tryz.prog 103 = some false := by kernel_rfl
theorem bl_103 : isBld Tryz.prog 103 = false := by kernel_rfl
theorem ts_104 : tsize Tryz.prog 104 = some 1 := by kernel_rfl
theorem tb_104 : tbytes Tryz.prog 104 = some 8 := by kernel_rfl
theorem tg_104 : tagg Tryz.prog 104 = some false := by kernel_rfl
theorem bl_104 : isBld Tryz.prog 104 = false := by kernel_rfl
theorem ts_105 : tsize Tryz.prog 105 = some 1 := by kernel_rfl
theorem tb_105 : tbytes Tryz.prog 105 = some 8 := by kernel_rfl
theorem tg_105 : tagg Tryz.prog 105 = some false := by kernel_rfl
theorem bl_105 : isBld Tryz.prog 105 = false := by kernel_rfl
theorem ts_107 : tsize Tryz.prog 107 = some 1 := by kernel_rfl
theorem tb_107 : tbytes Tryz.prog 107 = some 8 := by kernel_rfl
theorem tg_107 : tagg Tryz.prog 107 = some false := by kernel_rfl
theorem bl_107 : isBld Tryz.prog 107 = false := by kernel_rfl
theorem ts_108 : tsize Tryz.prog 108 = some 1 := by kernel_rfl
theorem tb_108 : tbytes Tryz.prog 108 = some 8 := by kernel_rfl
theorem tg_108 : tagg Tryz.prog 108 = some false := by kernel_rfl
theorem bl_108 : isBld Tryz.prog 108 = false := by kernel_rfl
theorem ts_109 : tsize Tryz.prog 109 = some 1 := by kernel_rfl
theorem tb_109 : tbytes Tryz.prog 109 = some 8 := by kernel_rfl
theorem tg_109 : tagg Tryz.prog 109 = some false := by kernel_rfl
theorem bl_109 : isBld Tryz.prog 109 = false := by kernel_rfl
theorem ts_110 : tsize Tryz.prog 110 = some 1 := by kernel_rfl
theorem tb_110 : tbytes Tryz.prog 110 = some 24 := by kernel_rfl
theorem tg_110 : tagg Tryz.prog 110 = some false := by kernel_rfl
theorem tz_110 : zcells Tryz.prog 110 = some [.nilsl] := by kernel_rfl
theorem te_110 : telem Tryz.prog 110 = some 114 := by kernel_rfl
theorem bl_110 : isBld Tryz.prog 110 = false := by kernel_rfl
theorem ts_112 : tsize Tryz.prog 112 = some 1 := by kernel_rfl
theorem tb_112 : tbytes Tryz.prog 112 = some 8 := by kernel_rfl
theorem tg_112 : tagg Tryz.prog 112 = some false := by kernel_rfl
theorem bl_112 : isBld Tryz.prog 112 = false := by kernel_rfl
theorem ts_113 : tsize Tryz.prog 113 = some 6 := by kernel_rfl
theorem tb_113 : tbytes Tryz.prog 113 = some 112 := by kernel_rfl
theorem tg_113 : tagg Tryz.prog 113 = some true := by kernel_rfl
theorem tz_113 : zcells Tryz.prog 113 = some [.bool false, .nilsl, .nilsl, .bool false, .nilsl, .nilsl] := by kernel_rfl
theorem bl_113 : isBld Tryz.prog 113 = false := by kernel_rfl
theorem ts_114 : tsize Tryz.prog 114 = some 6 := by kernel_rfl
theorem tb_114 : tbytes Tryz.prog 114 = some 112 := by kernel_rfl
theorem tg_114 : tagg Tryz.prog 114 = some true := by kernel_rfl
theorem tz_114 : zcells Tryz.prog 114 = some [.bool false, .nilsl, .nilsl, .bool false, .nilsl, .nilsl] := by kernel_rfl
theorem bl_114 : isBld Tryz.prog 114 = false := by kernel_rfl
theorem ts_115 : tsize Tryz.prog 115 = some 1 := by kernel_rfl
theorem tb_115 : tbytes Tryz.prog 115 = some 8 := by kernel_rfl
theorem tg_115 : tagg Tryz.prog 115 = some false := by kernel_rfl
theorem bl_115 : isBld Tryz.prog 115 = false := by kernel_rfl
theorem ts_116 : tsize Tryz.prog 116 = some 1 := by kernel_rfl
theorem tb_116 : tbytes Tryz.prog 116 = some 24 := by kernel_rfl
theorem tg_116 : tagg Tryz.prog 116 = some false := by kernel_rfl
theorem tz_116 : zcells Tryz.prog 116 = some [.nilsl] := by kernel_rfl
theorem te_116 : telem Tryz.prog 116 = some 54 := by kernel_rfl
theorem bl_116 : isBld Tryz.prog 116 = false := by kernel_rfl
theorem ts_118 : tsize Tryz.prog 118 = some 1 := by kernel_rfl
theorem tb_118 : tbytes Tryz.prog 118 = some 8 := by kernel_rfl
theorem tg_118 : tagg Tryz.prog 118 = some false := by kernel_rfl
theorem bl_118 : isBld Tryz.prog 118 = false := by kernel_rfl
theorem ts_119 : tsize Tryz.prog 119 = some 1 := by kernel_rfl
theorem tb_119 : tbytes Tryz.prog 119 = some 8 := by kernel_rfl
theorem tg_119 : tagg Tryz.prog 119 = some false := by kernel_rfl
theorem bl_119 : isBld Tryz.prog 119 = false := by kernel_rfl
theorem ts_120 : tsize Tryz.prog 120 = some 10 := by kernel_rfl
theorem tb_120 : tbytes Tryz.prog 120 = some 176 := by kernel_rfl
theorem tg_120 : tagg Tryz.prog 120 = some true := by kernel_rfl
theorem tz_120 : zcells Tryz.prog 120 = some [.nilsl, .nilsl, .int .i64 0, .int .i64 0, .bool false, .nilsl, .nilsl, .nilsl, .nilsl, .int .i64 0] := by kernel_rfl
theorem bl_120 : isBld Tryz.prog 120 = false := by kernel_rfl
theorem ts_121 : tsize Tryz.prog 121 = some 10 := by kernel_rfl
theorem tb_121 : tbytes Tryz.prog 121 = some 176 := by kernel_rfl
theorem tg_121 : tagg Tryz.prog 121 = some true := by kernel_rfl
theorem tz_121 : zcells Tryz.prog 121 = some [.nilsl, .nilsl, .int .i64 0, .int .i64 0, .bool false, .nilsl, .nilsl, .nilsl, .nilsl, .int .i64 0] := by kernel_rfl
theorem bl_121 : isBld Tryz.prog 121 = false := by kernel_rfl
theorem ts_123 : tsize Tryz.prog 123 = some 1 := by kernel_rfl
theorem tb_123 : tbytes Tryz.prog 123 = some 8 := by kernel_rfl
theorem tg_123 : tagg Tryz.prog 123 = some false := by kernel_rfl
theorem bl_123 : isBld Tryz.prog 123 = false := by kernel_rfl
theorem ts_124 : tsize Tryz.prog 124 = some 1 := by kernel_rfl
theorem tb_124 : tbytes Tryz.prog 124 = some 8 := by kernel_rfl
theorem tg_124 : tagg Tryz.prog 124 = some false := by kernel_rfl
theorem bl_124 : isBld Tryz.prog 124 = false := by kernel_rfl
theorem ts_125 : tsize Tryz.prog 125 = some 1 := by kernel_rfl
theorem tb_125 : tbytes Tryz.prog 125 = some 8 := by kernel_rfl
theorem tg_125 : tagg Tryz.prog 125 = some false := by kernel_rfl
theorem bl_125 : isBld Tryz.prog 125 = false := by kernel_rfl
theorem ts_126 : tsize Tryz.prog 126 = some 1 := by kernel_rfl
theorem tb_126 : tbytes Tryz.prog 126 = some 8 := by kernel_rfl
theorem tg_126 : tagg Tryz.prog 126 = some false := by kernel_rfl
theorem bl_126 : isBld Tryz.prog 126 = false := by kernel_rfl
theorem ts_127 : tsize Tryz.prog 127 = some 1 := by kernel_rfl
theorem tb_127 : tbytes Tryz.prog 127 = some 8 := by kernel_rfl
theorem tg_127 : tagg Tryz.prog 127 = some false := by kernel_rfl
theorem bl_127 : isBld Tryz.prog 127 = false := by kernel_rfl
theorem ts_128 : tsize Tryz.prog 128 = some 1 := by kernel_rfl
theorem tb_128 : tbytes Tryz.prog 128 = some 8 := by kernel_rfl
theorem tg_128 : tagg Tryz.prog 128 = some false := by kernel_rfl
theorem bl_128 : isBld Tryz.prog 128 = false := by kernel_rfl
theorem ts_129 : tsize Tryz.prog 129 = some 1 := by kernel_rfl
theorem tb_129 : tbytes Tryz.prog 129 = some 8 := by kernel_rfl
theorem tg_129 : tagg Tryz.prog 129 = some false := by kernel_rfl
theorem tz_129 : zcells Tryz.prog 129 = some [.int .u64 0] := by kernel_rfl
theorem bl_129 : isBld Tryz.prog 129 = false := by kernel_rfl
theorem ts_131 : tsize Tryz.prog 131 = some 1 := by kernel_rfl
theorem tb_131 : tbytes Tryz.prog 131 = some 8 := by kernel_rfl
theorem tg_131 : tagg Tryz.prog 131 = some false := by kernel_rfl
theorem bl_131 : isBld Tryz.prog 131 = false := by kernel_rfl
theorem ts_132 : tsize Tryz.prog 132 = some 1 := by kernel_rfl
theorem tb_132 : tbytes Tryz.prog 132 = some 8 := by kernel_rfl
theorem tg_132 : tagg Tryz.prog 132 = some false := by kernel_rfl
theorem bl_132 : isBld Tryz.prog 132 = false := by kernel_rfl
theorem ts_133 : tsize Tryz.prog 133 = some 1 := by kernel_rfl
theorem tb_133 : tbytes Tryz.prog 133 = some 24 := by kernel_rfl
theorem tg_133 : tagg Tryz.prog 133 = some false := by kernel_rfl
theorem tz_133 : zcells Tryz.prog 133 = some [.nilsl] := by kernel_rfl
theorem te_133 : telem Tryz.prog 133 = some 9 := by kernel_rfl
theorem bl_133 : isBld Tryz.prog 133 = false := by kernel_rfl
theorem ts_134 : tsize Tryz.prog 134 = some 1 := by kernel_rfl
theorem tb_134 : tbytes Tryz.prog 134 = some 8 := by kernel_rfl
theorem tg_134 : tagg Tryz.prog 134 = some false := by kernel_rfl
theorem bl_134 : isBld Tryz.prog 134 = false := by kernel_rfl
theorem ts_135 : tsize Tryz.prog 135 = some 1 := by kernel_rfl
theorem tb_135 : tbytes Tryz.prog 135 = some 8 := by kernel_rfl
theorem tg_135 : tagg Tryz.prog 135 = some false := by kernel_rfl
theorem bl_135 : isBld Tryz.prog 135 = false := by kernel_rfl
theorem ts_136 : tsize Tryz.prog 136 = some 1 := by kernel_rfl
theorem tb_136 : tbytes Tryz.prog 136 = some 8 := by kernel_rfl
theorem tg_136 : tagg Tryz.prog 136 = some false := by kernel_rfl
theorem bl_136 : isBld Tryz.prog 136 = false := by kernel_rfl
theorem ts_137 : tsize Tryz.prog 137 = some 1 := by kernel_rfl
theorem tb_137 : tbytes Tryz.prog 137 = some 8 := by kernel_rfl
theorem tg_137 : tagg Tryz.prog 137 = some false := by kernel_rfl
theorem bl_137 : isBld Tryz.prog 137 = false := by kernel_rfl
theorem ts_138 : tsize Tryz.prog 138 = some 1 := by kernel_rfl
theorem tb_138 : tbytes Tryz.prog 138 = some 8 := by kernel_rfl
theorem tg_138 : tagg Tryz.prog 138 = some false := by kernel_rfl
theorem bl_138 : isBld Tryz.prog 138 = false := by kernel_rfl
theorem ts_139 : tsize Tryz.prog 139 = some 1 := by kernel_rfl
theorem tb_139 : tbytes Tryz.prog 139 = some 8 := by kernel_rfl
theorem tg_139 : tagg Tryz.prog 139 = some false := by kernel_rfl
theorem bl_139 : isBld Tryz.prog 139 = false := by kernel_rfl
theorem ts_140 : tsize Tryz.prog 140 = some 1 := by kernel_rfl
theorem tb_140 : tbytes Tryz.prog 140 = some 8 := by kernel_rfl
theorem tg_140 : tagg Tryz.prog 140 = some false := by kernel_rfl
theorem bl_140 : isBld Tryz.prog 140 = false := by kernel_rfl
theorem ts_141 : tsize Tryz.prog 141 = some 1 := by kernel_rfl
theorem tb_141 : tbytes Tryz.prog 141 = some 8 := by kernel_rfl
theorem tg_141 : tagg Tryz.prog 141 = some false := by kernel_rfl
theorem bl_141 : isBld Tryz.prog 141 = false := by kernel_rfl
theorem ts_142 : tsize Tryz.prog 142 = some 1 := by kernel_rfl
theorem tb_142 : tbytes Tryz.prog 142 = some 8 := by kernel_rfl
theorem tg_142 : tagg Tryz.prog 142 = some true := by kernel_rfl
theorem tz_142 : zcells Tryz.prog 142 = some [.nilp] := by kernel_rfl
theorem bl_142 : isBld Tryz.prog 142 = false := by kernel_rfl
theorem ts_143 : tsize Tryz.prog 143 = some 1 := by kernel_rfl
theorem tb_143 : tbytes Tryz.prog 143 = some 8 := by kernel_rfl
theorem tg_143 : tagg Tryz.prog 143 = some true := by kernel_rfl
theorem tz_143 : zcells Tryz.prog 143 = some [.nilp] := by kernel_rfl
theorem dp_Add_143 : dispatch Tryz.prog 143 "Add" = some 178 := by kernel_rfl
theorem dp_Fits_143 : dispatch Tryz.prog 143 "Fits" = some 179 := by kernel_rfl
theorem dp_Mul_143 : dispatch Tryz.prog 143 "Mul" = some 180 := by kernel_rfl
theorem dp_Neg_143 : dispatch Tryz.prog 143 "Neg" = some 181 := by kernel_rfl
theorem dp_Of_143 : dispatch Tryz.prog 143 "Of" = some 182 := by kernel_rfl
theorem dp_Pow_143 : dispatch Tryz.prog 143 "Pow" = some 183 := by kernel_rfl
theorem dp_Quo_143 : dispatch Tryz.prog 143 "Quo" = some 184 := by kernel_rfl
theorem dp_Sub_143 : dispatch Tryz.prog 143 "Sub" = some 185 := by kernel_rfl
theorem bl_143 : isBld Tryz.prog 143 = false := by kernel_rfl
theorem ts_144 : tsize Tryz.prog 144 = some 1 := by kernel_rfl
theorem tb_144 : tbytes Tryz.prog 144 = some 8 := by kernel_rfl
theorem tg_144 : tagg Tryz.prog 144 = some true := by kernel_rfl
theorem tz_144 : zcells Tryz.prog 144 = some [.nilp] := by kernel_rfl
theorem bl_144 : isBld Tryz.prog 144 = false := by kernel_rfl
theorem ts_145 : tsize Tryz.prog 145 = some 1 := by kernel_rfl
theorem tb_145 : tbytes Tryz.prog 145 = some 8 := by kernel_rfl
theorem tg_145 : tagg Tryz.prog 145 = some true := by kernel_rfl
theorem tz_145 : zcells Tryz.prog 145 = some [.nilp] := by kernel_rfl
theorem dp_Run_145 : dispatch Tryz.prog 145 "Run" = some 70 := by kernel_rfl
theorem bl_145 : isBld Tryz.prog 145 = false := by kernel_rfl
theorem ts_146 : tsize Tryz.prog 146 = some 1 := by kernel_rfl
theorem tb_146 : tbytes Tryz.prog 146 = some 8 := by kernel_rfl
theorem tg_146 : tagg Tryz.prog 146 = some false := by kernel_rfl
theorem bl_146 : isBld Tryz.prog 146 = false := by kernel_rfl
theorem ts_147 : tsize Tryz.prog 147 = some 5 := by kernel_rfl
theorem tb_147 : tbytes Tryz.prog 147 = some 104 := by kernel_rfl
theorem tg_147 : tagg Tryz.prog 147 = some true := by kernel_rfl
theorem tz_147 : zcells Tryz.prog 147 = some [.bool false, .nilsl, .nilsl, .nilsl, .nilsl] := by kernel_rfl
theorem bl_147 : isBld Tryz.prog 147 = false := by kernel_rfl
theorem ts_148 : tsize Tryz.prog 148 = some 2 := by kernel_rfl
theorem tb_148 : tbytes Tryz.prog 148 = some 16 := by kernel_rfl
theorem tg_148 : tagg Tryz.prog 148 = some true := by kernel_rfl
theorem tz_148 : zcells Tryz.prog 148 = some [.int .i64 0, .int .i64 0] := by kernel_rfl
theorem bl_148 : isBld Tryz.prog 148 = false := by kernel_rfl
theorem ts_149 : tsize Tryz.prog 149 = some 2 := by kernel_rfl
theorem tb_149 : tbytes Tryz.prog 149 = some 16 := by kernel_rfl
theorem tg_149 : tagg Tryz.prog 149 = some true := by kernel_rfl
theorem tz_149 : zcells Tryz.prog 149 = some [.int .i64 0, .int .i64 0] := by kernel_rfl
theorem tf_149 : flatTs Tryz.prog 149 = some [3, 3] := by kernel_rfl
theorem bl_149 : isBld Tryz.prog 149 = false := by kernel_rfl
theorem ts_150 : tsize Tryz.prog 150 = some 3 := by kernel_rfl
theorem tb_150 : tbytes Tryz.prog 150 = some 24 := by kernel_rfl
theorem tg_150 : tagg Tryz.prog 150 = some true := by kernel_rfl
theorem tz_150 : zcells Tryz.prog 150 = some [.int .i64 0, .int .i64 0, .int .i64 0] := by kernel_rfl
theorem bl_150 : isBld Tryz.prog 150 = false := by kernel_rfl
theorem ts_151 : tsize Tryz.prog 151 = some 3 := by kernel_rfl
theorem tb_151 : tbytes Tryz.prog 151 = some 24 := by kernel_rfl
theorem tg_151 : tagg Tryz.prog 151 = some true := by kernel_rfl
theorem tz_151 : zcells Tryz.prog 151 = some [.int .i64 0, .int .i64 0, .int .i64 0] := by kernel_rfl
theorem bl_151 : isBld Tryz.prog 151 = false := by kernel_rfl
theorem ts_152 : tsize Tryz.prog 152 = some 1 := by kernel_rfl
theorem tb_152 : tbytes Tryz.prog 152 = some 8 := by kernel_rfl
theorem tg_152 : tagg Tryz.prog 152 = some false := by kernel_rfl
theorem bl_152 : isBld Tryz.prog 152 = false := by kernel_rfl
theorem ts_153 : tsize Tryz.prog 153 = some 1 := by kernel_rfl
theorem tb_153 : tbytes Tryz.prog 153 = some 8 := by kernel_rfl
theorem tg_153 : tagg Tryz.prog 153 = some false := by kernel_rfl
theorem bl_153 : isBld Tryz.prog 153 = false := by kernel_rfl
theorem ts_155 : tsize Tryz.prog 155 = some 1 := by kernel_rfl
theorem tb_155 : tbytes Tryz.prog 155 = some 8 := by kernel_rfl
theorem tg_155 : tagg Tryz.prog 155 = some false := by kernel_rfl
theorem bl_155 : isBld Tryz.prog 155 = false := by kernel_rfl
theorem ts_156 : tsize Tryz.prog 156 = some 2 := by kernel_rfl
theorem tb_156 : tbytes Tryz.prog 156 = some 16 := by kernel_rfl
theorem tg_156 : tagg Tryz.prog 156 = some true := by kernel_rfl
theorem tz_156 : zcells Tryz.prog 156 = some [.nilp, .opq] := by kernel_rfl
theorem bl_156 : isBld Tryz.prog 156 = false := by kernel_rfl
theorem ts_157 : tsize Tryz.prog 157 = some 2 := by kernel_rfl
theorem tb_157 : tbytes Tryz.prog 157 = some 16 := by kernel_rfl
theorem tg_157 : tagg Tryz.prog 157 = some true := by kernel_rfl
theorem tz_157 : zcells Tryz.prog 157 = some [.nilp, .opq] := by kernel_rfl
theorem dp_Add_157 : dispatch Tryz.prog 157 "Add" = some 187 := by kernel_rfl
theorem dp_Fits_157 : dispatch Tryz.prog 157 "Fits" = some 188 := by kernel_rfl
theorem dp_Mul_157 : dispatch Tryz.prog 157 "Mul" = some 189 := by kernel_rfl
theorem dp_Neg_157 : dispatch Tryz.prog 157 "Neg" = some 190 := by kernel_rfl
theorem dp_Of_157 : dispatch Tryz.prog 157 "Of" = some 191 := by kernel_rfl
theorem dp_Pow_157 : dispatch Tryz.prog 157 "Pow" = some 192 := by kernel_rfl
theorem dp_Quo_157 : dispatch Tryz.prog 157 "Quo" = some 193 := by kernel_rfl
theorem dp_Sub_157 : dispatch Tryz.prog 157 "Sub" = some 194 := by kernel_rfl
theorem bl_157 : isBld Tryz.prog 157 = false := by kernel_rfl
theorem ts_158 : tsize Tryz.prog 158 = some 2 := by kernel_rfl
theorem tb_158 : tbytes Tryz.prog 158 = some 16 := by kernel_rfl
theorem tg_158 : tagg Tryz.prog 158 = some true := by kernel_rfl
theorem tz_158 : zcells Tryz.prog 158 = some [.nilp, .opq] := by kernel_rfl
theorem bl_158 : isBld Tryz.prog 158 = false := by kernel_rfl
theorem ts_159 : tsize Tryz.prog 159 = some 2 := by kernel_rfl
theorem tb_159 : tbytes Tryz.prog 159 = some 16 := by kernel_rfl
theorem tg_159 : tagg Tryz.prog 159 = some true := by kernel_rfl
theorem tz_159 : zcells Tryz.prog 159 = some [.nilp, .opq] := by kernel_rfl
theorem dp_Run_159 : dispatch Tryz.prog 159 "Run" = some 79 := by kernel_rfl
theorem bl_159 : isBld Tryz.prog 159 = false := by kernel_rfl
theorem ts_160 : tsize Tryz.prog 160 = some 1 := by kernel_rfl
theorem tb_160 : tbytes Tryz.prog 160 = some 8 := by kernel_rfl
theorem tg_160 : tagg Tryz.prog 160 = some false := by kernel_rfl
theorem bl_160 : isBld Tryz.prog 160 = false := by kernel_rfl
theorem ts_161 : tsize Tryz.prog 161 = some 8 := by kernel_rfl
theorem tb_161 : tbytes Tryz.prog 161 = some 160 := by kernel_rfl
theorem tg_161 : tagg Tryz.prog 161 = some true := by kernel_rfl
theorem tz_161 : zcells Tryz.prog 161 = some [.bool false, .nilsl, .nilsl, .bool false, .nilsl, .nilsl, .nilsl, .nilsl] := by kernel_rfl
theorem bl_161 : isBld Tryz.prog 161 = false := by kernel_rfl
theorem ts_162 : tsize Tryz.prog 162 = some 8 := by kernel_rfl
theorem tb_162 : tbytes Tryz.prog 162 = some 160 := by kernel_rfl
theorem tg_162 : tagg Tryz.prog 162 = some true := by kernel_rfl
theorem tz_162 : zcells Tryz.prog 162 = some [.bool false, .nilsl, .nilsl, .bool false, .nilsl, .nilsl, .nilsl, .nilsl] := by kernel_rfl
theorem bl_162 : isBld Tryz.prog 162 = false := by kernel_rfl
theorem ts_163 : tsize Tryz.prog 163 = some 1 := by kernel_rfl
theorem tb_163 : tbytes Tryz.prog 163 = some 8 := by kernel_rfl
theorem tg_163 : tagg Tryz.prog 163 = some false := by kernel_rfl
theorem bl_163 : isBld Tryz.prog 163 = false := by kernel_rfl
theorem ts_164 : tsize Tryz.prog 164 = some 1 := by kernel_rfl
theorem tb_164 : tbytes Tryz.prog 164 = some 8 := by kernel_rfl
theorem tg_164 : tagg Tryz.prog 164 = some false := by kernel_rfl
theorem bl_164 : isBld Tryz.prog 164 = false := by kernel_rfl
theorem ts_165 : tsize Tryz.prog 165 = some 1 := by kernel_rfl
theorem tb_165 : tbytes Tryz.prog 165 = some 8 := by kernel_rfl
theorem tg_165 : tagg Tryz.prog 165 = some false := by kernel_rfl
theorem bl_165 : isBld Tryz.prog 165 = false := by kernel_rfl
theorem ts_166 : tsize Tryz.prog 166 = some 1 := by kernel_rfl
theorem tb_166 : tbytes Tryz.prog 166 = some 8 := by kernel_rfl
theorem tg_166 : tagg Tryz.prog 166 = some false := by kernel_rfl
theorem bl_166 : isBld Tryz.prog 166 = false := by kernel_rfl
theorem ts_167 : tsize Tryz.prog 167 = some 1 := by kernel_rfl
theorem tb_167 : tbytes Tryz.prog 167 = some 8 := by kernel_rfl
theorem tg_167 : tagg Tryz.prog 167 = some false := by kernel_rfl
theorem bl_167 : isBld Tryz.prog 167 = false := by kernel_rfl
theorem ts_168 : tsize Tryz.prog 168 = some 1 := by kernel_rfl
theorem tb_168 : tbytes Tryz.prog 168 = some 8 := by kernel_rfl
theorem tg_168 : tagg Tryz.prog 168 = some false := by kernel_rfl
theorem bl_168 : isBld Tryz.prog 168 = false := by kernel_rfl
theorem ts_169 : tsize Tryz.prog 169 = some 1 := by kernel_rfl
theorem tb_169 : tbytes Tryz.prog 169 = some 4 := by kernel_rfl
theorem tg_169 : tagg Tryz.prog 169 = some false := by kernel_rfl
theorem tz_169 : zcells Tryz.prog 169 = some [.int .u32 0] := by kernel_rfl
theorem bl_169 : isBld Tryz.prog 169 = false := by kernel_rfl
theorem ts_170 : tsize Tryz.prog 170 = some 1 := by kernel_rfl
theorem tb_170 : tbytes Tryz.prog 170 = some 8 := by kernel_rfl
theorem tg_170 : tagg Tryz.prog 170 = some false := by kernel_rfl
theorem tz_170 : zcells Tryz.prog 170 = some [.int .u64 0] := by kernel_rfl
theorem bl_170 : isBld Tryz.prog 170 = false := by kernel_rfl
theorem ts_171 : tsize Tryz.prog 171 = some 1 := by kernel_rfl
theorem tb_171 : tbytes Tryz.prog 171 = some 8 := by kernel_rfl
theorem tg_171 : tagg Tryz.prog 171 = some false := by kernel_rfl
theorem bl_171 : isBld Tryz.prog 171 = false := by kernel_rfl
theorem ts_172 : tsize Tryz.prog 172 = some 1 := by kernel_rfl
theorem tb_172 : tbytes Tryz.prog 172 = some 8 := by kernel_rfl
theorem tg_172 : tagg Tryz.prog 172 = some false := by kernel_rfl
theorem bl_172 : isBld Tryz.prog 172 = false := by kernel_rfl
theorem ts_173 : tsize Tryz.prog 173 = some 1 := by kernel_rfl
theorem tb_173 : tbytes Tryz.prog 173 = some 8 := by kernel_rfl
theorem tg_173 : tagg Tryz.prog 173 = some false := by kernel_rfl
theorem bl_173 : isBld Tryz.prog 173 = false := by kernel_rfl
theorem ts_174 : tsize Tryz.prog 174 = some 1 := by kernel_rfl
theorem tb_174 : tbytes Tryz.prog 174 = some 8 := by kernel_rfl
theorem tg_174 : tagg Tryz.prog 174 = some false := by kernel_rfl
theorem bl_174 : isBld Tryz.prog 174 = false := by kernel_rfl
theorem ts_175 : tsize Tryz.prog 175 = some 1 := by kernel_rfl
theorem tb_175 : tbytes Tryz.prog 175 = some 8 := by kernel_rfl
theorem tg_175 : tagg Tryz.prog 175 = some false := by kernel_rfl
theorem tz_175 : zcells Tryz.prog 175 = some [.nilp] := by kernel_rfl
theorem bl_175 : isBld Tryz.prog 175 = false := by kernel_rfl
theorem pe_175 : pelem Tryz.prog 175 = some 178 := by kernel_rfl
theorem ts_176 : tsize Tryz.prog 176 = some 1 := by kernel_rfl
theorem tb_176 : tbytes Tryz.prog 176 = some 24 := by kernel_rfl
theorem tg_176 : tagg Tryz.prog 176 = some false := by kernel_rfl
theorem tz_176 : zcells Tryz.prog 176 = some [.nilsl] := by kernel_rfl
theorem te_176 : telem Tryz.prog 176 = some 5 := by kernel_rfl
theorem bl_176 : isBld Tryz.prog 176 = false := by kernel_rfl
theorem ts_177 : tsize Tryz.prog 177 = some 2 := by kernel_rfl
theorem tb_177 : tbytes Tryz.prog 177 = some 32 := by kernel_rfl
theorem tg_177 : tagg Tryz.prog 177 = some true := by kernel_rfl
theorem tz_177 : zcells Tryz.prog 177 = some [.nilp, .nilsl] := by kernel_rfl
theorem bl_177 : isBld Tryz.prog 177 = false := by kernel_rfl
theorem ts_178 : tsize Tryz.prog 178 = some 2 := by kernel_rfl
theorem tb_178 : tbytes Tryz.prog 178 = some 32 := by kernel_rfl
theorem tg_178 : tagg Tryz.prog 178 = some true := by kernel_rfl
theorem tz_178 : zcells Tryz.prog 178 = some [.nilp, .nilsl] := by kernel_rfl
theorem bl_178 : isBld Tryz.prog 178 = true := by kernel_rfl
theorem li_178 : liesB Tryz.prog 178 2 178 = true := by kernel_rfl
theorem ts_183 : tsize Tryz.prog 183 = some 1 := by kernel_rfl
theorem tb_183 : tbytes Tryz.prog 183 = some 8 := by kernel_rfl
theorem tg_183 : tagg Tryz.prog 183 = some false := by kernel_rfl
theorem bl_183 : isBld Tryz.prog 183 = false := by kernel_rfl
theorem ts_185 : tsize Tryz.prog 185 = some 1 := by kernel_rfl
theorem tb_185 : tbytes Tryz.prog 185 = some 8 := by kernel_rfl
theorem tg_185 : tagg Tryz.prog 185 = some false := by kernel_rfl
theorem bl_185 : isBld Tryz.prog 185 = false := by kernel_rfl
theorem ts_186 : tsize Tryz.prog 186 = some 1 := by kernel_rfl
theorem tb_186 : tbytes Tryz.prog 186 = some 8 := by kernel_rfl
theorem tg_186 : tagg Tryz.prog 186 = some false := by kernel_rfl
theorem bl_186 : isBld Tryz.prog 186 = false := by kernel_rfl
theorem ts_187 : tsize Tryz.prog 187 = some 1 := by kernel_rfl
theorem tb_187 : tbytes Tryz.prog 187 = some 8 := by kernel_rfl
theorem tg_187 : tagg Tryz.prog 187 = some false := by kernel_rfl
theorem bl_187 : isBld Tryz.prog 187 = false := by kernel_rfl
theorem ts_189 : tsize Tryz.prog 189 = some 1 := by kernel_rfl
theorem tb_189 : tbytes Tryz.prog 189 = some 8 := by kernel_rfl
theorem tg_189 : tagg Tryz.prog 189 = some false := by kernel_rfl
theorem bl_189 : isBld Tryz.prog 189 = false := by kernel_rfl
theorem ts_190 : tsize Tryz.prog 190 = some 1 := by kernel_rfl
theorem tb_190 : tbytes Tryz.prog 190 = some 8 := by kernel_rfl
theorem tg_190 : tagg Tryz.prog 190 = some false := by kernel_rfl
theorem bl_190 : isBld Tryz.prog 190 = false := by kernel_rfl
theorem ts_191 : tsize Tryz.prog 191 = some 1 := by kernel_rfl
theorem tb_191 : tbytes Tryz.prog 191 = some 8 := by kernel_rfl
theorem tg_191 : tagg Tryz.prog 191 = some false := by kernel_rfl
theorem bl_191 : isBld Tryz.prog 191 = false := by kernel_rfl
theorem ts_192 : tsize Tryz.prog 192 = some 1 := by kernel_rfl
theorem tb_192 : tbytes Tryz.prog 192 = some 8 := by kernel_rfl
theorem tg_192 : tagg Tryz.prog 192 = some false := by kernel_rfl
theorem bl_192 : isBld Tryz.prog 192 = false := by kernel_rfl
theorem ts_193 : tsize Tryz.prog 193 = some 1 := by kernel_rfl
theorem tb_193 : tbytes Tryz.prog 193 = some 8 := by kernel_rfl
theorem tg_193 : tagg Tryz.prog 193 = some false := by kernel_rfl
theorem tz_193 : zcells Tryz.prog 193 = some [.nilp] := by kernel_rfl
theorem bl_193 : isBld Tryz.prog 193 = false := by kernel_rfl
theorem pe_193 : pelem Tryz.prog 193 = some 149 := by kernel_rfl
theorem ts_194 : tsize Tryz.prog 194 = some 1 := by kernel_rfl
theorem tb_194 : tbytes Tryz.prog 194 = some 8 := by kernel_rfl
theorem tg_194 : tagg Tryz.prog 194 = some false := by kernel_rfl
theorem bl_194 : isBld Tryz.prog 194 = false := by kernel_rfl
theorem ts_195 : tsize Tryz.prog 195 = some 1 := by kernel_rfl
theorem tb_195 : tbytes Tryz.prog 195 = some 8 := by kernel_rfl
theorem tg_195 : tagg Tryz.prog 195 = some false := by kernel_rfl
theorem bl_195 : isBld Tryz.prog 195 = false := by kernel_rfl
theorem ts_197 : tsize Tryz.prog 197 = some 1 := by kernel_rfl
theorem tb_197 : tbytes Tryz.prog 197 = some 8 := by kernel_rfl
theorem tg_197 : tagg Tryz.prog 197 = some false := by kernel_rfl
theorem bl_197 : isBld Tryz.prog 197 = false := by kernel_rfl
theorem ts_198 : tsize Tryz.prog 198 = some 1 := by kernel_rfl
theorem tb_198 : tbytes Tryz.prog 198 = some 8 := by kernel_rfl
theorem tg_198 : tagg Tryz.prog 198 = some false := by kernel_rfl
theorem bl_198 : isBld Tryz.prog 198 = false := by kernel_rfl
theorem ts_199 : tsize Tryz.prog 199 = some 1 := by kernel_rfl
theorem tb_199 : tbytes Tryz.prog 199 = some 8 := by kernel_rfl
theorem tg_199 : tagg Tryz.prog 199 = some false := by kernel_rfl
theorem bl_199 : isBld Tryz.prog 199 = false := by kernel_rfl
theorem ts_200 : tsize Tryz.prog 200 = some 1 := by kernel_rfl
theorem tb_200 : tbytes Tryz.prog 200 = some 8 := by kernel_rfl
theorem tg_200 : tagg Tryz.prog 200 = some false := by kernel_rfl
theorem bl_200 : isBld Tryz.prog 200 = false := by kernel_rfl
theorem ts_201 : tsize Tryz.prog 201 = some 1 := by kernel_rfl
theorem tb_201 : tbytes Tryz.prog 201 = some 8 := by kernel_rfl
theorem tg_201 : tagg Tryz.prog 201 = some false := by kernel_rfl
theorem bl_201 : isBld Tryz.prog 201 = false := by kernel_rfl
theorem ts_203 : tsize Tryz.prog 203 = some 1 := by kernel_rfl
theorem tb_203 : tbytes Tryz.prog 203 = some 8 := by kernel_rfl
theorem tg_203 : tagg Tryz.prog 203 = some false := by kernel_rfl
theorem bl_203 : isBld Tryz.prog 203 = false := by kernel_rfl
theorem ts_204 : tsize Tryz.prog 204 = some 1 := by kernel_rfl
theorem tb_204 : tbytes Tryz.prog 204 = some 8 := by kernel_rfl
theorem tg_204 : tagg Tryz.prog 204 = some false := by kernel_rfl
theorem bl_204 : isBld Tryz.prog 204 = false := by kernel_rfl
theorem ts_205 : tsize Tryz.prog 205 = some 1 := by kernel_rfl
theorem tb_205 : tbytes Tryz.prog 205 = some 8 := by kernel_rfl
theorem tg_205 : tagg Tryz.prog 205 = some false := by kernel_rfl
theorem bl_205 : isBld Tryz.prog 205 = false := by kernel_rfl
theorem ts_206 : tsize Tryz.prog 206 = some 1 := by kernel_rfl
theorem tb_206 : tbytes Tryz.prog 206 = some 8 := by kernel_rfl
theorem tg_206 : tagg Tryz.prog 206 = some false := by kernel_rfl
theorem tz_206 : zcells Tryz.prog 206 = some [.nilp] := by kernel_rfl
theorem bl_206 : isBld Tryz.prog 206 = false := by kernel_rfl
theorem pe_206 : pelem Tryz.prog 206 = some 5 := by kernel_rfl
theorem ts_208 : tsize Tryz.prog 208 = some 1 := by kernel_rfl
theorem tb_208 : tbytes Tryz.prog 208 = some 8 := by kernel_rfl
theorem tg_208 : tagg Tryz.prog 208 = some false := by kernel_rfl
theorem bl_208 : isBld Tryz.prog 208 = false := by kernel_rfl
theorem ts_209 : tsize Tryz.prog 209 = some 1 := by kernel_rfl
theorem tb_209 : tbytes Tryz.prog 209 = some 24 := by kernel_rfl
theorem tg_209 : tagg Tryz.prog 209 = some false := by kernel_rfl
theorem tz_209 : zcells Tryz.prog 209 = some [.nilsl] := by kernel_rfl
theorem te_209 : telem Tryz.prog 209 = some 26 := by kernel_rfl
theorem bl_209 : isBld Tryz.prog 209 = false := by kernel_rfl
theorem ts_211 : tsize Tryz.prog 211 = some 1 := by kernel_rfl
theorem tb_211 : tbytes Tryz.prog 211 = some 8 := by kernel_rfl
theorem tg_211 : tagg Tryz.prog 211 = some false := by kernel_rfl
theorem bl_211 : isBld Tryz.prog 211 = false := by kernel_rfl
theorem ts_213 : tsize Tryz.prog 213 = some 1 := by kernel_rfl
theorem tb_213 : tbytes Tryz.prog 213 = some 8 := by kernel_rfl
theorem tg_213 : tagg Tryz.prog 213 = some false := by kernel_rfl
theorem bl_213 : isBld Tryz.prog 213 = false := by kernel_rfl
theorem ts_214 : tsize Tryz.prog 214 = some 1 := by kernel_rfl
theorem tb_214 : tbytes Tryz.prog 214 = some 8 := by kernel_rfl
theorem tg_214 : tagg Tryz.prog 214 = some false := by kernel_rfl
theorem bl_214 : isBld Tryz.prog 214 = false := by kernel_rfl
theorem ts_215 : tsize Tryz.prog 215 = some 1 := by kernel_rfl
theorem tb_215 : tbytes Tryz.prog 215 = some 8 := by kernel_rfl
theorem tg_215 : tagg Tryz.prog 215 = some false := by kernel_rfl
theorem bl_215 : isBld Tryz.prog 215 = false := by kernel_rfl
theorem ts_216 : tsize Tryz.prog 216 = some 1 := by kernel_rfl
theorem tb_216 : tbytes Tryz.prog 216 = some 8 := by kernel_rfl
theorem tg_216 : tagg Tryz.prog 216 = some false := by kernel_rfl
theorem bl_216 : isBld Tryz.prog 216 = false := by kernel_rfl
theorem ts_217 : tsize Tryz.prog 217 = some 1 := by kernel_rfl
theorem tb_217 : tbytes Tryz.prog 217 = some 8 := by kernel_rfl
theorem tg_217 : tagg Tryz.prog 217 = some false := by kernel_rfl
theorem bl_217 : isBld Tryz.prog 217 = false := by kernel_rfl
theorem ts_218 : tsize Tryz.prog 218 = some 1 := by kernel_rfl
theorem tb_218 : tbytes Tryz.prog 218 = some 8 := by kernel_rfl
theorem tg_218 : tagg Tryz.prog 218 = some false := by kernel_rfl
theorem bl_218 : isBld Tryz.prog 218 = false := by kernel_rfl
theorem ts_219 : tsize Tryz.prog 219 = some 1 := by kernel_rfl
theorem tb_219 : tbytes Tryz.prog 219 = some 8 := by kernel_rfl
theorem tg_219 : tagg Tryz.prog 219 = some false := by kernel_rfl
theorem bl_219 : isBld Tryz.prog 219 = false := by kernel_rfl
theorem ts_220 : tsize Tryz.prog 220 = some 1 := by kernel_rfl
theorem tb_220 : tbytes Tryz.prog 220 = some 8 := by kernel_rfl
theorem tg_220 : tagg Tryz.prog 220 = some false := by kernel_rfl
theorem bl_220 : isBld Tryz.prog 220 = false := by kernel_rfl
theorem ts_221 : tsize Tryz.prog 221 = some 1 := by kernel_rfl
theorem tb_221 : tbytes Tryz.prog 221 = some 8 := by kernel_rfl
theorem tg_221 : tagg Tryz.prog 221 = some false := by kernel_rfl
theorem bl_221 : isBld Tryz.prog 221 = false := by kernel_rfl
theorem ts_222 : tsize Tryz.prog 222 = some 1 := by kernel_rfl
theorem tb_222 : tbytes Tryz.prog 222 = some 8 := by kernel_rfl
theorem tg_222 : tagg Tryz.prog 222 = some false := by kernel_rfl
theorem bl_222 : isBld Tryz.prog 222 = false := by kernel_rfl
theorem ts_223 : tsize Tryz.prog 223 = some 1 := by kernel_rfl
theorem tb_223 : tbytes Tryz.prog 223 = some 8 := by kernel_rfl
theorem tg_223 : tagg Tryz.prog 223 = some false := by kernel_rfl
theorem bl_223 : isBld Tryz.prog 223 = false := by kernel_rfl
theorem ts_225 : tsize Tryz.prog 225 = some 1 := by kernel_rfl
theorem tb_225 : tbytes Tryz.prog 225 = some 8 := by kernel_rfl
theorem tg_225 : tagg Tryz.prog 225 = some false := by kernel_rfl
theorem bl_225 : isBld Tryz.prog 225 = false := by kernel_rfl
theorem ts_226 : tsize Tryz.prog 226 = some 9 := by kernel_rfl
theorem tb_226 : tbytes Tryz.prog 226 = some 9 := by kernel_rfl
theorem tg_226 : tagg Tryz.prog 226 = some true := by kernel_rfl
theorem tz_226 : zcells Tryz.prog 226 = some [.int .u8 0, .int .u8 0, .int .u8 0, .int .u8 0, .int .u8 0, .int .u8 0, .int .u8 0, .int .u8 0, .int .u8 0] := by kernel_rfl
theorem bl_226 : isBld Tryz.prog 226 = false := by kernel_rfl
theorem ts_227 : tsize Tryz.prog 227 = some 1 := by kernel_rfl
theorem tb_227 : tbytes Tryz.prog 227 = some 8 := by kernel_rfl
theorem tg_227 : tagg Tryz.prog 227 = some false := by kernel_rfl
theorem bl_227 : isBld Tryz.prog 227 = false := by kernel_rfl
theorem ts_228 : tsize Tryz.prog 228 = some 256 := by kernel_rfl
theorem tb_228 : tbytes Tryz.prog 228 = some 256 := by kernel_rfl
theorem tg_228 : tagg Tryz.prog 228 = some true := by kernel_rfl
theorem tz_228 : zcells Tryz.prog 228 = some [.bool false, .bool false, .bool false, .bool false, .bool false, .bool false, .bool false, .bool false, .bool false, .bool false, .bool false, .bool false, .bool false, .bool false, .bool false, .bool false, .bool false, .bool false, .bool false, .bool false, .bool false, .bool false, .bool false, .bool false, .bool false, .bool false, .bool false, .bool false, .bool false, .bool false, .bool false, .bool false, .bool false, .bool false, .bool false, .bool false, .bool false, .bool false, .bool false, .bool false, .bool false, .bool false, .bool false, .bool false, .bool false, .bool false, .bool false, .bool false, .bool false, .bool false, .bool false, .bool false, .bool false, .bool false, .bool false, .bool false, .bool false, .bool false, .bool false, .bool false, .bool false, .bool false, .bool false, .bool false, .bool false, .bool false, .bool false, .bool false, .bool false, .bool false, .bool false, .bool false, .bool false, .bool false, .bool false, .bool false, .bool false, .bool false, .bool false, .bool false, .bool false, .bool false, .bool false, .bool false, .bool false, .bool false, .bool false, .bool false, .bool false, .bool false, .bool false, .bool false, .bool false, .bool false, .bool false, .bool false, .bool false, .bool false, .bool false, .bool false, .bool false, .bool false, .bool false, .bool false, .bool false, .bool false, .bool false, .bool false, .bool false, .bool false, .bool false, .bool false, .bool false, .bool false, .bool false, .bool false, .bool false, .bool false, .bool false, .bool false, .bool false, .bool false, .bool false, .bool false, .bool false, .bool false, .bool false, .bool false, .bool false, .bool false, .bool false, .bool false, .bool false, .bool false, .bool false, .bool false, .bool false, .bool false, .bool false, .bool false, .bool false, .bool false, .bool false, .bool false, .bool false, .bool false, .bool false, .bool false, .bool false, .bool false, .bool false, .bool false, .bool false, .bool false, .bool false, .bool false, .bool false, .bool false, .bool false, .bool false, .bool false, .bool false, .bool false, .bool false, .bool false, .bool false, .bool false, .bool false, .bool false, .bool false, .bool false, .bool false, .bool false, .bool false, .bool false, .bool false, .bool false, .bool false, .bool false, .bool false, .bool false, .bool false, .bool false, .bool false, .bool false, .bool false, .bool false, .bool false, .bool false, .bool false, .bool false, .bool false, .bool false, .bool false, .bool false, .bool false, .bool false, .bool false, .bool false, .bool false, .bool false, .bool false, .bool false, .bool false, .bool false, .bool false, .bool false, .bool false, .bool false, .bool false, .bool false, .bool false, .bool false, .bool false, .bool false, .bool false, .bool false, .bool false, .bool false, .bool false, .bool false, .bool false, .bool false, .bool false, .bool false, .bool false, .bool false, .bool false, .bool false, .bool false, .bool false, .bool false, .bool false, .bool false, .bool false, .bool false, .bool false, .bool false, .bool false, .bool false, .bool false, .bool false, .bool false, .bool false, .bool false, .bool false, .bool false, .bool false, .bool false, .bool false, .bool false, .bool false, .bool false, .bool false, .bool false, .bool false] := by kernel_rfl
theorem bl_228 : isBld Tryz.prog 228 = false := by kernel_rfl
theorem ts_229 : tsize Tryz.prog 229 = some 256 := by kernel_rfl
theorem tb_229 : tbytes Tryz.prog 229 = some 256 := by kernel_rfl
theorem tg_229 : tagg Tryz.prog 229 = some true := by kernel_rfl
theorem tz_229 : zcells Tryz.prog 229 = some [.bool false, .bool false, .bool false, .bool false, .bool false, .bool false, .bool false, .bool false, .bool false, .bool false, .bool false, .bool false, .bool false, .bool false, .bool false, .bool false, .bool false, .bool false, .bool false, .bool false, .bool false, .bool false, .bool false, .bool false, .bool false, .bool false, .bool false, .bool false, .bool false, .bool false, .bool false, .bool false, .bool false, .bool false, .bool false, .bool false, .bool false, .bool false, .bool false, .bool false, .bool false, .bool false, .bool false, .bool false, .bool false, .bool false, .bool false, .bool false, .bool false, .bool false, .bool false, .bool false, .bool false, .bool false, .bool false, .bool false, .bool false, .bool false, .bool false, .bool false, .bool false, .bool false, .bool false, .bool false, .bool false, .bool false, .bool false, .bool false, .bool false, .bool false, .bool false, .bool false, .bool false, .bool false, .bool false, .bool false, .bool false, .bool false, .bool false, .bool false, .bool false, .bool false, .bool false, .bool false, .bool false, .bool false, .bool false, .bool false, .bool false, .bool false, .bool false, .bool false, .bool false, .bool false, .bool false, .bool false, .bool false, .bool false, .bool false, .bool false, .bool false, .bool false, .bool false, .bool false, .bool false, .bool false, .bool false, .bool false, .bool false, .bool false, .bool false, .bool false, .bool false, .bool false, .bool false, .bool false, .bool false, .bool false, .bool false, .bool false, .bool false, .bool false, .bool false, .bool false, .bool false, .bool false, .bool false, .bool false, .bool false, .bool false, .bool false, .bool false, .bool false, .bool false, .bool false, .bool false, .bool false, .bool false, .bool false, .bool false, .bool false, .bool false, .bool false, .bool false, .bool false, .bool false, .bool false, .bool false, .bool false, .bool false, .bool false, .bool false, .bool false, .bool false, .bool false, .bool false, .bool false, .bool false, .bool false, .bool false, .bool false, .bool false, .bool false, .bool false, .bool false, .bool false, .bool false, .bool false, .bool false, .bool false, .bool false, .bool false, .bool false, .bool false, .bool false, .bool false, .bool false, .bool false, .bool false, .bool false, .bool false, .bool false, .bool false, .bool false, .bool false, .bool false, .bool false, .bool false, .bool false, .bool false, .bool false, .bool false, .bool false, .bool false, .bool false, .bool false, .bool false, .bool false, .bool false, .bool false, .bool false, .bool false, .bool false, .bool false, .bool false, .bool false, .bool false, .bool false, .bool false, .bool false, .bool false, .bool false, .bool false, .bool false, .bool false, .bool false, .bool false, .bool false, .bool false, .bool false, .bool false, .bool false, .bool false, .bool false, .bool false, .bool false, .bool false, .bool false, .bool false, .bool false, .bool false, .bool false, .bool false, .bool false, .bool false, .bool false, .bool false, .bool false, .bool false, .bool false, .bool false, .bool false, .bool false, .bool false, .bool false, .bool false, .bool false, .bool false, .bool false, .bool false, .bool false, .bool false, .bool false, .bool false, .bool false, .bool false] := by kernel_rfl
theorem bl_229 : isBld Tryz.prog 229 = false := by kernel_rfl
theorem ts_231 : tsize Tryz.prog 231 = some 1 := by kernel_rfl
theorem tb_231 : tbytes Tryz.prog 231 = some 8 := by kernel_rfl
theorem tg_231 : tagg Tryz.prog 231 = some false := by kernel_rfl
theorem bl_231 : isBld Tryz.prog 231 = false := by kernel_rfl
theorem ts_232 : tsize Tryz.prog 232 = some 1 := by kernel_rfl
theorem tb_232 : tbytes Tryz.prog 232 = some 8 := by kernel_rfl
theorem tg_232 : tagg Tryz.prog 232 = some false := by kernel_rfl
theorem bl_232 : isBld Tryz.prog 232 = false := by kernel_rfl
theorem ts_233 : tsize Tryz.prog 233 = some 1 := by kernel_rfl
theorem tb_233 : tbytes Tryz.prog 233 = some 8 := by kernel_rfl
theorem tg_233 : tagg Tryz.prog 233 = some false := by kernel_rfl
theorem tz_233 : zcells Tryz.prog 233 = some [.nilp] := by kernel_rfl
theorem bl_233 : isBld Tryz.prog 233 = false := by kernel_rfl
theorem pe_233 : pelem Tryz.prog 233 = some 229 := by kernel_rfl
theorem ts_236 : tsize Tryz.prog 236 = some 1 := by kernel_rfl
theorem tb_236 : tbytes Tryz.prog 236 = some 8 := by kernel_rfl
theorem tg_236 : tagg Tryz.prog 236 = some false := by kernel_rfl
theorem bl_236 : isBld Tryz.prog 236 = false := by kernel_rfl
theorem ts_238 : tsize Tryz.prog 238 = some 1 := by kernel_rfl
theorem tb_238 : tbytes Tryz.prog 238 = some 8 := by kernel_rfl
theorem tg_238 : tagg Tryz.prog 238 = some false := by kernel_rfl
theorem bl_238 : isBld Tryz.prog 238 = false := by kernel_rfl
theorem ts_239 : tsize Tryz.prog 239 = some 1 := by kernel_rfl
theorem tb_239 : tbytes Tryz.prog 239 = some 8 := by kernel_rfl
theorem tg_239 : tagg Tryz.prog 239 = some false := by kernel_rfl
theorem bl_239 : isBld Tryz.prog 239 = false := by kernel_rfl
theorem ts_240 : tsize Tryz.prog 240 = some 1 := by kernel_rfl
theorem tb_240 : tbytes Tryz.prog 240 = some 8 := by kernel_rfl
theorem tg_240 : tagg Tryz.prog 240 = some false := by kernel_rfl
theorem bl_240 : isBld Tryz.prog 240 = false := by kernel_rfl
theorem ts_241 : tsize Tryz.prog 241 = some 1 := by kernel_rfl
theorem tb_241 : tbytes Tryz.prog 241 = some 8 := by kernel_rfl
theorem tg_241 : tagg Tryz.prog 241 = some false := by kernel_rfl
theorem bl_241 : isBld Tryz.prog 241 = false := by kernel_rfl
theorem ts_242 : tsize Tryz.prog 242 = some 3 := by kernel_rfl
theorem tb_242 : tbytes Tryz.prog 242 = some 24 := by kernel_rfl
theorem tg_242 : tagg Tryz.prog 242 = some true := by kernel_rfl
theorem tz_242 : zcells Tryz.prog 242 = some [.int .i64 0, .int .i64 0, .int .i64 0] := by kernel_rfl
theorem bl_242 : isBld Tryz.prog 242 = false := by kernel_rfl
theorem ts_243 : tsize Tryz.prog 243 = some 3 := by kernel_rfl
theorem tb_243 : tbytes Tryz.prog 243 = some 24 := by kernel_rfl
theorem tg_243 : tagg Tryz.prog 243 = some true := by kernel_rfl
theorem tz_243 : zcells Tryz.prog 243 = some [.int .i64 0, .int .i64 0, .int .i64 0] := by kernel_rfl
theorem tf_243 : flatTs Tryz.prog 243 = some [3, 3, 3] := by kernel_rfl
theorem bl_243 : isBld Tryz.prog 243 = false := by kernel_rfl
theorem ts_244 : tsize Tryz.prog 244 = some 1 := by kernel_rfl
theorem tb_244 : tbytes Tryz.prog 244 = some 8 := by kernel_rfl
theorem tg_244 : tagg Tryz.prog 244 = some false := by kernel_rfl
theorem bl_244 : isBld Tryz.prog 244 = false := by kernel_rfl
theorem ts_245 : tsize Tryz.prog 245 = some 1 := by kernel_rfl
theorem tb_245 : tbytes Tryz.prog 245 = some 8 := by kernel_rfl
theorem tg_245 : tagg Tryz.prog 245 = some false := by kernel_rfl
theorem bl_245 : isBld Tryz.prog 245 = false := by kernel_rfl
theorem ts_246 : tsize Tryz.prog 246 = some 1 := by kernel_rfl
theorem tb_246 : tbytes Tryz.prog 246 = some 8 := by kernel_rfl
theorem tg_246 : tagg Tryz.prog 246 = some false := by kernel_rfl
theorem bl_246 : isBld Tryz.prog 246 = false := by kernel_rfl
theorem ts_248 : tsize Tryz.prog 248 = some 1 := by kernel_rfl
theorem tb_248 : tbytes Tryz.prog 248 = some 8 := by kernel_rfl
theorem tg_248 : tagg Tryz.prog 248 = some false := by kernel_rfl
theorem bl_248 : isBld Tryz.prog 248 = false := by kernel_rfl
theorem ts_249 : tsize Tryz.prog 249 = some 1 := by kernel_rfl
theorem tb_249 : tbytes Tryz.prog 249 = some 8 := by kernel_rfl
theorem tg_249 : tagg Tryz.prog 249 = some false := by kernel_rfl
theorem bl_249 : isBld Tryz.prog 249 = false := by kernel_rfl
theorem ts_250 : tsize Tryz.prog 250 = some 1 := by kernel_rfl
theorem tb_250 : tbytes Tryz.prog 250 = some 8 := by kernel_rfl
theorem tg_250 : tagg Tryz.prog 250 = some false := by kernel_rfl
theorem bl_250 : isBld Tryz.prog 250 = false := by kernel_rfl
theorem ts_251 : tsize Tryz.prog 251 = some 1 := by kernel_rfl
theorem tb_251 : tbytes Tryz.prog 251 = some 8 := by kernel_rfl
theorem tg_251 : tagg Tryz.prog 251 = some false := by kernel_rfl
theorem bl_251 : isBld Tryz.prog 251 = false := by kernel_rfl
theorem ts_252 : tsize Tryz.prog 252 = some 1 := by kernel_rfl
theorem tb_252 : tbytes Tryz.prog 252 = some 8 := by kernel_rfl
theorem tg_252 : tagg Tryz.prog 252 = some false := by kernel_rfl
theorem bl_252 : isBld Tryz.prog 252 = false := by kernel_rfl
theorem ts_253 : tsize Tryz.prog 253 = some 1 := by kernel_rfl
theorem tb_253 : tbytes Tryz.prog 253 = some 8 := by kernel_rfl
theorem tg_253 : tagg Tryz.prog 253 = some false := by kernel_rfl
theorem bl_253 : isBld Tryz.prog 253 = false := by kernel_rfl
theorem ts_254 : tsize Tryz.prog 254 = some 256 := by kernel_rfl
theorem tb_254 : tbytes Tryz.prog 254 = some 256 := by kernel_rfl
theorem tg_254 : tagg Tryz.prog 254 = some true := by kernel_rfl
theorem tz_254 : zcells Tryz.prog 254 = some [.int .u8 0, .int .u8 0, .int .u8 0, .int .u8 0, .int .u8 0, .int .u8 0, .int .u8 0, .int .u8 0, .int .u8 0, .int .u8 0, .int .u8 0, .int .u8 0, .int .u8 0, .int .u8 0, .int .u8 0, .int .u8 0, .int .u8 0, .int .u8 0, .int .u8 0, .int .u8 0, .int .u8 0, .int .u8 0, .int .u8 0, .int .u8 0, .int .u8 0, .int .u8 0, .int .u8 0, .int .u8 0, .int .u8 0, .int .u8 0, .int .u8 0, .int .u8 0, .int .u8 0, .int .u8 0, .int .u8 0, .int .u8 0, .int .u8 0, .int .u8 0, .int .u8 0, .int .u8 0, .int .u8 0, .int .u8 0, .int .u8 0, .int .u8 0, .int .u8 0, .int .u8 0, .int .u8 0, .int .u8 0, .int .u8 0, .int .u8 0, .int .u8 0, .int .u8 0, .int .u8 0, .int .u8 0, .int .u8 0, .int .u8 0, .int .u8 0, .int .u8 0, .int .u8 0, .int .u8 0, .int .u8 0, .int .u8 0, .int .u8 0, .int .u8 0, .int .u8 0, .int .u8 0, .int .u8 0, .int .u8 0, .int .u8 0, .int .u8 0, .int .u8 0, .int .u8 0, .int .u8 0, .int .u8 0, .int .u8 0, .int .u8 0, .int .u8 0, .int .u8 0, .int .u8 0, .int .u8 0, .int .u8 0, .int .u8 0, .int .u8 0, .int .u8 0, .int .u8 0, .int .u8 0, .int .u8 0, .int .u8 0, .int .u8 0, .int .u8 0, .int .u8 0, .int .u8 0, .int .u8 0, .int .u8 0, .int .u8 0, .int .u8 0, .int .u8 0, .int .u8 0, .int .u8 0, .int .u8 0, .int .u8 0, .int .u8 0, .int .u8 0, .int .u8 0, .int .u8 0, .int .u8 0, .int .u8 0, .int .u8 0, .int .u8 0, .int .u8 0, .int .u8 0, .int .u8 0, .int .u8 0, .int .u8 0, .int .u8 0, .int .u8 0, .int .u8 0, .int .u8 0, .int .u8 0, .int .u8 0, .int .u8 0, .int .u8 0, .int .u8 0, .int .u8 0, .int .u8 0, .int .u8 0, .int .u8 0, .int .u8 0, .int .u8 0, .int .u8 0, .int .u8 0, .int .u8 0, .int .u8 0, .int .u8 0, .int .u8 0, .int .u8 0, .int .u8 0, .int .u8 0, .int .u8 0, .int .u8 0, .int .u8 0, .int .u8 0, .int .u8 0, .int .u8 0, .int .u8 0, .int .u8 0, .int .u8 0, .int .u8 0, .int .u8 0, .int .u8 0, .int .u8 0, .int .u8 0, .int .u8 0, .int .u8 0, .int .u8 0, .int .u8 0, .int .u8 0, .int .u8 0, .int .u8 0, .int .u8 0, .int .u8 0, .int .u8 0, .int .u8 0, .int .u8 0, .int .u8 0, .int .u8 0, .int .u8 0, .int .u8 0, .int .u8 0, .int .u8 0, .int .u8 0, .int .u8 0, .int .u8 0, .int .u8 0, .int .u8 0, .int .u8 0, .int .u8 0, .int .u8 0, .int .u8 0, .int .u8 0, .int .u8 0, .int .u8 0, .int .u8 0, .int .u8 0, .int .u8 0, .int .u8 0, .int .u8 0, .int .u8 0, .int .u8 0, .int .u8 0, .int .u8 0, .int .u8 0, .int .u8 0, .int .u8 0, .int .u8 0, .int .u8 0, .int .u8 0, .int .u8 0, .int .u8 0, .int .u8 0, .int .u8 0, .int .u8 0, .int .u8 0, .int .u8 0, .int .u8 0, .int .u8 0, .int .u8 0, .int .u8 0, .int .u8 0, .int .u8 0, .int .u8 0, .int .u8 0, .int .u8 0, .int .u8 0, .int .u8 0, .int .u8 0, .int .u8 0, .int .u8 0, .int .u8 0, .int .u8 0, .int .u8 0, .int .u8 0, .int .u8 0, .int .u8 0, .int .u8 0, .int .u8 0, .int .u8 0, .int .u8 0, .int .u8 0, .int .u8 0, .int .u8 0, .int .u8 0, .int .u8 0, .int .u8 0, .int .u8 0, .int .u8 0, .int .u8 0, .int .u8 0, .int .u8 0, .int .u8 0, .int .u8 0, .int .u8 0, .int .u8 0, .int .u8 0, .int .u8 0, .int .u8 0, .int .u8 0, .int .u8 0, .int .u8 0, .int .u8 0, .int .u8 0, .int .u8 0, .int .u8 0, .int .u8 0, .int .u8 0, .int .u8 0] := by kernel_rfl
theorem bl_254 : isBld Tryz.prog 254 = false := by kernel_rfl
theorem ts_255 : tsize Tryz.prog 255 = some 2 := by kernel_rfl
theorem tb_255 : tbytes Tryz.prog 255 = some 2 := by kernel_rfl
theorem tg_255 : tagg Tryz.prog 255 = some true := by kernel_rfl
theorem tz_255 : zcells Tryz.prog 255 = some [.int .u8 0, .int .u8 0] := by kernel_rfl
theorem bl_255 : isBld Tryz.prog 255 = false := by kernel_rfl
theorem ts_256 : tsize Tryz.prog 256 = some 2 := by kernel_rfl
theorem tb_256 : tbytes Tryz.prog 256 = some 2 := by kernel_rfl
theorem tg_256 : tagg Tryz.prog 256 = some true := by kernel_rfl
theorem tz_256 : zcells Tryz.prog 256 = some [.int .u8 0, .int .u8 0] := by kernel_rfl
theorem tf_256 : flatTs Tryz.prog 256 = some [5, 5] := by kernel_rfl
theorem bl_256 : isBld Tryz.prog 256 = false := by kernel_rfl
theorem ts_257 : tsize Tryz.prog 257 = some 32 := by kernel_rfl
theorem tb_257 : tbytes Tryz.prog 257 = some 32 := by kernel_rfl
theorem tg_257 : tagg Tryz.prog 257 = some true := by kernel_rfl
theorem tz_257 : zcells Tryz.prog 257 = some [.int .u8 0, .int .u8 0, .int .u8 0, .int .u8 0, .int .u8 0, .int .u8 0, .int .u8 0, .int .u8 0, .int .u8 0, .int .u8 0, .int .u8 0, .int .u8 0, .int .u8 0, .int .u8 0, .int .u8 0, .int .u8 0, .int .u8 0, .int .u8 0, .int .u8 0, .int .u8 0, .int .u8 0, .int .u8 0, .int .u8 0, .int .u8 0, .int .u8 0, .int .u8 0, .int .u8 0, .int .u8 0, .int .u8 0, .int .u8 0, .int .u8 0, .int .u8 0] := by kernel_rfl
theorem bl_257 : isBld Tryz.prog 257 = false := by kernel_rfl
theorem ts_258 : tsize Tryz.prog 258 = some 1 := by kernel_rfl
theorem tb_258 : tbytes Tryz.prog 258 = some 8 := by kernel_rfl
theorem tg_258 : tagg Tryz.prog 258 = some false := by kernel_rfl
theorem bl_258 : isBld Tryz.prog 258 = false := by kernel_rfl
theorem ts_259 : tsize Tryz.prog 259 = some 1 := by kernel_rfl
theorem tb_259 : tbytes Tryz.prog 259 = some 8 := by kernel_rfl
theorem tg_259 : tagg Tryz.prog 259 = some false := by kernel_rfl
theorem bl_259 : isBld Tryz.prog 259 = false := by kernel_rfl
theorem ts_260 : tsize Tryz.prog 260 = some 1 := by kernel_rfl
theorem tb_260 : tbytes Tryz.prog 260 = some 8 := by kernel_rfl
theorem tg_260 : tagg Tryz.prog 260 = some false := by kernel_rfl
theorem bl_260 : isBld Tryz.prog 260 = false := by kernel_rfl
theorem ts_261 : tsize Tryz.prog 261 = some 1 := by kernel_rfl
theorem tb_261 : tbytes Tryz.prog 261 = some 8 := by kernel_rfl
theorem tg_261 : tagg Tryz.prog 261 = some false := by kernel_rfl
theorem bl_261 : isBld Tryz.prog 261 = false := by kernel_rfl
theorem ts_267 : tsize Tryz.prog 267 = some 1 := by kernel_rfl
theorem tb_267 : tbytes Tryz.prog 267 = some 8 := by kernel_rfl
theorem tg_267 : tagg Tryz.prog 267 = some false := by kernel_rfl
theorem bl_267 : isBld Tryz.prog 267 = false := by kernel_rfl
theorem sm_0 : isSame Tryz.prog 0 = false := by kernel_rfl
theorem mk_0 : mkzT Tryz.prog 0 = none := by kernel_rfl
theorem sm_1 : isSame Tryz.prog 1 = false := by kernel_rfl
theorem mk_1 : mkzT Tryz.prog 1 = none := by kernel_rfl
theorem sm_2 : isSame Tryz.prog 2 = false := by kernel_rfl
theorem mk_2 : mkzT Tryz.prog 2 = none := by kernel_rfl
theorem sm_3 : isSame Tryz.prog 3 = false := by kernel_rfl
theorem mk_3 : mkzT Tryz.prog 3 = none := by kernel_rfl
theorem sm_4 : isSame Tryz.prog 4 = false := by kernel_rfl
theorem mk_4 : mkzT Tryz.prog 4 = none := by kernel_rfl
theorem sm_5 : isSame Tryz.prog 5 = false := by kernel_rfl
theorem mk_5 : mkzT Tryz.prog 5 = none := by kernel_rfl
theorem sm_6 : isSame Tryz.prog 6 = false := by kernel_rfl
theorem mk_6 : mkzT Tryz.prog 6 = none := by kernel_rfl
theorem sm_7 : isSame Tryz.prog 7 = false := by kernel_rfl
theorem mk_7 : mkzT Tryz.prog 7 = none := by kernel_rfl
theorem sm_8 : isSame Tryz.prog 8 = false := by kernel_rfl
theorem mk_8 : mkzT Tryz.prog 8 = none := by kernel_rfl
theorem sm_9 : isSame Tryz.prog 9 = false := by kernel_rfl
theorem mk_9 : mkzT Tryz.prog 9 = none := by kernel_rfl
theorem sm_10 : isSame Tryz.prog 10 = false := by kernel_rfl
theorem mk_10 : mkzT Tryz.prog 10 = none := by kernel_rfl
theorem sm_11 : isSame Tryz.prog 11 = false := by kernel_rfl
theorem mk_11 : mkzT Tryz.prog 11 = none := by kernel_rfl
theorem sm_12 : isSame Tryz.prog 12 = false := by kernel_rfl
theorem mk_12 : mkzT Tryz.prog 12 = none := by kernel_rfl
theorem sm_13 : isSame Tryz.prog 13 = false := by kernel_rfl
theorem mk_13 : mkzT Tryz.prog 13 = none := by kernel_rfl
theorem sm_14 : isSame Tryz.prog 14 = false := by kernel_rfl
theorem mk_14 : mkzT Tryz.prog 14 = none := by kernel_rfl
theorem sm_15 : isSame Tryz.prog 15 = false := by kernel_rfl
theorem mk_15 : mkzT Tryz.prog 15 = none := by kernel_rfl
theorem sm_16 : isSame Tryz.prog 16 = false := by kernel_rfl
theorem mk_16 : mkzT Tryz.prog 16 = none := by kernel_rfl
theorem sm_17 : isSame Tryz.prog 17 = false := by kernel_rfl
theorem mk_17 : mkzT Tryz.prog 17 = none := by kernel_rfl
theorem sm_18 : isSame Tryz.prog 18 = false := by kernel_rfl
theorem mk_18 : mkzT Tryz.prog 18 = none := by kernel_rfl
theorem sm_19 : isSame Tryz.prog 19 = false := by kernel_rfl
theorem mk_19 : mkzT Tryz.prog 19 = none := by kernel_rfl
theorem sm_20 : isSame Tryz.prog 20 = false := by kernel_rfl
theorem mk_20 : mkzT Tryz.prog 20 = none := by kernel_rfl
theorem sm_21 : isSame Tryz.prog 21 = false := by kernel_rfl
theorem mk_21 : mkzT Tryz.prog 21 = none := by kernel_rfl
theorem sm_22 : isSame Tryz.prog 22 = false := by kernel_rfl
theorem mk_22 : mkzT Tryz.prog 22 = none := by kernel_rfl
theorem sm_23 : isSame Tryz.prog 23 = false := by kernel_rfl
theorem mk_23 : mkzT Tryz.prog 23 = none := by kernel_rfl
theorem sm_24 : isSame Tryz.prog 24 = false := by kernel_rfl
theorem mk_24 : mkzT Tryz.prog 24 = none := by kernel_rfl
theorem sm_25 : isSame Tryz.prog 25 = false := by kernel_rfl
theorem mk_25 : mkzT Tryz.prog 25 = none := by kernel_rfl
theorem sm_26 : isSame Tryz.prog 26 = false := by kernel_rfl
theorem mk_26 : mkzT Tryz.prog 26 = none := by kernel_rfl
theorem sm_27 : isSame Tryz.prog 27 = false := by kernel_rfl
theorem mk_27 : mkzT Tryz.prog 27 = none := by kernel_rfl
theorem sm_28 : isSame Tryz.prog 28 = false := by kernel_rfl
theorem mk_28 : mkzT Tryz.prog 28 = none := by kernel_rfl
theorem sm_29 : isSame Tryz.prog 29 = false := by kernel_rfl
theorem mk_29 : mkzT Tryz.prog 29 = none := by kernel_rfl
theorem sm_30 : isSame Tryz.prog 30 = false := by kernel_rfl
theorem mk_30 : mkzT Tryz.prog 30 = none := by kernel_rfl
theorem sm_31 : isSame Tryz.prog 31 = false := by kernel_rfl
theorem mk_31 : mkzT Tryz.prog 31 = none := by kernel_rfl
theorem sm_32 : isSame Tryz.prog 32 = false := by kernel_rfl
theorem mk_32 : mkzT Tryz.prog 32 = none := by kernel_rfl
theorem sm_33 : isSame Tryz.prog 33 = false := by kernel_rfl
theorem mk_33 : mkzT Tryz.prog 33 = none := by kernel_rfl
theorem sm_34 : isSame Tryz.prog 34 = false := by kernel_rfl
theorem mk_34 : mkzT Tryz.prog 34 = none := by kernel_rfl
theorem sm_35 : isSame Tryz.prog 35 = false := by kernel_rfl
theorem mk_35 : mkzT Tryz.prog 35 = none := by kernel_rfl
theorem sm_36 : isSame Tryz.prog 36 = false := by kernel_rfl
theorem mk_36 : mkzT Tryz.prog 36 = none := by kernel_rfl
theorem sm_37 : isSame Tryz.prog 37 = false := by kernel_rfl
theorem mk_37 : mkzT Tryz.prog 37 = none := by kernel_rfl
theorem sm_38 : isSame Tryz.prog 38 = false := by kernel_rfl
theorem mk_38 : mkzT Tryz.prog 38 = none := by kernel_rfl
theorem sm_39 : isSame Tryz.prog 39 = false := by kernel_rfl
theorem mk_39 : mkzT Tryz.prog 39 = none := by kernel_rfl
theorem sm_40 : isSame Tryz.prog 40 = false := by kernel_rfl
theorem mk_40 : mkzT Tryz.prog 40 = none := by kernel_rfl
theorem sm_41 : isSame Tryz.prog 41 = false := by kernel_rfl
theorem mk_41 : mkzT Tryz.prog 41 = none := by kernel_rfl
theorem sm_42 : isSame Tryz.prog 42 = false := by kernel_rfl
theorem mk_42 : mkzT Tryz.prog 42 = none := by kernel_rfl
theorem sm_43 : isSame Tryz.prog 43 = false := by kernel_rfl
theorem mk_43 : mkzT Tryz.prog 43 = none := by kernel_rfl
theorem sm_44 : isSame Tryz.prog 44 = false := by kernel_rfl
theorem mk_44 : mkzT Tryz.prog 44 = none := by kernel_rfl
theorem sm_45 : isSame Tryz.prog 45 = false := by kernel_rfl
theorem mk_45 : mkzT Tryz.prog 45 = none := by kernel_rfl
theorem sm_46 : isSame Tryz.prog 46 = false := by kernel_rfl
theorem mk_46 : mkzT Tryz.prog 46 = none := by kernel_rfl
theorem sm_47 : isSame Tryz.prog 47 = false := by kernel_rfl
theorem mk_47 : mkzT Tryz.prog 47 = none := by kernel_rfl
theorem sm_48 : isSame Tryz.prog 48 = false := by kernel_rfl
theorem mk_48 : mkzT Tryz.prog 48 = none := by kernel_rfl
theorem sm_49 : isSame Tryz.prog 49 = false := by kernel_rfl
theorem mk_49 : mkzT Tryz.prog 49 = none := by kernel_rfl
theorem sm_50 : isSame Tryz.prog 50 = false := by kernel_rfl
theorem mk_50 : mkzT Tryz.prog 50 = none := by kernel_rfl
theorem sm_51 : isSame Tryz.prog 51 = false := by kernel_rfl
theorem mk_51 : mkzT Tryz.prog 51 = none := by kernel_rfl
theorem sm_52 : isSame Tryz.prog 52 = false := by kernel_rfl
theorem mk_52 : mkzT Tryz.prog 52 = none := by kernel_rfl
theorem sm_53 : isSame Tryz.prog 53 = false := by kernel_rfl
theorem mk_53 : mkzT Tryz.prog 53 = none := by kernel_rfl
theorem sm_54 : isSame Tryz.prog 54 = false := by kernel_rfl
theorem mk_54 : mkzT Tryz.prog 54 = none := by kernel_rfl
theorem sm_55 : isSame Tryz.prog 55 = false := by kernel_rfl
theorem mk_55 : mkzT Tryz.prog 55 = none := by kernel_rfl
theorem sm_56 : isSame Tryz.prog 56 = false := by kernel_rfl
theorem mk_56 : mkzT Tryz.prog 56 = none := by kernel_rfl
theorem sm_57 : isSame Tryz.prog 57 = false := by kernel_rfl
theorem mk_57 : mkzT Tryz.prog 57 = none := by kernel_rfl
theorem sm_58 : isSame Tryz.prog 58 = false := by kernel_rfl
theorem mk_58 : mkzT Tryz.prog 58 = none := by kernel_rfl
theorem sm_59 : isSame Tryz.prog 59 = false := by kernel_rfl
theorem mk_59 : mkzT Tryz.prog 59 = none := by kernel_rfl
theorem sm_60 : isSame Tryz.prog 60 = false := by kernel_rfl
theorem mk_60 : mkzT Tryz.prog 60 = none := by kernel_rfl
theorem sm_61 : isSame Tryz.prog 61 = false := by kernel_rfl
theorem mk_61 : mkzT Tryz.prog 61 = none := by kernel_rfl
theorem sm_62 : isSame Tryz.prog 62 = false := by kernel_rfl
theorem mk_62 : mkzT Tryz.prog 62 = none := by kernel_rfl
theorem sm_63 : isSame Tryz.prog 63 = false := by kernel_rfl
theorem mk_63 : mkzT Tryz.prog 63 = none := by kernel_rfl
theorem sm_64 : isSame Tryz.prog 64 = false := by kernel_rfl
theorem mk_64 : mkzT Tryz.prog 64 = none := by kernel_rfl
theorem sm_65 : isSame Tryz.prog 65 = false := by kernel_rfl
theorem mk_65 : mkzT Tryz.prog 65 = none := by kernel_rfl
theorem sm_66 : isSame Tryz.prog 66 = false := by kernel_rfl
theorem mk_66 : mkzT Tryz.prog 66 = none := by kernel_rfl
theorem sm_67 : isSame Tryz.prog 67 = false := by kernel_rfl
theorem mk_67 : mkzT Tryz.prog 67 = none := by kernel_rfl
theorem sm_68 : isSame Tryz.prog 68 = false := by kernel_rfl
theorem mk_68 : mkzT Tryz.prog 68 = none := by kernel_rfl
theorem sm_69 : isSame Tryz.prog 69 = false := by kernel_rfl
theorem mk_69 : mkzT Tryz.prog 69 = none := by kernel_rfl
theorem sm_70 : isSame Tryz.prog 70 = false := by kernel_rfl
theorem mk_70 : mkzT Tryz.prog 70 = none := by kernel_rfl
theorem sm_71 : isSame Tryz.prog 71 = false := by kernel_rfl
theorem mk_71 : mkzT Tryz.prog 71 = none := by kernel_rfl
theorem sm_72 : isSame Tryz.prog 72 = false := by kernel_rfl
theorem mk_72 : mkzT Tryz.prog 72 = none := by kernel_rfl
theorem sm_73 : isSame Tryz.prog 73 = false := by kernel_rfl
theorem mk_73 : mkzT Tryz.prog 73 = none := by kernel_rfl
theorem sm_74 : isSame Tryz.prog 74 = false := by kernel_rfl
theorem mk_74 : mkzT Tryz.prog 74 = none := by kernel_rfl
theorem sm_75 : isSame Tryz.prog 75 = false := by kernel_rfl
theorem mk_75 : mkzT Tryz.prog 75 = none := by kernel_rfl
theorem sm_76 : isSame Tryz.prog 76 = false := by kernel_rfl
theorem mk_76 : mkzT Tryz.prog 76 = none := by kernel_rfl
theorem sm_77 : isSame Tryz.prog 77 = false := by kernel_rfl
theorem mk_77 : mkzT Tryz.prog 77 = none := by kernel_rfl
theorem sm_78 : isSame Tryz.prog 78 = false := by kernel_rfl
theorem mk_78 : mkzT Tryz.prog 78 = none := by kernel_rfl
theorem sm_79 : isSame Tryz.prog 79 = false := by kernel_rfl
theorem mk_79 : mkzT Tryz.prog 79 = none := by kernel_rfl
theorem sm_80 : isSame Tryz.prog 80 = false := by kernel_rfl
theorem mk_80 : mkzT Tryz.prog 80 = none := by kernel_rfl
theorem sm_81 : isSame Tryz.prog 81 = false := by kernel_rfl
theorem mk_81 : mkzT Tryz.prog 81 = none := by kernel_rfl
theorem sm_82 : isSame Tryz.prog 82 = false := by kernel_rfl
theorem mk_82 : mkzT Tryz.prog 82 = none := by kernel_rfl
theorem sm_83 : isSame Tryz.prog 83 = false := by kernel_rfl
theorem mk_83 : mkzT Tryz.prog 83 = none := by kernel_rfl
theorem sm_84 : isSame Tryz.prog 84 = false := by kernel_rfl
theorem mk_84 : mkzT Tryz.prog 84 = none := by kernel_rfl
theorem sm_85 : isSame Tryz.prog 85 = false := by kernel_rfl
theorem mk_85 : mkzT Tryz.prog 85 = none := by kernel_rfl
theorem sm_86 : isSame Tryz.prog 86 = false := by kernel_rfl
theorem mk_86 : mkzT Tryz.prog 86 = none := by kernel_rfl
theorem sm_87 : isSame Tryz.prog 87 = false := by kernel_rfl
theorem mk_87 : mkzT Tryz.prog 87 = none := by kernel_rfl
theorem sm_88 : isSame Tryz.prog 88 = false := by kernel_rfl
theorem mk_88 : mkzT Tryz.prog 88 = none := by kernel_rfl
theorem sm_89 : isSame Tryz.prog 89 = false := by kernel_rfl
theorem mk_89 : mkzT Tryz.prog 89 = none := by kernel_rfl
theorem sm_90 : isSame Tryz.prog 90 = false := by kernel_rfl
theorem mk_90 : mkzT Tryz.prog 90 = none := by kernel_rfl
theorem sm_91 : isSame Tryz.prog 91 = false := by kernel_rfl
theorem mk_91 : mkzT Tryz.prog 91 = none := by kernel_rfl
theorem sm_92 : isSame Tryz.prog 92 = false := by kernel_rfl
theorem mk_92 : mkzT Tryz.prog 92 = none := by kernel_rfl
theorem sm_93 : isSame Tryz.prog 93 = false := by kernel_rfl
theorem mk_93 : mkzT Tryz.prog 93 = none := by kernel_rfl
theorem sm_94 : isSame Tryz.prog 94 = false := by kernel_rfl
theorem mk_94 : mkzT Tryz.prog 94 = none := by kernel_rfl
theorem sm_95 : isSame Tryz.prog 95 = false := by kernel_rfl
theorem mk_95 : mkzT Tryz.prog 95 = none := by kernel_rfl
theorem sm_96 : isSame Tryz.prog 96 = false := by kernel_rfl
theorem mk_96 : mkzT Tryz.prog 96 = none := by kernel_rfl
theorem sm_97 : isSame Tryz.prog 97 = false := by kernel_rfl
theorem mk_97 : mkzT Tryz.prog 97 = none := by kernel_rfl
theorem sm_98 : isSame Tryz.prog 98 = false := by kernel_rfl
theorem mk_98 : mkzT Tryz.prog 98 = none := by kernel_rfl
theorem sm_99 : isSame Tryz.prog 99 = false := by kernel_rfl
theorem mk_99 : mkzT Tryz.prog 99 = none := by kernel_rfl
theorem sm_100 : isSame Tryz.prog 100 = false := by kernel_rfl
theorem mk_100 : mkzT Tryz.prog 100 = none := by kernel_rfl
theorem sm_101 : isSame Tryz.prog 101 = false := by kernel_rfl
theorem mk_101 : mkzT Tryz.prog 101 = none := by kernel_rfl
theorem sm_102 : isSame Tryz.prog 102 = false := by kernel_rfl
theorem mk_102 : mkzT Tryz.prog 102 = none := by kernel_rfl
theorem sm_103 : isSame Tryz.prog 103 = false := by kernel_rfl
theorem mk_103 : mkzT Tryz.prog 103 = none := by kernel_rfl
theorem sm_104 : isSame Tryz.prog 104 = false := by kernel_rfl
theorem mk_104 : mkzT Tryz.prog 104 = none := by kernel_rfl
theorem sm_105 : isSame Tryz.prog 105 = false := by kernel_rfl
theorem mk_105 : mkzT Tryz.prog 105 = none := by kernel_rfl
theorem sm_106 : isSame Tryz.prog 106 = false := by kernel_rfl
theorem mk_106 : mkzT Tryz.prog 106 = none := by kernel_rfl
theorem sm_107 : isSame Tryz.prog 107 = false := by kernel_rfl
theorem mk_107 : mkzT Tryz.prog 107 = none := by kernel_rfl
theorem sm_108 : isSame Tryz.prog 108 = false := by kernel_rfl
theorem mk_108 : mkzT Tryz.prog 108 = none := by kernel_rfl
theorem sm_109 : isSame Tryz.prog 109 = false := by kernel_rfl
theorem mk_109 : mkzT Tryz.prog 109 = none := by kernel_rfl
theorem sm_110 : isSame Tryz.prog 110 = false := by kernel_rfl
theorem mk_110 : mkzT Tryz.prog 110 = none := by kernel_rfl
theorem sm_111 : isSame Tryz.prog 111 = false := by kernel_rfl
theorem mk_111 : mkzT Tryz.prog 111 = none := by kernel_rfl
theorem sm_112 : isSame Tryz.prog 112 = false := by kernel_rfl
theorem mk_112 : mkzT Tryz.prog 112 = none := by kernel_rfl
theorem sm_113 : isSame Tryz.prog 113 = false := by kernel_rfl
theorem mk_113 : mkzT Tryz.prog 113 = none := by kernel_rfl
theorem sm_114 : isSame Tryz.prog 114 = false := by kernel_rfl
theorem mk_114 : mkzT Tryz.prog 114 = none := by kernel_rfl
theorem sm_115 : isSame Tryz.prog 115 = false := by kernel_rfl
theorem mk_115 : mkzT Tryz.prog 115 = none := by kernel_rfl
theorem sm_116 : isSame Tryz.prog 116 = false := by kernel_rfl
theorem mk_116 : mkzT Tryz.prog 116 = none := by kernel_rfl
theorem sm_117 : isSame Tryz.prog 117 = false := by kernel_rfl
theorem mk_117 : mkzT Tryz.prog 117 = none := by kernel_rfl
theorem sm_118 : isSame Tryz.prog 118 = false := by kernel_rfl
theorem mk_118 : mkzT Tryz.prog 118 = none := by kernel_rfl
theorem sm_119 : isSame Tryz.prog 119 = false := by kernel_rfl
theorem mk_119 : mkzT Tryz.prog 119 = none := by kernel_rfl
theorem sm_120 : isSame Tryz.prog 120 = false := by kernel_rfl
theorem mk_120 : mkzT Tryz.prog 120 = none := by kernel_rfl
theorem sm_121 : isSame Tryz.prog 121 = false := by kernel_rfl
theorem mk_121 : mkzT Tryz.prog 121 = none := by kernel_rfl
theorem sm_122 : isSame Tryz.prog 122 = false := by kernel_rfl
theorem mk_122 : mkzT Tryz.prog 122 = none := by kernel_rfl
theorem sm_123 : isSame Tryz.prog 123 = false := by kernel_rfl
theorem mk_123 : mkzT Tryz.prog 123 = none := by kernel_rfl
theorem sm_124 : isSame Tryz.prog 124 = false := by kernel_rfl
theorem mk_124 : mkzT Tryz.prog 124 = none := by kernel_rfl
theorem sm_125 : isSame Tryz.prog 125 = false := by kernel_rfl
theorem mk_125 : mkzT Tryz.prog 125 = none := by kernel_rfl
theorem sm_126 : isSame Tryz.prog 126 = false := by kernel_rfl
theorem mk_126 : mkzT Tryz.prog 126 = none := by kernel_rfl
theorem sm_127 : isSame Tryz.prog 127 = false := by kernel_rfl
theorem mk_127 : mkzT Tryz.prog 127 = none := by kernel_rfl
theorem sm_128 : isSame Tryz.prog 128 = false := by kernel_rfl
theorem mk_128 : mkzT Tryz.prog 128 = none := by kernel_rfl
theorem sm_129 : isSame Tryz.prog 129 = false := by kernel_rfl
theorem mk_129 : mkzT Tryz.prog 129 = none := by kernel_rfl
theorem sm_130 : isSame Tryz.prog 130 = false := by kernel_rfl
theorem mk_130 : mkzT Tryz.prog 130 = none := by kernel_rfl
theorem sm_131 : isSame Tryz.prog 131 = false := by kernel_rfl
theorem mk_131 : mkzT Tryz.prog 131 = none := by kernel_rfl
theorem sm_132 : isSame Tryz.prog 132 = false := by kernel_rfl
theorem mk_132 : mkzT Tryz.prog 132 = none := by kernel_rfl
theorem sm_133 : isSame Tryz.prog 133 = false := by kernel_rfl
theorem mk_133 : mkzT Tryz.prog 133 = none := by kernel_rfl
theorem sm_134 : isSame Tryz.prog 134 = false := by kernel_rfl
theorem mk_134 : mkzT Tryz.prog 134 = none := by kernel_rfl
theorem sm_135 : isSame Tryz.prog 135 = true := by kernel_rfl
theorem mk_135 : mkzT Tryz.prog 135 = none := by kernel_rfl
theorem sm_136 : isSame Tryz.prog 136 = false := by kernel_rfl
theorem mk_136 : mkzT Tryz.prog 136 = some 5 := by kernel_rfl
theorem sm_137 : isSame Tryz.prog 137 = false := by kernel_rfl
theorem mk_137 : mkzT Tryz.prog 137 = none := by kernel_rfl
theorem sm_138 : isSame Tryz.prog 138 = false := by kernel_rfl
theorem mk_138 : mkzT Tryz.prog 138 = none := by kernel_rfl
theorem sm_139 : isSame Tryz.prog 139 = false := by kernel_rfl
theorem mk_139 : mkzT Tryz.prog 139 = none := by kernel_rfl
theorem sm_140 : isSame Tryz.prog 140 = false := by kernel_rfl
theorem mk_140 : mkzT Tryz.prog 140 = none := by kernel_rfl
theorem sm_141 : isSame Tryz.prog 141 = false := by kernel_rfl
theorem mk_141 : mkzT Tryz.prog 141 = none := by kernel_rfl
theorem sm_142 : isSame Tryz.prog 142 = false := by kernel_rfl
theorem mk_142 : mkzT Tryz.prog 142 = none := by kernel_rfl
theorem sm_143 : isSame Tryz.prog 143 = false := by kernel_rfl
theorem mk_143 : mkzT Tryz.prog 143 = none := by kernel_rfl
theorem sm_144 : isSame Tryz.prog 144 = false := by kernel_rfl
theorem mk_144 : mkzT Tryz.prog 144 = none := by kernel_rfl
theorem sm_145 : isSame Tryz.prog 145 = false := by kernel_rfl
theorem mk_145 : mkzT Tryz.prog 145 = none := by kernel_rfl
theorem sm_146 : isSame Tryz.prog 146 = false := by kernel_rfl
theorem mk_146 : mkzT Tryz.prog 146 = none := by kernel_rfl
theorem sm_147 : isSame Tryz.prog 147 = false := by kernel_rfl
theorem mk_147 : mkzT Tryz.prog 147 = none := by kernel_rfl
theorem sm_148 : isSame Tryz.prog 148 = false := by kernel_rfl
theorem mk_148 : mkzT Tryz.prog 148 = none := by kernel_rfl
theorem sm_149 : isSame Tryz.prog 149 = false := by kernel_rfl
theorem mk_149 : mkzT Tryz.prog 149 = none := by kernel_rfl
theorem sm_150 : isSame Tryz.prog 150 = false := by kernel_rfl
theorem mk_150 : mkzT Tryz.prog 150 = none := by kernel_rfl
theorem sm_151 : isSame Tryz.prog 151 = false := by kernel_rfl
theorem mk_151 : mkzT Tryz.prog 151 = none := by kernel_rfl
theorem sm_152 : isSame Tryz.prog 152 = false := by kernel_rfl
theorem mk_152 : mkzT Tryz.prog 152 = none := by kernel_rfl
theorem sm_153 : isSame Tryz.prog 153 = false := by kernel_rfl
theorem mk_153 : mkzT Tryz.prog 153 = none := by kernel_rfl
theorem sm_154 : isSame Tryz.prog 154 = false := by kernel_rfl
theorem mk_154 : mkzT Tryz.prog 154 = none := by kernel_rfl
theorem sm_155 : isSame Tryz.prog 155 = false := by kernel_rfl
theorem mk_155 : mkzT Tryz.prog 155 = none := by kernel_rfl
theorem sm_156 : isSame Tryz.prog 156 = false := by kernel_rfl
theorem mk_156 : mkzT Tryz.prog 156 = none := by kernel_rfl
theorem sm_157 : isSame Tryz.prog 157 = false := by kernel_rfl
theorem mk_157 : mkzT Tryz.prog 157 = none := by kernel_rfl
theorem sm_158 : isSame Tryz.prog 158 = false := by kernel_rfl
theorem mk_158 : mkzT Tryz.prog 158 = none := by kernel_rfl
theorem sm_159 : isSame Tryz.prog 159 = false := by kernel_rfl
theorem mk_159 : mkzT Tryz.prog 159 = none := by kernel_rfl
theorem sm_160 : isSame Tryz.prog 160 = false := by kernel_rfl
theorem mk_160 : mkzT Tryz.prog 160 = none := by kernel_rfl
theorem sm_161 : isSame Tryz.prog 161 = false := by kernel_rfl
theorem mk_161 : mkzT Tryz.prog 161 = none := by kernel_rfl
theorem sm_162 : isSame Tryz.prog 162 = false := by kernel_rfl
theorem mk_162 : mkzT Tryz.prog 162 = none := by kernel_rfl
theorem sm_163 : isSame Tryz.prog 163 = false := by kernel_rfl
theorem mk_163 : mkzT Tryz.prog 163 = none := by kernel_rfl
theorem sm_164 : isSame Tryz.prog 164 = false := by kernel_rfl
theorem mk_164 : mkzT Tryz.prog 164 = none := by kernel_rfl
theorem sm_165 : isSame Tryz.prog 165 = false := by kernel_rfl
theorem mk_165 : mkzT Tryz.prog 165 = none := by kernel_rfl
theorem sm_166 : isSame Tryz.prog 166 = false := by kernel_rfl
theorem mk_166 : mkzT Tryz.prog 166 = none := by kernel_rfl
theorem sm_167 : isSame Tryz.prog 167 = false := by kernel_rfl
theorem mk_167 : mkzT Tryz.prog 167 = none := by kernel_rfl
theorem sm_168 : isSame Tryz.prog 168 = false := by kernel_rfl
theorem mk_168 : mkzT Tryz.prog 168 = none := by kernel_rfl
theorem sm_169 : isSame Tryz.prog 169 = false := by kernel_rfl
theorem mk_169 : mkzT Tryz.prog 169 = none := by kernel_rfl
theorem sm_170 : isSame Tryz.prog 170 = false := by kernel_rfl
theorem mk_170 : mkzT Tryz.prog 170 = none := by kernel_rfl
theorem sm_171 : isSame Tryz.prog 171 = false := by kernel_rfl
theorem mk_171 : mkzT Tryz.prog 171 = none := by kernel_rfl
theorem sm_172 : isSame Tryz.prog 172 = false := by kernel_rfl
theorem mk_172 : mkzT Tryz.prog 172 = none := by kernel_rfl
theorem sm_173 : isSame Tryz.prog 173 = false := by kernel_rfl
theorem mk_173 : mkzT Tryz.prog 173 = none := by kernel_rfl
theorem sm_174 : isSame Tryz.prog 174 = false := by kernel_rfl
theorem mk_174 : mkzT Tryz.prog 174 = none := by kernel_rfl
theorem sm_175 : isSame Tryz.prog 175 = false := by kernel_rfl
theorem mk_175 : mkzT Tryz.prog 175 = none := by kernel_rfl
theorem sm_176 : isSame Tryz.prog 176 = false := by kernel_rfl
theorem mk_176 : mkzT Tryz.prog 176 = none := by kernel_rfl
theorem sm_177 : isSame Tryz.prog 177 = false := by kernel_rfl
theorem mk_177 : mkzT Tryz.prog 177 = none := by kernel_rfl
theorem sm_178 : isSame Tryz.prog 178 = false := by kernel_rfl
theorem mk_178 : mkzT Tryz.prog 178 = none := by kernel_rfl
theorem sm_179 : isSame Tryz.prog 179 = false := by kernel_rfl
theorem mk_179 : mkzT Tryz.prog 179 = none := by kernel_rfl
theorem sm_180 : isSame Tryz.prog 180 = false := by kernel_rfl
theorem mk_180 : mkzT Tryz.prog 180 = none := by kernel_rfl
theorem sm_181 : isSame Tryz.prog 181 = false := by kernel_rfl
theorem mk_181 : mkzT Tryz.prog 181 = none := by kernel_rfl
theorem sm_182 : isSame Tryz.prog 182 = false := by kernel_rfl
theorem mk_182 : mkzT Tryz.prog 182 = none := by kernel_rfl
theorem sm_183 : isSame Tryz.prog 183 = false := by kernel_rfl
theorem mk_183 : mkzT Tryz.prog 183 = none := by kernel_rfl
theorem sm_184 : isSame Tryz.prog 184 = false := by kernel_rfl
theorem mk_184 : mkzT Tryz.prog 184 = none := by kernel_rfl
theorem sm_185 : isSame Tryz.prog 185 = false := by kernel_rfl
theorem mk_185 : mkzT Tryz.prog 185 = none := by kernel_rfl
theorem sm_186 : isSame Tryz.prog 186 = false := by kernel_rfl
theorem mk_186 : mkzT Tryz.prog 186 = none := by kernel_rfl
theorem sm_187 : isSame Tryz.prog 187 = false := by kernel_rfl
theorem mk_187 : mkzT Tryz.prog 187 = none := by kernel_rfl
theorem sm_188 : isSame Tryz.prog 188 = false := by kernel_rfl
theorem mk_188 : mkzT Tryz.prog 188 = none := by kernel_rfl
theorem sm_189 : isSame Tryz.prog 189 = false := by kernel_rfl
theorem mk_189 : mkzT Tryz.prog 189 = none := by kernel_rfl
theorem sm_190 : isSame Tryz.prog 190 = false := by kernel_rfl
theorem mk_190 : mkzT Tryz.prog 190 = none := by kernel_rfl
theorem sm_191 : isSame Tryz.prog 191 = false := by kernel_rfl
theorem mk_191 : mkzT Tryz.prog 191 = none := by kernel_rfl
theorem sm_192 : isSame Tryz.prog 192 = false := by kernel_rfl
theorem mk_192 : mkzT Tryz.prog 192 = none := by kernel_rfl
theorem sm_193 : isSame Tryz.prog 193 = false := by kernel_rfl
theorem mk_193 : mkzT Tryz.prog 193 = none := by kernel_rfl
theorem sm_194 : isSame Tryz.prog 194 = false := by kernel_rfl
theorem mk_194 : mkzT Tryz.prog 194 = none := by kernel_rfl
theorem sm_195 : isSame Tryz.prog 195 = false := by kernel_rfl
theorem mk_195 : mkzT Tryz.prog 195 = none := by kernel_rfl
theorem sm_196 : isSame Tryz.prog 196 = false := by kernel_rfl
theorem mk_196 : mkzT Tryz.prog 196 = none := by kernel_rfl
theorem sm_197 : isSame Tryz.prog 197 = false := by kernel_rfl
theorem mk_197 : mkzT Tryz.prog 197 = none := by kernel_rfl
theorem sm_198 : isSame Tryz.prog 198 = false := by kernel_rfl
theorem mk_198 : mkzT Tryz.prog 198 = none := by kernel_rfl
theorem sm_199 : isSame Tryz.prog 199 = false := by kernel_rfl
theorem mk_199 : mkzT Tryz.prog 199 = none := by kernel_rfl
theorem sm_200 : isSame Tryz.prog 200 = false := by kernel_rfl
theorem mk_200 : mkzT Tryz.prog 200 = none := by kernel_rfl
theorem sm_201 : isSame Tryz.prog 201 = false := by kernel_rfl
theorem mk_201 : mkzT Tryz.prog 201 = none := by kernel_rfl
attribute [go_sem] ts_1 tb_1 tg_1 bl_1 Tryz.underlying1 ts_2 tb_2 tg_2 tz_2 bl_2 Tryz.underlying2 ts_3 tb_3 tg_3 tz_3 bl_3 Tryz.underlying3 ts_4 tb_4 tg_4 tz_4 bl_4 Tryz.underlying4 ts_5 tb_5 tg_5 tz_5 bl_5 iu_5 ro_5 Tryz.underlying5 ts_9 tb_9 tg_9 tz_9 bl_9 Tryz.underlying9 ts_12 tb_12 tg_12 tz_12 bl_12 Tryz.underlying12 ts_13 tb_13 tg_13 tz_13 bl_13 Tryz.underlying13 ts_19 tb_19 tg_19 tz_19 bl_19 Tryz.underlying19 ts_21 tb_21 tg_21 tz_21 bl_21 Tryz.underlying21 ts_22 tb_22 tg_22 tz_22 te_22 bl_22 Tryz.underlying22 ts_23 tb_23 tg_23 tz_23 te_23 bl_23 Tryz.underlying23 ts_24 tb_24 tg_24 tz_24 bl_24 Tryz.underlying24 ts_25 tb_25 tg_25 tz_25 bl_25 Tryz.underlying25 ts_26 tb_26 tg_26 tz_26 te_26 bl_26 Tryz.underlying26 ts_27 tb_27 tg_27 tz_27 bl_27 Tryz.underlying27 ts_28 tb_28 tg_28 tz_28 bl_28 Tryz.underlying28 ts_29 tb_29 tg_29 tz_29 te_29 bl_29 Tryz.underlying29 ts_30 tb_30 tg_30 tz_30 bl_30 Tryz.underlying30 ts_31 tb_31 tg_31 tz_31 bl_31 Tryz.underlying31 ts_32 tb_32 tg_32 tz_32 bl_32 Tryz.underlying32 ts_33 tb_33 tg_33 tz_33 bl_33 Tryz.underlying33 ts_34 tb_34 tg_34 tz_34 bl_34 Tryz.underlying34 ts_35 tb_35 tg_35 bl_35 Tryz.underlying35 ts_36 tb_36 tg_36 bl_36 Tryz.underlying36 ts_37 tb_37 tg_37 bl_37 Tryz.underlying37 ts_38 tb_38 tg_38 bl_38 Tryz.underlying38 ts_39 tb_39 tg_39 tz_39 te_39 bl_39 Tryz.underlying39 ts_40 tb_40 tg_40 tz_40 bl_40 Tryz.underlying40 ts_41 tb_41 tg_41 tz_41 bl_41 Tryz.underlying41 ts_42 tb_42 tg_42 bl_42 Tryz.underlying42 ts_43 tb_43 tg_43 tz_43 bl_43 Tryz.underlying43 ts_44 tb_44 tg_44 tz_44 bl_44 Tryz.underlying44 ts_45 tb_45 tg_45 tz_45 bl_45 Tryz.underlying45 ts_46 tb_46 tg_46 tz_46 bl_46 Tryz.underlying46 ts_47 tb_47 tg_47 tz_47 te_47 bl_47 Tryz.underlying47 ts_48 tb_48 tg_48 tz_48 bl_48 Tryz.underlying48 ts_49 tb_49 tg_49 tz_49 bl_49 Tryz.underlying49 ts_50 tb_50 tg_50 bl_50 Tryz.underlying50 ts_51 tb_51 tg_51 bl_51 Tryz.underlying51 ts_53 tb_53 tg_53 bl_53 Tryz.underlying53 ts_54 tb_54 tg_54 tz_54 bl_54 Tryz.underlying54 ts_55 tb_55 tg_55 tz_55 bl_55 Tryz.underlying55 ts_56 tb_56 tg_56 tz_56 tf_56 bl_56 Tryz.underlying56 ts_58 tb_58 tg_58 bl_58 Tryz.underlying58 ts_60 tb_60 tg_60 bl_60 Tryz.underlying60 ts_61 tb_61 tg_61 bl_61 Tryz.underlying61 ts_62 tb_62 tg_62 bl_62 Tryz.underlying62 ts_63 tb_63 tg_63 bl_63 Tryz.underlying63 ts_65 tb_65 tg_65 bl_65 Tryz.underlying65 ts_67 tb_67 tg_67 bl_67 Tryz.underlying67 ts_68 tb_68 tg_68 bl_68 Tryz.underlying68 ts_69 tb_69 tg_69 bl_69 Tryz.underlying69 ts_70 tb_70 tg_70 bl_70 Tryz.underlying70 ts_71 tb_71 tg_71 bl_71 Tryz.underlying71 ts_72 tb_72 tg_72 bl_72 Tryz.underlying72 ts_74 tb_74 tg_74 bl_74 Tryz.underlying74 ts_76 tb_76 tg_76 bl_76 Tryz.underlying76 ts_77 tb_77 tg_77 bl_77 Tryz.underlying77 ts_78 tb_78 tg_78 bl_78 Tryz.underlying78 ts_79 tb_79 tg_79 tz_79 te_79 bl_79 Tryz.underlying79 ts_80 tb_80 tg_80 tz_80 bl_80 Tryz.underlying80 ts_81 tb_81 tg_81 tz_81 bl_81 Tryz.underlying81 ts_83 tb_83 tg_83 bl_83 Tryz.underlying83 ts_84 tb_84 tg_84 bl_84 Tryz.underlying84 ts_85 tb_85 tg_85 bl_85 Tryz.underlying85 ts_86 tb_86 tg_86 bl_86 Tryz.underlying86 ts_87 tb_87 tg_87 tz_87 bl_87 Tryz.underlying87 ts_88 tb_88 tg_88 tz_88 bl_88 Tryz.underlying88 ts_89 tb_89 tg_89 tz_89 bl_89 Tryz.underlying89 ts_90 tb_90 tg_90 tz_90 bl_90 Tryz.underlying90 ts_91 tb_91 tg_91 bl_91 Tryz.underlying91 ts_92 tb_92 tg_92 bl_92 Tryz.underlying92 ts_93 tb_93 tg_93 bl_93 Tryz.underlying93 ts_94 tb_94 tg_94 bl_94 Tryz.underlying94 ts_95 tb_95 tg_95 bl_95 Tryz.underlying95 ts_96 tb_96 tg_96 bl_96 Tryz.underlying96 ts_97 tb_97 tg_97 tz_97 bl_97 pe_97 Tryz.underlying97 ts_98 tb_98 tg_98 tz_98 bl_98 Tryz.underlying98 ts_99 tb_99 tg_99 tz_99 bl_99 Tryz.underlying99 ts_100 tb_100 tg_100 bl_100 Tryz.underlying100 ts_101 tb_101 tg_101 tz_101 bl_101 pe_101 Tryz.underlying101 ts_102 tb_102 tg_102 bl_102 Tryz.underlying102 ts_103 tb_103 tg_103 bl_103 Tryz.underlying103 ts_104 tb_104 tg_104 bl_104 Tryz.underlying104 ts_105 tb_105 tg_105 bl_105 Tryz.underlying105 ts_107 tb_107 tg_107 bl_107 Tryz.underlying107 ts_108 tb_108 tg_108 bl_108 Tryz.underlying108 ts_109 tb_109 tg_109 bl_109 Tryz.underlying109 ts_110 tb_110 tg_110 tz_110 te_110 bl_110 Tryz.underlying110 ts_112 tb_112 tg_112 bl_112 Tryz.underlying112 ts_113 tb_113 tg_113 tz_113 bl_113 Tryz.underlying113 ts_114 tb_114 tg_114 tz_114 bl_114 Tryz.underlying114 ts_115 tb_115 tg_115 bl_115 Tryz.underlying115 ts_116 tb_116 tg_116 tz_116 te_116 bl_116 Tryz.underlying116 ts_118 tb_118 tg_118 bl_118 Tryz.underlying118 ts_119 tb_119 tg_119 bl_119 Tryz.underlying119 ts_120 tb_120 tg_120 tz_120 bl_120 Tryz.underlying120 ts_121 tb_121 tg_121 tz_121 bl_121 Tryz.underlying121 ts_123 tb_123 tg_123 bl_123 Tryz.underlying123 ts_124 tb_124 tg_124 bl_124 Tryz.underlying124 ts_125 tb_125 tg_125 bl_125 Tryz.underlying125 ts_126 tb_126 tg_126 bl_126 Tryz.underlying126 ts_127 tb_127 tg_127 bl_127 Tryz.underlying127 ts_128 tb_128 tg_128 bl_128 Tryz.underlying128 ts_129 tb_129 tg_129 tz_129 bl_129 Tryz.underlying129 ts_131 tb_131 tg_131 bl_131 Tryz.underlying131 ts_132 tb_132 tg_132 bl_132 Tryz.underlying132 ts_133 tb_133 tg_133 tz_133 te_133 bl_133 Tryz.underlying133 ts_134 tb_134 tg_134 bl_134 Tryz.underlying134 ts_135 tb_135 tg_135 bl_135 Tryz.underlying135 ts_136 tb_136 tg_136 bl_136 Tryz.underlying136 ts_137 tb_137 tg_137 bl_137 Tryz.underlying137 ts_138 tb_138 tg_138 bl_138 Tryz.underlying138 ts_139 tb_139 tg_139 bl_139 Tryz.underlying139 ts_140 tb_140 tg_140 bl_140 Tryz.underlying140 ts_141 tb_141 tg_141 bl_141 Tryz.underlying141 ts_142 tb_142 tg_142 tz_142 bl_142 Tryz.underlying142 ts_143 tb_143 tg_143 tz_143 dp_Add_143 dp_Fits_143 dp_Mul_143 dp_Neg_143 dp_Of_143 dp_Pow_143 dp_Quo_143 dp_Sub_143 bl_143 Tryz.underlying143 ts_144 tb_144 tg_144 tz_144 bl_144 Tryz.underlying144 ts_145 tb_145 tg_145 tz_145 dp_Run_145 bl_145 Tryz.underlying145 ts_146 tb_146 tg_146 bl_146 Tryz.underlying146 ts_147 tb_147 tg_147 tz_147 bl_147 Tryz.underlying147 ts_148 tb_148 tg_148 tz_148 bl_148 Tryz.underlying148 ts_149 tb_149 tg_149 tz_149 tf_149 bl_149 Tryz.underlying149 ts_150 tb_150 tg_150 tz_150 bl_150 Tryz.underlying150 ts_151 tb_151 tg_151 tz_151 bl_151 Tryz.underlying151 ts_152 tb_152 tg_152 bl_152 Tryz.underlying152 ts_153 tb_153 tg_153 bl_153 Tryz.underlying153 ts_155 tb_155 tg_155 bl_155 Tryz.underlying155 ts_156 tb_156 tg_156 tz_156 bl_156 Tryz.underlying156 ts_157 tb_157 tg_157 tz_157 dp_Add_157 dp_Fits_157 dp_Mul_157 dp_Neg_157 dp_Of_157 dp_Pow_157 dp_Quo_157 dp_Sub_157 bl_157 Tryz.underlying157 ts_158 tb_158 tg_158 tz_158 bl_158 Tryz.underlying158 ts_159 tb_159 tg_159 tz_159 dp_Run_159 bl_159 Tryz.underlying159 ts_160 tb_160 tg_160 bl_160 Tryz.underlying160 ts_161 tb_161 tg_161 tz_161 bl_161 Tryz.underlying161 ts_162 tb_162 tg_162 tz_162 bl_162 Tryz.underlying162 ts_163 tb_163 tg_163 bl_163 Tryz.underlying163 ts_164 tb_164 tg_164 bl_164 Tryz.underlying164 ts_165 tb_165 tg_165 bl_165 Tryz.underlying165 ts_166 tb_166 tg_166 bl_166 Tryz.underlying166 ts_167 tb_167 tg_167 bl_167 Tryz.underlying167 ts_168 tb_168 tg_168 bl_168 Tryz.underlying168 ts_169 tb_169 tg_169 tz_169 bl_169 Tryz.underlying169 ts_170 tb_170 tg_170 tz_170 bl_170 Tryz.underlying170 ts_171 tb_171 tg_171 bl_171 Tryz.underlying171 ts_172 tb_172 tg_172 bl_172 Tryz.underlying172 ts_173 tb_173 tg_173 bl_173 Tryz.underlying173 ts_174 tb_174 tg_174 bl_174 Tryz.underlying174 ts_175 tb_175 tg_175 tz_175 bl_175 pe_175 Tryz.underlying175 ts_176 tb_176 tg_176 tz_176 te_176 bl_176 Tryz.underlying176 ts_177 tb_177 tg_177 tz_177 bl_177 Tryz.underlying177 ts_178 tb_178 tg_178 tz_178 bl_178 li_178 Tryz.underlying178 ts_183 tb_183 tg_183 bl_183 Tryz.underlying183 ts_185 tb_185 tg_185 bl_185 Tryz.underlying185 ts_186 tb_186 tg_186 bl_186 Tryz.underlying186 ts_187 tb_187 tg_187 bl_187 Tryz.underlying187 ts_189 tb_189 tg_189 bl_189 Tryz.underlying189 ts_190 tb_190 tg_190 bl_190 Tryz.underlying190 ts_191 tb_191 tg_191 bl_191 Tryz.underlying191 ts_192 tb_192 tg_192 bl_192 Tryz.underlying192 ts_193 tb_193 tg_193 tz_193 bl_193 pe_193 Tryz.underlying193 ts_194 tb_194 tg_194 bl_194 Tryz.underlying194 ts_195 tb_195 tg_195 bl_195 Tryz.underlying195 ts_197 tb_197 tg_197 bl_197 Tryz.underlying197 ts_198 tb_198 tg_198 bl_198 Tryz.underlying198 ts_199 tb_199 tg_199 bl_199 Tryz.underlying199 ts_200 tb_200 tg_200 bl_200 Tryz.underlying200 ts_201 tb_201 tg_201 bl_201 Tryz.underlying201 ts_203 tb_203 tg_203 bl_203 Tryz.underlying203 ts_204 tb_204 tg_204 bl_204 Tryz.underlying204 ts_205 tb_205 tg_205 bl_205 Tryz.underlying205 ts_206 tb_206 tg_206 tz_206 bl_206 pe_206 Tryz.underlying206 ts_208 tb_208 tg_208 bl_208 Tryz.underlying208 ts_209 tb_209 tg_209 tz_209 te_209 bl_209 Tryz.underlying209 ts_211 tb_211 tg_211 bl_211 Tryz.underlying211 ts_213 tb_213 tg_213 bl_213 Tryz.underlying213 ts_214 tb_214 tg_214 bl_214 Tryz.underlying214 ts_215 tb_215 tg_215 bl_215 Tryz.underlying215 ts_216 tb_216 tg_216 bl_216 Tryz.underlying216 ts_217 tb_217 tg_217 bl_217 Tryz.underlying217 ts_218 tb_218 tg_218 bl_218 Tryz.underlying218 ts_219 tb_219 tg_219 bl_219 Tryz.underlying219 ts_220 tb_220 tg_220 bl_220 Tryz.underlying220 ts_221 tb_221 tg_221 bl_221 Tryz.underlying221 ts_222 tb_222 tg_222 bl_222 Tryz.underlying222 ts_223 tb_223 tg_223 bl_223 Tryz.underlying223 ts_225 tb_225 tg_225 bl_225 Tryz.underlying225 ts_226 tb_226 tg_226 tz_226 bl_226 Tryz.underlying226 ts_227 tb_227 tg_227 bl_227 Tryz.underlying227 ts_228 tb_228 tg_228 tz_228 bl_228 Tryz.underlying228 ts_229 tb_229 tg_229 tz_229 bl_229 Tryz.underlying229 ts_231 tb_231 tg_231 bl_231 Tryz.underlying231 ts_232 tb_232 tg_232 bl_232 Tryz.underlying232 ts_233 tb_233 tg_233 tz_233 bl_233 pe_233 Tryz.underlying233 ts_236 tb_236 tg_236 bl_236 Tryz.underlying236 ts_238 tb_238 tg_238 bl_238 Tryz.underlying238 ts_239 tb_239 tg_239 bl_239 Tryz.underlying239 ts_240 tb_240 tg_240 bl_240 Tryz.underlying240 ts_241 tb_241 tg_241 bl_241 Tryz.underlying241 ts_242 tb_242 tg_242 tz_242 bl_242 Tryz.underlying242 ts_243 tb_243 tg_243 tz_243 tf_243 bl_243 Tryz.underlying243 ts_244 tb_244 tg_244 bl_244 Tryz.underlying244 ts_245 tb_245 tg_245 bl_245 Tryz.underlying245 ts_246 tb_246 tg_246 bl_246 Tryz.underlying246 ts_248 tb_248 tg_248 bl_248 Tryz.underlying248 ts_249 tb_249 tg_249 bl_249 Tryz.underlying249 ts_250 tb_250 tg_250 bl_250 Tryz.underlying250 ts_251 tb_251 tg_251 bl_251 Tryz.underlying251 ts_252 tb_252 tg_252 bl_252 Tryz.underlying252 ts_253 tb_253 tg_253 bl_253 Tryz.underlying253 ts_254 tb_254 tg_254 tz_254 bl_254 Tryz.underlying254 ts_255 tb_255 tg_255 tz_255 bl_255 Tryz.underlying255 ts_256 tb_256 tg_256 tz_256 tf_256 bl_256 Tryz.underlying256 ts_257 tb_257 tg_257 tz_257 bl_257 Tryz.underlying257 ts_258 tb_258 tg_258 bl_258 Tryz.underlying258 ts_259 tb_259 tg_259 bl_259 Tryz.underlying259 ts_260 tb_260 tg_260 bl_260 Tryz.underlying260 ts_261 tb_261 tg_261 bl_261 Tryz.underlying261 ts_267 tb_267 tg_267 bl_267 Tryz.underlying267 Tryz.underlying234 sm_0 mk_0 sm_1 mk_1 sm_2 mk_2 sm_3 mk_3 sm_4 mk_4 sm_5 mk_5 sm_6 mk_6 sm_7 mk_7 sm_8 mk_8 sm_9 mk_9 sm_10 mk_10 sm_11 mk_11 sm_12 mk_12 sm_13 mk_13 sm_14 mk_14 sm_15 mk_15 sm_16 mk_16 sm_17 mk_17 sm_18 mk_18 sm_19 mk_19 sm_20 mk_20 sm_21 mk_21 sm_22 mk_22 sm_23 mk_23 sm_24 mk_24 sm_25 mk_25 sm_26 mk_26 sm_27 mk_27 sm_28 mk_28 sm_29 mk_29 sm_30 mk_30 sm_31 mk_31 sm_32 mk_32 sm_33 mk_33 sm_34 mk_34 sm_35 mk_35 sm_36 mk_36 sm_37 mk_37 sm_38 mk_38 sm_39 mk_39 sm_40 mk_40 sm_41 mk_41 sm_42 mk_42 sm_43 mk_43 sm_44 mk_44 sm_45 mk_45 sm_46 mk_46 sm_47 mk_47 sm_48 mk_48 sm_49 mk_49 sm_50 mk_50 sm_51 mk_51 sm_52 mk_52 sm_53 mk_53 sm_54 mk_54 sm_55 mk_55 sm_56 mk_56 sm_57 mk_57 sm_58 mk_58 sm_59 mk_59 sm_60 mk_60 sm_61 mk_61 sm_62 mk_62 sm_63 mk_63 sm_64 mk_64 sm_65 mk_65 sm_66 mk_66 sm_67 mk_67 sm_68 mk_68 sm_69 mk_69 sm_70 mk_70 sm_71 mk_71 sm_72 mk_72 sm_73 mk_73 sm_74 mk_74 sm_75 mk_75 sm_76 mk_76 sm_77 mk_77 sm_78 mk_78 sm_79 mk_79 sm_80 mk_80 sm_81 mk_81 sm_82 mk_82 sm_83 mk_83 sm_84 mk_84 sm_85 mk_85 sm_86 mk_86 sm_87 mk_87 sm_88 mk_88 sm_89 mk_89 sm_90 mk_90 sm_91 mk_91 sm_92 mk_92 sm_93 mk_93 sm_94 mk_94 sm_95 mk_95 sm_96 mk_96 sm_97 mk_97 sm_98 mk_98 sm_99 mk_99 sm_100 mk_100 sm_101 mk_101 sm_102 mk_102 sm_103 mk_103 sm_104 mk_104 sm_105 mk_105 sm_106 mk_106 sm_107 mk_107 sm_108 mk_108 sm_109 mk_109 sm_110 mk_110 sm_111 mk_111 sm_112 mk_112 sm_113 mk_113 sm_114 mk_114 sm_115 mk_115 sm_116 mk_116 sm_117 mk_117 sm_118 mk_118 sm_119 mk_119 sm_120 mk_120 sm_121 mk_121 sm_122 mk_122 sm_123 mk_123 sm_124 mk_124 sm_125 mk_125 sm_126 mk_126 sm_127 mk_127 sm_128 mk_128 sm_129 mk_129 sm_130 mk_130 sm_131 mk_131 sm_132 mk_132 sm_133 mk_133 sm_134 mk_134 sm_135 mk_135 sm_136 mk_136 sm_137 mk_137 sm_138 mk_138 sm_139 mk_139 sm_140 mk_140 sm_141 mk_141 sm_142 mk_142 sm_143 mk_143 sm_144 mk_144 sm_145 mk_145 sm_146 mk_146 sm_147 mk_147 sm_148 mk_148 sm_149 mk_149 sm_150 mk_150 sm_151 mk_151 sm_152 mk_152 sm_153 mk_153 sm_154 mk_154 sm_155 mk_155 sm_156 mk_156 sm_157 mk_157 sm_158 mk_158 sm_159 mk_159 sm_160 mk_160 sm_161 mk_161 sm_162 mk_162 sm_163 mk_163 sm_164 mk_164 sm_165 mk_165 sm_166 mk_166 sm_167 mk_167 sm_168 mk_168 sm_169 mk_169 sm_170 mk_170 sm_171 mk_171 sm_172 mk_172 sm_173 mk_173 sm_174 mk_174 sm_175 mk_175 sm_176 mk_176 sm_177 mk_177 sm_178 mk_178 sm_179 mk_179 sm_180 mk_180 sm_181 mk_181 sm_182 mk_182 sm_183 mk_183 sm_184 mk_184 sm_185 mk_185 sm_186 mk_186 sm_187 mk_187 sm_188 mk_188 sm_189 mk_189 sm_190 mk_190 sm_191 mk_191 sm_192 mk_192 sm_193 mk_193 sm_194 mk_194 sm_195 mk_195 sm_196 mk_196 sm_197 mk_197 sm_198 mk_198 sm_199 mk_199 sm_200 mk_200 sm_201 mk_201
end Go.Proofs.YtopmghclhgihfaaGreatDoor

set_option linter.unusedVariables false
set_option linter.unusedSimpArgs false
set_option maxRecDepth 10000
namespace Go.Ab

/-- Elements of 'e' cells, written as values. -/
def Elt {α : Type} (e : Nat) (enc : α → AV) : Prop :=
  0 < e ∧ ∀ x, ∃ cs, (enc x).cells? = some cs ∧ cs.length = e ∧ cs.all (·.flat1) = true ∧ enc x = if e = 1 then cs.headD .undef else .agg cs

def flatC {α : Type} (enc : α → AV) (l : List α) : List AV := l.flatMap fun x => ((enc x).cells?).getD []

section
variable {α : Type} {e : Nat} {enc : α → AV}
theorem cellsD_map {α : Type} (enc : α → AV) (l : List α) : (l.map enc).flatMap cellsD = flatC enc l := by simp only [List.flatMap_map, flatC]; rfl
theorem flatC_nil : flatC enc [] = [] := rfl
theorem flatC_snoc (l : List α) (x : α) : flatC enc (l ++ [x]) = flatC enc l ++ ((enc x).cells?).getD [] := by simp [flatC]
theorem flatC_length (he : Elt e enc) (l : List α) : (flatC enc l).length = l.length * e := by
  induction l with
  | nil => simp [flatC]
  | cons x l ih =>
    obtain ⟨cs, h1, h2, _⟩ := he.2 x
    simp only [flatC, List.flatMap_cons, h1, Option.getD_some, List.length_append, h2, List.length_cons, Nat.succ_mul] at ih ⊢
    omega
theorem flatC_flat (he : Elt e enc) (l : List α) : (flatC enc l).all (·.flat1) = true := by
  induction l with
  | nil => rfl
  | cons x l ih =>
    obtain ⟨cs, h1, h2, h3, _⟩ := he.2 x
    simp only [flatC, List.flatMap_cons, h1, Option.getD_some, List.all_append, h3, Bool.true_and] at ih ⊢
    exact ih
theorem chunk_flatC (he : Elt e enc) (l : List α) (rest : List AV) : chunk e l.length (flatC enc l ++ rest) = l.map enc := by
  induction l with
  | nil => rfl
  | cons x l ih =>
    obtain ⟨cs, h1, h2, h3, h4⟩ := he.2 x
    have hpos := he.1
    have hf : flatC enc (x :: l) = cs ++ flatC enc l := by simp [flatC, h1]
    simp only [hf, List.length_cons, chunk, List.map_cons, List.append_assoc]
    have hd : (cs ++ (flatC enc l ++ rest)).drop e = flatC enc l ++ rest := by rw [← h2]; simp
    have ht : (cs ++ (flatC enc l ++ rest)).take e = cs := by rw [← h2]; simp
    rw [hd, ih, ht, h4]
    congr 1
    by_cases h5 : e = 1
    · rw [if_pos h5, if_pos h5]
      cases cs with
      | nil => simp at h2; omega
      | cons c cs => rfl
    · rw [if_neg h5, if_neg h5]

/-- What an own slice that holds some elements is, as a value. -/
theorem frz1_flatC (he : Elt e enc) {h : Heap} {b : Nat} {l : List α} (hb : h b = some (flatC enc l)) : frz1 h (.own b 0 l.length e) = .sl e (l.map enc) := by
  have hc : cut (flatC enc l) 0 (l.length * e) = flatC enc l := by
    unfold cut
    rw [List.drop_zero, List.take_of_length_le (by rw [flatC_length he]; exact Nat.le_refl _)]
  simp only [frz1, hb]
  rw [if_pos ⟨by rw [flatC_length he]; omega, he.1, by rw [hc]; exact flatC_flat he l⟩, hc]
  have := chunk_flatC he l []
  rw [List.append_nil] at this
  rw [this]

/-- A slice that is nil, or an own one that holds some elements. -/
def Acc (e : Nat) (enc : α → AV) (st : ASt) (v : AV) (l : List α) : Prop := (l = [] ∧ v = .nilsl) ∨ ∃ b, v = .own b 0 l.length e ∧ st.h b = some (flatC enc l) ∧ b < st.n

theorem Acc.ret (he : Elt e enc) {st : ASt} {t : Nat} {l : List α} (h : Acc e enc st (st.τ t) l) : Ret [t] (.sl e (l.map enc)) st := by
  unfold Ret
  simp only [resV]
  rcases h with ⟨rfl, h⟩ | ⟨b, h1, h2, _⟩
  · rw [h]; exact AV.le_nil e
  · rw [h1]; exact AV.le_of_eq (frz1_flatC he h2)
end

theorem take_snoc {α : Type} {l : List α} {i : Nat} (h : i < l.length) : l.take (i + 1) = l.take i ++ [l[i]] := by
  rw [List.take_succ_eq_append_getElem h]
end Go.Ab

set_option linter.unusedVariables false
set_option linter.unusedSimpArgs false
set_option maxRecDepth 10000
namespace Go.Ab
open Go.RowKit

theorem PRel.of_M0 {I : Imm} {x : AV} {v : Value} (h : VRel I M0 x v) : PRel I x v := by
  induction h with
  | pure x v h => exact h
  | own b off len e B sz A cap hm => cases hm
  | ownG b off len e A cap hm => cases hm
  | ptr b off A sz hm => cases hm
  | ptrG b off A hm => cases hm
  | agg cs vs h1 _ ih => exact .agg cs vs h1 ih
  | tup cs vs h1 _ ih => exact .tup cs vs h1 ih
  | func f cap vs h1 _ ih => exact .func f cap vs h1 ih
  | ifc t x v _ ih => exact .ifc t x v ih
  | tptr b k t B hm => cases hm
  | tptrG b k t A hm => cases hm
  | bsl b len t B k cap hm => cases hm
  | bslG b len t A cap hm => cases hm
  | bptr b t B k hm => cases hm
  | bptrG b t A hm => cases hm

def LeL (a b : List AV) : Prop := a.length = b.length ∧ ∀ (i : Nat) x y, a[i]? = some x → b[i]? = some y → x.le y
theorem LeL.nil : LeL [] [] := ⟨rfl, fun i x y h => by simp at h⟩
theorem LeL.cons {x y : AV} {a b : List AV} (h : x.le y) (hr : LeL a b) : LeL (x :: a) (y :: b) := ⟨by simp [hr.1], fun i u v hu hv => by
  cases i with
  | zero => simp at hu hv; subst hu; subst hv; exact h
  | succ i => simp at hu hv; exact hr.2 i u v hu hv⟩
theorem LeL.refl (a : List AV) : LeL a a := ⟨rfl, fun i x y hx hy => by rw [hx] at hy; cases hy; exact AV.le_refl x⟩

theorem PCalls.args_le {P : Program} {f : FuncId} {a b : List AV} {v : AV} (h : PCalls P f b v) (hle : LeL a b) : PCalls P f a v :=
  ⟨h.1, fun I w cargs hi ha => h.2 I w cargs hi ⟨by rw [ha.1, hle.1], fun i y u hy hu => (by
    have hi : i < a.length := by have := (List.getElem?_eq_some_iff.1 hy).1; rw [hle.1]; exact this
    exact .pure _ _ (hle.2 i a[i] y (List.getElem?_eq_getElem hi) hy I u (PRel.of_M0 (ha.2 i a[i] u (List.getElem?_eq_getElem hi) hu))))⟩⟩

theorem AV.le_agg' {a b : List AV} (h : LeL a b) : (AV.agg a).le (.agg b) := AV.le_agg h.1 h.2
theorem AV.le_tup' {a b : List AV} (h : LeL a b) : (AV.tup a).le (.tup b) := AV.le_tup h.1 h.2

/-- Slices, element by element. -/
theorem AV.le_sl {e : Nat} {a b : List AV} (hl : a.length = b.length) (h : ∀ (i : Nat) x y, a[i]? = some x → b[i]? = some y → ∃ cs ds, x.cells? = some cs ∧ y.cells? = some ds ∧ LeL cs ds ∧ ds.all (·.single) = true) : (AV.sl e a).le (.sl e b) := fun I v hv => by
  cases hv with
  | sl0 e a' cap =>
    cases b with
    | nil => exact .sl0 _ _ _
    | cons y b => simp at hl
  | sl e l A n cap c el fr h1 h2 h3 h4 h5 h6 h7 h8 =>
    refine .sl _ _ A n cap c el fr (fun hb => h1 (by rw [hb] at hl; exact List.length_eq_zero_iff.1 hl)) (by omega) h3 h4 h5 h6 (fun i y hy => ?_) (fun i y ds j u w hy hds hu hw => ?_)
    · have hi : i < a.length := by have := (List.getElem?_eq_some_iff.1 hy).1; omega
      obtain ⟨cs, ds, g1, g2, g3, g4⟩ := h i a[i] y (List.getElem?_eq_getElem hi) hy
      obtain ⟨cs', k1, k2, k3⟩ := h7 i a[i] (List.getElem?_eq_getElem hi)
      rw [g1] at k1; cases k1
      exact ⟨ds, g2, by rw [← g3.1]; exact k2, g4⟩
    · have hi : i < a.length := by have := (List.getElem?_eq_some_iff.1 hy).1; omega
      obtain ⟨cs, ds', g1, g2, g3, g4⟩ := h i a[i] y (List.getElem?_eq_getElem hi) hy
      rw [g2] at hds; cases hds
      have hj : j < cs.length := by have := (List.getElem?_eq_some_iff.1 hu).1; rw [g3.1]; exact this
      exact g3.2 j cs[j] u (List.getElem?_eq_getElem hj) hu I w (h8 i a[i] cs j cs[j] w (List.getElem?_eq_getElem hi) g1 (List.getElem?_eq_getElem hj) hw)
end Go.Ab
