/- The abstract machine's run is the machine's. -/
import Derived.Test.YtmcejlhkohbdfaaAb5
set_option linter.unusedVariables false
set_option linter.unusedSimpArgs false
namespace Go.Ab
open Go.RowKit

structure FRel (nt : Nat) (I : Imm) (M : Mp) (st : ASt) (a : Act) (w : World) : Prop where
  defers : a.defers = []
  size : a.tmps.size = nt
  tmps : ∀ t, VRel I M (st.τ t) (a.tmps.getD t undef)
  heap : HRel I M st.h st.n w

/-! ### Own slices turned to values -/
theorem flat1_rel {I : Imm} {M : Mp} {y : AV} {v : Value} (hf : y.flat1 = true) (h : VRel I M y v) : PRel I y v := by
  cases h with
  | pure _ _ h => exact h
  | _ => simp [AV.flat1] at hf
theorem flat1_single {y : AV} (hf : y.flat1 = true) : y.single = true := by
  cases y <;> first | rfl | simp [AV.flat1] at hf

theorem chunk_length (e : Nat) : ∀ (n : Nat) (cs : List AV), (chunk e n cs).length = n
  | 0, _ => rfl
  | n + 1, cs => by simp [chunk, chunk_length e n]
theorem chunk_get {e : Nat} (he : 0 < e) : ∀ (n : Nat) (cs : List AV), n * e ≤ cs.length → cs.all (·.flat1) = true → ∀ (i : Nat) (x : AV), (chunk e n cs)[i]? = some x →
    ∃ cs', x.cells? = some cs' ∧ cs'.length = e ∧ cs'.all (·.single) = true ∧ ∀ (j : Nat) (y : AV), cs'[j]? = some y → cs[i * e + j]? = some y
  | 0, cs, _, _, i, x, h => by simp [chunk] at h
  | n + 1, cs, hl, hf, i, x, h => by
    rw [Nat.succ_mul] at hl
    simp only [chunk] at h
    cases i with
    | zero =>
      simp only [List.getElem?_cons_zero, Option.some.injEq] at h
      by_cases he1 : e = 1
      · rw [if_pos he1] at h
        subst he1
        cases cs with
        | nil => simp at hl
        | cons c cs =>
          simp only [List.headD_cons] at h
          subst h
          have hc : c.flat1 = true := (List.all_eq_true.1 hf) c (by simp)
          have hcs := flat1_single hc
          refine ⟨[c], by cases c <;> first | rfl | simp [AV.single] at hcs, rfl, by simp [hcs], fun j y hy => ?_⟩
          cases j with
          | zero => simpa using hy
          | succ j => simp at hy
      · rw [if_neg he1] at h
        subst h
        refine ⟨cs.take e, rfl, by simp; omega, ?_, fun j y hy => ?_⟩
        · rw [List.all_eq_true] at hf ⊢
          exact fun y hy => flat1_single (hf y (List.mem_of_mem_take hy))
        · rw [List.getElem?_take] at hy
          split at hy
          · simpa using hy
          · cases hy
    | succ i =>
      simp only [List.getElem?_cons_succ] at h
      obtain ⟨cs', h1, h2, h3, h4⟩ := chunk_get he n (cs.drop e) (by simp; omega) (by rw [List.all_eq_true] at hf ⊢; exact fun y hy => hf y (List.mem_of_mem_drop hy)) i x h
      refine ⟨cs', h1, h2, h3, fun j y hy => ?_⟩
      have := h4 j y hy
      rw [List.getElem?_drop] at this
      rw [← this, Nat.succ_mul]
      congr 1
      omega

/-- An own slice's blocks, taken as only read. -/
theorem frz1_rel {I J : Imm} {M : Mp} {h : Heap} {n : Nat} {w : World} (H : HRel I M h n w) (hIJ : ILe I J) {x : AV} {v : Value} (hx : VRel I M x v)
    (hJ : ∀ i ∈ ids1 x, ∀ A sz, M i = .live A sz → J A.block = w.heap[A.block]?) : PRel J (frz1 h x) v := by
  cases x with
  | own b off len e =>
    simp only [frz1]
    split
    case h_2 => exact .undef _
    rename_i blk hb
    split
    case isFalse => exact .undef _
    rename_i hc
    obtain ⟨c1, c2, c3⟩ := hc
    obtain ⟨A, cap, rfl, hA, hcap, hm⟩ := hx.own_inv
    by_cases hl0 : len = 0
    · subst hl0; exact .sl0 _ _ _
    rcases hm with hm | ⟨B, sz, hm, hB⟩
    · have := H.no b (fun A sz h => by rw [hm] at h; cases h)
      rw [hb] at this; cases this
    obtain ⟨g1, g2, blk', c, el, g3, g4, g5, g6, g7, g8⟩ := H.live b B sz hm
    rw [hb] at g3
    cases g3
    rcases hB with hB | ⟨rfl, hB⟩
    · omega
    have hcl : (cut blk off (len * e)).length = len * e := by simp [cut]; omega
    have hcg : ∀ j y, (cut blk off (len * e))[j]? = some y → blk[off + j]? = some y := fun j y hy => by
      unfold cut at hy
      rw [List.getElem?_take] at hy
      split at hy
      · rw [List.getElem?_drop] at hy; exact hy
      · cases hy
    have hle : len * e ≤ cap * e := Nat.mul_le_mul_right _ hcap
    refine .sl e _ ⟨B.block, B.off + off, none⟩ len cap c el (0, 0) (fun h0 => hl0 (by have := congrArg List.length h0; rw [chunk_length] at this; exact this)) (chunk_length _ _ _).symm hcap rfl
      (by rw [hJ b (by simp [ids1]) B sz hm]; exact g4) (by dsimp only; omega) (fun i x hx' => ?_) (fun i x cs j y u hx' hcs hy hu => ?_)
    · obtain ⟨cs', h1, h2, h3, _⟩ := chunk_get c2 len _ (by rw [hcl]; exact Nat.le_refl _) c3 i x hx'
      exact ⟨cs', h1, h2, h3⟩
    · obtain ⟨cs', h1, h2, h3, h4⟩ := chunk_get c2 len _ (by rw [hcl]; exact Nat.le_refl _) c3 i x hx'
      rw [hcs] at h1
      cases h1
      have h5 := h4 j y hy
      have h6 := hcg _ _ h5
      have hfl : y.flat1 = true := (List.all_eq_true.1 c3) y (List.mem_of_getElem? h5)
      exact (flat1_rel hfl (g8 _ y u h6 (by rw [← hu]; congr 1; dsimp only; omega))).mono hIJ
  | int k n => exact (flat1_rel rfl hx).mono hIJ
  | bool b => exact (flat1_rel rfl hx).mono hIJ
  | str s => exact (flat1_rel rfl hx).mono hIJ
  | nilsl => exact (flat1_rel rfl hx).mono hIJ
  | sl e l => exact (flat1_rel rfl hx).mono hIJ
  | pp cs => exact (flat1_rel rfl hx).mono hIJ
  | nilp => exact (flat1_rel rfl hx).mono hIJ
  | _ => exact .undef _

theorem frz2_rel {I J : Imm} {M : Mp} {h : Heap} {n : Nat} {w : World} (H : HRel I M h n w) (hIJ : ILe I J) {x : AV} {v : Value} (hx : VRel I M x v)
    (hJ : ∀ i ∈ ids2 x, ∀ A sz, M i = .live A sz → J A.block = w.heap[A.block]?) : PRel J (frz2 h x) v := by
  cases x with
  | agg cs =>
    obtain ⟨vs, rfl, hs, hv⟩ := hx.agg_inv
    refine .agg _ _ (by simpa using hs) fun i y u hy hu => ?_
    simp only [List.getElem?_map, Option.map_eq_some_iff] at hy
    obtain ⟨z, hz, rfl⟩ := hy
    exact frz1_rel H hIJ (hv i z u hz hu) fun j hj => hJ j (by simp only [ids2, List.mem_flatMap]; exact ⟨z, List.mem_of_getElem? hz, hj⟩)
  | _ => exact frz1_rel H hIJ hx hJ

theorem scal1_rel {I J : Imm} {x : AV} {v : Value} (hs : x.scal1 = true) (h : PRel I x v) : PRel J x v := by
  cases h <;> first | exact .int _ _ | exact .bool _ | exact .str _ | simp [AV.scal1] at hs
theorem scal2_rel {I J : Imm} {x : AV} {v : Value} (hs : x.scal2 = true) (h : PRel I x v) : PRel J x v := by
  cases x with
  | agg cs =>
    cases h with
    | agg _ vs h1 h2 => exact .agg _ _ h1 fun i y u hy hu => scal1_rel ((List.all_eq_true.1 hs) y (List.mem_of_getElem? hy)) (h2 i y u hy hu)
  | _ => exact scal1_rel hs h
theorem scalar_rel {I J : Imm} {x : AV} {v : Value} (hs : x.scalar = true) (h : PRel I x v) : PRel J x v := by
  cases x with
  | tup cs =>
    cases h with
    | tup _ vs h1 h2 => exact .tup _ _ h1 fun i y u hy hu => scal2_rel ((List.all_eq_true.1 hs) y (List.mem_of_getElem? hy)) (h2 i y u hy hu)
  | _ => exact scal2_rel hs h

theorem updH_ids (ids : List Nat) (h : Heap) (i : Nat) : updH h (ids.map (·, none)) i = if i ∈ ids then none else h i := by
  induction ids generalizing h with
  | nil => simp [updH]
  | cons j r ih =>
    simp only [List.map_cons, updH, ih]
    by_cases h1 : i ∈ r
    · simp [h1]
    · by_cases h2 : i = j <;> simp [h1, h2]

/-- How a call with values alone is used, in the middle of a run. -/
theorem pcall_use {P : Program} {f : FuncId} {args : List AV} {cargs : Array Value} {v : AV} {I : Imm} {M : Mp} {h : Heap} {n : Nat} {w : World} (H : HRel I M h n w) (hargs : AllRel I M args cargs) (hP : PCalls P f (args.map (frz2 h)) v) :
    Calls P f cargs w fun e w' => ∃ cv I' M', e = .returned cv ∧ VRel I' M' v cv ∧ HRel I' M' (updH h (callOut v (args.flatMap ids2)).up) n w' ∧ Ext I M w I' M' w' ∧ (∀ j, M j = MS.fresh → M' j = MS.fresh) := by
  classical
  have himmlt : ∀ b o, I b = some o → b < w.heap.size := fun b o hb => by
    have := H.imm b o hb
    rcases Nat.lt_or_ge b w.heap.size with h | h
    · exact h
    · simp [Array.getElem?_eq_none h] at this
  let ids := args.flatMap ids2
  let J : Imm := fun b => if ∃ i ∈ ids, ∃ A sz, M i = .live A sz ∧ A.block = b then w.heap[b]? else I b
  have hIJ : ILe I J := fun b o hb => by
    show (if _ then _ else _) = _
    split
    · exact H.imm b o hb
    · exact hb
  have hJimm : ∀ b o, J b = some o → w.heap[b]? = some o := fun b o hb => by
    by_cases hc : ∃ i ∈ ids, ∃ A sz, M i = .live A sz ∧ A.block = b
    · have : J b = w.heap[b]? := if_pos hc
      rw [← this]; exact hb
    · have : J b = I b := if_neg hc
      rw [this] at hb; exact H.imm b o hb
  have hJids : ∀ i ∈ ids, ∀ A sz, M i = .live A sz → J A.block = w.heap[A.block]? := fun i hi A sz hm => if_pos ⟨i, hi, A, sz, hm, rfl⟩
  have hJargs : AllRel J M0 (args.map (frz2 h)) cargs := by
    refine ⟨by rw [List.length_map]; exact hargs.1, fun i x u hx hu => ?_⟩
    simp only [List.getElem?_map, Option.map_eq_some_iff] at hx
    obtain ⟨z, hz, rfl⟩ := hx
    exact .pure _ _ (frz2_rel H hIJ (hargs.2 i z u hz hu) fun j hj => hJids j (List.mem_flatMap.2 ⟨z, List.mem_of_getElem? hz, hj⟩))
  refine (hP.2 J w cargs hJimm hJargs).mono fun e w' ⟨cv, I', he, hle, himm, hv, hb, hnew⟩ => ?_
  have hkeep : ∀ b, b < w.heap.size → w'.heap[b]? = w.heap[b]? := fun b hb' => hb.block b hb'
  by_cases hsc : v.scalar = true
  · have hup : (callOut v (args.flatMap ids2)).up = [] := by simp [callOut, hsc]
    rw [hup]
    refine ⟨cv, I, M, he, .pure _ _ (scalar_rel hsc hv), ⟨fun b o hbo => ?_, H.fr, H.no, fun i A sz hm => ?_, H.inj⟩, ⟨hb.os, hb.tape, hb.output, hb.size, fun b hb' _ => hkeep b hb', .refl _, .refl _, fun _ _ h _ => h, fun _ h => .inl h⟩, fun _ h => h⟩
    · rw [hkeep b (himmlt b o hbo)]; exact H.imm b o hbo
    · obtain ⟨g1, g2, b', c', el', g3, g4, g5⟩ := H.live i A sz hm
      exact ⟨g1, g2, b', c', el', g3, by rw [hkeep _ (Live.lt H ⟨i, A, sz, hm, rfl⟩)]; exact g4, g5⟩
  · have hup : (callOut v (args.flatMap ids2)).up = ids.map (·, none) := by simp [callOut, hsc, ids]
    rw [hup]
    let M' : Mp := fun i => match M i with | .live A sz => if i ∈ ids then .gone else .live A sz | s => s
    have hM'live : ∀ i A sz, M' i = .live A sz → M i = .live A sz ∧ i ∉ ids := fun i A sz hm => by
      simp only [M'] at hm
      split at hm
      · split at hm
        · cases hm
        · rename_i h1 h2; cases hm; exact ⟨h1, h2⟩
      · rename_i hne; exact absurd hm (hne A sz)
    have hMM : MLe M M' := fun i => by
      cases hmi : M i with
      | fresh => trivial
      | gone => simp only [M', hmi]
      | live A sz =>
        by_cases hi : i ∈ ids
        · simp only [M', hmi, if_pos hi]; exact .inr trivial
        · simp only [M', hmi, if_neg hi]; exact .inl trivial
    have hII : ILe I I' := hIJ.trans hle
    have hfr : ∀ j, M j = MS.fresh → M' j = MS.fresh := fun j hj => by simp only [M', hj]
    refine ⟨cv, I', M', he, .pure _ _ hv, ⟨himm, fun i hi => hfr i (H.fr i hi), fun i hi => ?_, fun i A sz hm => ?_, fun i j A sz B sz' hi hj hbb => H.inj i j A sz B sz' (hM'live _ _ _ hi).1 (hM'live _ _ _ hj).1 hbb⟩,
      ⟨hb.os, hb.tape, hb.output, hb.size, fun b hb' _ => hkeep b hb', hII, hMM, fun b hb' hI hn => ?_, fun b ⟨i, A, sz, hm, hbb⟩ => .inl ⟨i, A, sz, (hM'live _ _ _ hm).1, hbb⟩⟩, hfr⟩
    · rw [updH_ids]
      by_cases hid : i ∈ ids
      · rw [if_pos hid]
      · rw [if_neg hid]
        refine H.no i fun A sz hm => hi A sz ?_
        simp only [M', hm, if_neg hid]
    · obtain ⟨hm1, hm2⟩ := hM'live i A sz hm
      obtain ⟨g1, g2, b', c', el', g3, g4, g5, g6, g7, g8⟩ := H.live i A sz hm1
      have hlt := Live.lt H ⟨i, A, sz, hm1, rfl⟩
      refine ⟨g1, hnew A.block hlt ?_, b', c', el', by rw [updH_ids, if_neg hm2]; exact g3, by rw [hkeep _ hlt]; exact g4, g5, g6, g7, fun j x u hx hu => (g8 j x u hx hu).mono hII hMM⟩
      have : J A.block = I A.block := if_neg (by
        rintro ⟨k, hk, B, sz', hB, hbb⟩
        have := H.inj k i B sz' A sz hB hm1 hbb
        subst this
        exact hm2 hk)
      rw [this]; exact g2
    · refine hnew b hb' ?_
      have : J b = I b := if_neg (by
        rintro ⟨k, hk, B, sz', hB, hbb⟩
        exact hn ⟨k, B, sz', hB, hbb⟩)
      rw [this]; exact hI

/-- How a call with values alone is used, in the middle of a run; own slices among its arguments are only read from then on. -/
theorem pcall_freeze {P : Program} {f : FuncId} {args : List AV} {cargs : Array Value} {v : AV} {I : Imm} {M : Mp} {h : Heap} {n : Nat} {w : World} (H : HRel I M h n w) (hargs : AllRel I M args cargs) (hP : PCalls P f (args.map (frz2 h)) v) :
    Calls P f cargs w fun e w' => ∃ cv I' M', e = .returned cv ∧ VRel I' M' v cv ∧ HRel I' M' (updH h ((args.flatMap ids2).map (·, none))) n w' ∧ Ext I M w I' M' w' ∧ (∀ j, M j = MS.fresh → M' j = MS.fresh) ∧ (∀ x u, VRel I M x u → VRel I' M' (frzT (args.flatMap ids2) h x) u) := by
  classical
  have himmlt : ∀ b o, I b = some o → b < w.heap.size := fun b o hb => by
    have := H.imm b o hb
    rcases Nat.lt_or_ge b w.heap.size with h | h
    · exact h
    · simp [Array.getElem?_eq_none h] at this
  let ids := args.flatMap ids2
  let J : Imm := fun b => if ∃ i ∈ ids, ∃ A sz, M i = .live A sz ∧ A.block = b then w.heap[b]? else I b
  have hIJ : ILe I J := fun b o hb => by
    show (if _ then _ else _) = _
    split
    · exact H.imm b o hb
    · exact hb
  have hJimm : ∀ b o, J b = some o → w.heap[b]? = some o := fun b o hb => by
    by_cases hc : ∃ i ∈ ids, ∃ A sz, M i = .live A sz ∧ A.block = b
    · have : J b = w.heap[b]? := if_pos hc
      rw [← this]; exact hb
    · have : J b = I b := if_neg hc
      rw [this] at hb; exact H.imm b o hb
  have hJids : ∀ i ∈ ids, ∀ A sz, M i = .live A sz → J A.block = w.heap[A.block]? := fun i hi A sz hm => if_pos ⟨i, hi, A, sz, hm, rfl⟩
  have hJargs : AllRel J M0 (args.map (frz2 h)) cargs := by
    refine ⟨by rw [List.length_map]; exact hargs.1, fun i x u hx hu => ?_⟩
    simp only [List.getElem?_map, Option.map_eq_some_iff] at hx
    obtain ⟨z, hz, rfl⟩ := hx
    exact .pure _ _ (frz2_rel H hIJ (hargs.2 i z u hz hu) fun j hj => hJids j (List.mem_flatMap.2 ⟨z, List.mem_of_getElem? hz, hj⟩))
  refine (hP.2 J w cargs hJimm hJargs).mono fun e w' ⟨cv, I', he, hle, himm, hv, hb, hnew⟩ => ?_
  have hkeep : ∀ b, b < w.heap.size → w'.heap[b]? = w.heap[b]? := fun b hb' => hb.block b hb'
  let M' : Mp := fun i => match M i with | .live A sz => if i ∈ ids then .gone else .live A sz | s => s
  have hM'live : ∀ i A sz, M' i = .live A sz → M i = .live A sz ∧ i ∉ ids := fun i A sz hm => by
    simp only [M'] at hm
    split at hm
    · split at hm
      · cases hm
      · rename_i h1 h2; cases hm; exact ⟨h1, h2⟩
    · rename_i hne; exact absurd hm (hne A sz)
  have hMM : MLe M M' := fun i => by
    cases hmi : M i with
    | fresh => trivial
    | gone => simp only [M', hmi]
    | live A sz =>
      by_cases hi : i ∈ ids
      · simp only [M', hmi, if_pos hi]; exact .inr trivial
      · simp only [M', hmi, if_neg hi]; exact .inl trivial
  have hII : ILe I I' := hIJ.trans hle
  have hfr : ∀ j, M j = MS.fresh → M' j = MS.fresh := fun j hj => by simp only [M', hj]
  refine ⟨cv, I', M', he, .pure _ _ hv, ⟨himm, fun i hi => hfr i (H.fr i hi), fun i hi => ?_, fun i A sz hm => ?_, fun i j A sz B sz' hi hj hbb => H.inj i j A sz B sz' (hM'live _ _ _ hi).1 (hM'live _ _ _ hj).1 hbb⟩,
    ⟨hb.os, hb.tape, hb.output, hb.size, fun b hb' _ => hkeep b hb', hII, hMM, fun b hb' hI hn => ?_, fun b ⟨i, A, sz, hm, hbb⟩ => .inl ⟨i, A, sz, (hM'live _ _ _ hm).1, hbb⟩⟩, hfr, fun x u hx => ?_⟩
  · rw [updH_ids]
    by_cases hid : i ∈ ids
    · rw [if_pos hid]
    · rw [if_neg hid]
      refine H.no i fun A sz hm => hi A sz ?_
      simp only [M', hm, if_neg hid]
  · obtain ⟨hm1, hm2⟩ := hM'live i A sz hm
    obtain ⟨g1, g2, b', c', el', g3, g4, g5, g6, g7, g8⟩ := H.live i A sz hm1
    have hlt := Live.lt H ⟨i, A, sz, hm1, rfl⟩
    refine ⟨g1, hnew A.block hlt ?_, b', c', el', by rw [updH_ids, if_neg hm2]; exact g3, by rw [hkeep _ hlt]; exact g4, g5, g6, g7, fun j x u hx hu => (g8 j x u hx hu).mono hII hMM⟩
    have : J A.block = I A.block := if_neg (by
      rintro ⟨k, hk, B, sz', hB, hbb⟩
      have := H.inj k i B sz' A sz hB hm1 hbb
      subst this
      exact hm2 hk)
    rw [this]; exact g2
  · refine hnew b hb' ?_
    have : J b = I b := if_neg (by
      rintro ⟨k, hk, B, sz', hB, hbb⟩
      exact hn ⟨k, B, sz', hB, hbb⟩)
    rw [this]; exact hI
  · have hI' : ∀ i ∈ ids, ∀ A sz, M i = .live A sz → I' A.block = w.heap[A.block]? := fun i hi A sz hm => by
      have h1 := hJids i hi A sz hm
      have hlt := Live.lt H ⟨i, A, sz, hm, rfl⟩
      rw [Array.getElem?_eq_getElem hlt] at h1 ⊢
      exact hle _ _ h1
    have one : ∀ x u, VRel I M x u → VRel I' M' (frzT1 ids h x) u := fun x u hx => by
      cases x with
      | own b off len e =>
        simp only [frzT1]
        by_cases hb' : b ∈ ids
        · rw [if_pos hb']
          exact .pure _ _ (frz1_rel H hII hx fun i hi => (by simp only [ids1, List.mem_singleton] at hi; subst hi; exact hI' i hb'))
        · rw [if_neg hb']; exact hx.mono hII hMM
      | _ => exact hx.mono hII hMM
    cases x with
    | agg cs =>
      obtain ⟨vs, rfl, hs, hv'⟩ := hx.agg_inv
      refine .agg _ _ (by simpa using hs) fun i y u hy hu => ?_
      simp only [List.getElem?_map, Option.map_eq_some_iff] at hy
      obtain ⟨z, hz, rfl⟩ := hy
      exact one _ _ (hv' i z u hz hu)
    | _ => exact one _ _ hx

section
variable {P : Program} {pa : List Tmp} {nt : Nat} {I : Imm} {M : Mp} {st : ASt} {a : Act} {w : World} {ops : Array Oper}

theorem put_rel {I' : Imm} {M' : Mp} (hI : ILe I I') (hM : MLe M M') (hsz : a.tmps.size = nt) (ht : ∀ t, VRel I M (st.τ t) (a.tmps.getD t undef)) {d : Option Tmp} (hd : ∀ t : Nat, d = some t → t < nt) {x : AV} {v : Value} (hv : VRel I' M' x v) :
    (a.put d v).tmps.size = nt ∧ (a.put d v).defers = a.defers ∧ ∀ t, VRel I' M' (putT st.τ d x t) ((a.put d v).tmps.getD t undef) := by
  cases d with
  | none => exact ⟨hsz, rfl, fun t => (ht t).mono hI hM⟩
  | some d =>
    have hd' := hd d rfl
    refine ⟨by simp [Act.put, hsz], rfl, fun t => ?_⟩
    simp only [putT, Act.put]
    by_cases e : t = d
    · subst e
      rw [if_pos rfl]
      have : t < a.tmps.size := by omega
      simp [Array.getD, this]
      exact hv
    · rw [if_neg e]
      have := (ht t).mono hI hM
      simp only [Array.getD_eq_getD_getElem?] at this ⊢
      rw [Array.getElem?_setIfInBounds_ne (fun h => e h.symm)]
      exact this

theorem awant_sound {o : Oper} (hsz : a.tmps.size = nt) (ht : ∀ t, VRel I M (st.τ t) (a.tmps.getD t undef)) (hops : ∀ (i : Nat) (o : Oper) (t : Nat), ops[i]? = some o → o.dst = some t → t < nt) {b : Bool} (h : awant ops o st.τ = some b) :
    Region.wanted o (yielded ops a.tmps) = b := by
  unfold awant at h
  unfold Region.wanted
  split at h
  · rename_i hg; simp only [hg]; cases h; rfl
  · rename_i g want hg
    simp only [hg]
    split at h
    · rename_i d hd
      have hdn : d < nt := by
        cases ho : ops[g]? with
        | none => simp [ho] at hd
        | some o' => simp only [ho, Option.bind_some] at hd; exact hops g o' d ho hd
      have hlt : (d : Nat) < a.tmps.size := by rw [hsz]; exact hdn
      have h1 := ht d
      have hget : a.tmps[d]? = some (a.tmps.getD d undef) := by simp [Array.getD, hlt]
      unfold yielded
      rw [hd]
      simp only [Option.bind_some, hget]
      split at h
      · rename_i c hc
        rw [hc] at h1
        rw [h1.bool_inv]
        cases h
        cases c <;> cases want <;> rfl
      · rename_i vs hc
        rw [hc] at h1
        obtain ⟨us, hu, _⟩ := h1.tup_inv
        rw [hu]
        cases h
        rfl
      · cases h
    · rename_i hd
      unfold yielded
      rw [hd]
      cases h
      rfl

/-- An outcome, carried out. -/
theorem res_sound {slot : Nat} {o : Oper} {out : Out} (F : FRel nt I M st a w) (hops : ∀ (i : Nat) (o : Oper) (t : Nat), ops[i]? = some o → o.dst = some t → t < nt) {i : Nat} (hi : ops[i]? = some o) (hs : M slot = .fresh) (hn : slot < st.n)
    (hr : Res P pa ops slot o st out) {Q : Exit → Act → World → Prop} {K : Act → World → Prop}
    (hK : ∀ a' w' I' M', FRel nt I' M' (app st o out) a' w' → Ext I M w I' M' w' → (∀ j, j ≠ slot → M j = MS.fresh → M' j = MS.fresh) → K a' w') : wpOp P ops Q i K a w := by
  have hd : ∀ t : Nat, o.dst = some t → t < nt := fun t ht => hops i o t hi ht
  unfold wpOp
  simp only [hi]
  rcases hr with ⟨hw, hr⟩ | ⟨hw, rfl⟩
  · rw [awant_sound F.size F.tmps hops hw]
    simp only [if_true]
    refine .inl ?_
    rcases hr with hr | ⟨f, args, v, hcall, hP, rfl⟩
    · obtain ⟨v, w', I', M', hrun, hv, hh, he, hfr⟩ := aop_sound F.heap (fun x => aev_rel F.tmps x) hs hn hr
      obtain ⟨p1, p2, p3⟩ := put_rel (st := st) he.imm he.mp F.size F.tmps hd hv
      have fin := hK (a.put o.dst v) w' I' M' ⟨by rw [p2]; exact F.defers, p1, p3, hh⟩ he hfr
      unfold Oper.wp
      rcases hrun with hrun | ⟨hrun, rfl⟩
      · rw [hrun]; exact fin
      · rw [hrun]; exact fin
    · obtain ⟨cargs, hrun, hargs⟩ := call_sound (o := o) (ρ := a.eval) (w := w) (M := M) (I := I) (fun x => aev_rel F.tmps x) hcall hP.1
      unfold Oper.wp
      rw [hrun]
      refine (pcall_use F.heap hargs hP).mono fun e w' ⟨cv, I', M', he, hv, hh, hx, hfr⟩ => ?_
      subst he
      obtain ⟨p1, p2, p3⟩ := put_rel (st := st) hx.imm hx.mp F.size F.tmps hd hv
      exact hK (a.put o.dst cv) w' I' M' ⟨by rw [p2]; exact F.defers, p1, p3, hh⟩ hx fun j _ => hfr j
  · rw [awant_sound F.size F.tmps hops hw]
    simp only [Bool.false_eq_true, if_false]
    obtain ⟨p1, p2, p3⟩ := put_rel (st := st) (.refl I) (.refl M) F.size F.tmps hd (x := .tup []) (v := undef) (.pure _ _ (.tup [] #[] rfl (fun i x v hx => by simp at hx)))
    exact hK _ w I M ⟨by rw [p2]; exact F.defers, p1, p3, F.heap⟩ (.refl _ _ _) fun _ _ h => h

/-- The text's order. -/
theorem swalk_sound {Q : Exit → Act → World → Prop} {K : ASt → Prop} (top : Nat) (hops : ∀ (i : Nat) (o : Oper) (t : Nat), ops[i]? = some o → o.dst = some t → t < nt) : ∀ (l : List Oper) (i slot : Nat) (st : ASt) (I : Imm) (M : Mp) (a : Act) (w : World),
    (∀ j, l[j]? = ops[i + j]?) → FRel nt I M st a w → (∀ j, slot ≤ j → j < top → M j = MS.fresh) → slot + l.length ≤ top → top ≤ st.n → SWalk P pa ops l slot st K →
    (∀ st' I' M' a' w', K st' → FRel nt I' M' st' a' w' → Ext I M w I' M' w' → st.n ≤ st'.n → (∀ j, j < slot → M j = MS.fresh → M' j = MS.fresh) → Q .normal a' w') →
    wpOps P ops Q (List.range' i l.length) a w
  | [], i, slot, st, I, M, a, w, _, F, _, _, _, h, hQ => by
    simp only [List.length_nil, List.range'_zero, wpOps]
    exact hQ st I M a w h F (.refl _ _ _) (Nat.le_refl _) fun _ _ h => h
  | o :: rest, i, slot, st, I, M, a, w, hl, F, hfr, hsn, htop, h, hQ => by
    have hi : ops[i]? = some o := by simpa using (hl 0).symm
    have hl' : ∀ j, rest[j]? = ops[i + 1 + j]? := fun j => by have := hl (j + 1); simpa [Nat.add_assoc, Nat.add_comm 1 j] using this
    simp only [List.length_cons] at hsn ⊢
    rw [List.range'_succ, wpOps_cons]
    have step : ∀ out, Res P pa ops slot o st out → SWalk P pa ops rest (slot + 1) (app st o out) K → wpOp P ops Q i (wpOps P ops Q (List.range' (i + 1) rest.length)) a w := fun out hr hk =>
      res_sound F hops hi (hfr slot (Nat.le_refl _) (by omega)) (by omega) hr fun a' w' I' M' F' he hf' =>
        swalk_sound top hops rest (i + 1) (slot + 1) (app st o out) I' M' a' w' hl' F' (fun j hj hj' => hf' j (by omega) (hfr j (by omega) hj')) (by omega) (by simpa only [app] using htop) hk
          fun st'' I'' M'' a'' w'' hK'' F'' he'' hn'' hf'' => hQ st'' I'' M'' a'' w'' hK'' F'' (he.trans he'') hn'' fun j hj hm => hf'' j (by omega) (hf' j (by omega) hm)
    simp only [SWalk] at h
    split at h
    · rename_i hw
      split at h
      · rename_i out ha; exact step out (.inl ⟨hw, .inl ha⟩) h
      · rename_i f args ha
        rcases h with (⟨v, hP, hk⟩ | ⟨post, hH, hk⟩) | ⟨v, hP, hk⟩
        · exact step _ (.inl ⟨hw, .inr ⟨f, args, v, ha, hP, rfl⟩⟩) hk
        · have hd : ∀ t : Nat, o.dst = some t → t < nt := fun t ht => hops i o t hi ht
          obtain ⟨cargs, hrun, hargs⟩ := call_sound (o := o) (ρ := a.eval) (w := w) (M := M) (I := I) (fun x => aev_rel F.tmps x) ha hH.1
          unfold wpOp
          simp only [hi]
          rw [awant_sound F.size F.tmps hops hw]
          simp only [if_true]
          refine .inl ?_
          unfold Oper.wp
          rw [hrun]
          refine (hH.2 I M w cargs F.heap hargs).mono fun e w' ⟨cv, v, I', M', h', n', he, hpost, hv, hh, hx, hnn, hf'⟩ => ?_
          subst he
          obtain ⟨p1, p2, p3⟩ := put_rel (st := st) hx.imm hx.mp F.size F.tmps hd hv
          exact swalk_sound top hops rest (i + 1) (slot + 1) { τ := putT st.τ o.dst v, h := h', n := n' } I' M' (a.put o.dst cv) w' hl' ⟨by rw [p2]; exact F.defers, p1, p3, hh⟩ (fun j hj hj' => hf' j (by omega) (hfr j (by omega) hj')) (by omega) (by simp only; omega) (hk v h' n' hnn hpost)
            fun st'' I'' M'' a'' w'' hK'' F'' he'' hn'' hf'' => hQ st'' I'' M'' a'' w'' hK'' F'' (hx.trans he'') (by simp only at hn''; omega) fun j hj hm => hf'' j (by omega) (hf' j (by omega) hm)
        · have hd : ∀ t : Nat, o.dst = some t → t < nt := fun t ht => hops i o t hi ht
          obtain ⟨cargs, hrun, hargs⟩ := call_sound (o := o) (ρ := a.eval) (w := w) (M := M) (I := I) (fun x => aev_rel F.tmps x) ha hP.1
          unfold wpOp
          simp only [hi]
          rw [awant_sound F.size F.tmps hops hw]
          simp only [if_true]
          refine .inl ?_
          unfold Oper.wp
          rw [hrun]
          refine (pcall_freeze F.heap hargs hP).mono fun e w' ⟨cv, I', M', he, hv, hh, hx, hf', hfz⟩ => ?_
          subst he
          obtain ⟨p1, p2, p3⟩ := put_rel (st := { st with τ := frzτ (args.flatMap ids2) st.h st.τ }) (I := I') (M := M') (.refl _) (.refl _) F.size (fun t => hfz _ _ (F.tmps t)) hd hv
          exact swalk_sound top hops rest (i + 1) (slot + 1) (frzSt (args.flatMap ids2) st o.dst v) I' M' (a.put o.dst cv) w' hl' ⟨by rw [p2]; exact F.defers, p1, p3, hh⟩ (fun j hj hj' => hf' j (hfr j (by omega) hj')) (by omega) (by simpa only [frzSt] using htop) hk
            fun st'' I'' M'' a'' w'' hK'' F'' he'' hn'' hf'' => hQ st'' I'' M'' a'' w'' hK'' F'' (hx.trans he'') hn'' fun j hj hm => hf'' j (by omega) (hf' j hm)
      · exact h.elim
    · rename_i hw; exact step skipOut (.inr ⟨hw, rfl⟩) h
    · exact h.elim


/-! ### Orders -/
/-- Operations come up in any order; number 'i' comes to 'T i'. -/
def AAny (P : Program) (pa : List Tmp) (ops : Array Oper) (base : Nat) (T : Nat → Out) (K : ASt → Prop) : Nat → Array Bool → ASt → Prop
  | 0, listed, st => Region.ready .any ops listed = [] ∧ K st
  | fuel + 1, listed, st => (Region.ready .any ops listed = [] → K st) ∧
    ∀ i ∈ Region.ready .any ops listed, ∃ o, ops[i]? = some o ∧ Res P pa ops (base + i) o st (T i) ∧ AAny P pa ops base T K fuel (listed.setIfInBounds i true) (app st o (T i))

theorem aany_sound {Q : Exit → Act → World → Prop} {K : ASt → Prop} {base : Nat} {T : Nat → Out} (hops : ∀ (i : Nat) (o : Oper) (t : Nat), ops[i]? = some o → o.dst = some t → t < nt) : ∀ (fuel : Nat) (listed : Array Bool) (st : ASt) (I : Imm) (M : Mp) (a : Act) (w : World),
    listed.size = ops.size → FRel nt I M st a w → (∀ i, i < ops.size → listed.getD i true = false → M (base + i) = .fresh) → base + ops.size ≤ st.n → AAny P pa ops base T K fuel listed st →
    (∀ st' I' M' a' w', K st' → FRel nt I' M' st' a' w' → Ext I M w I' M' w' → st'.n = st.n → (∀ j, j < base → M j = MS.fresh → M' j = MS.fresh) → Q .normal a' w') →
    wpAny P .any ops Q fuel listed a w
  | 0, listed, st, I, M, a, w, _, F, _, _, h, hQ => ⟨h.1, hQ st I M a w h.2 F (.refl _ _ _) rfl fun _ _ h => h⟩
  | fuel + 1, listed, st, I, M, a, w, hls, F, hfr, hn, h, hQ => by
    refine ⟨fun h0 => hQ st I M a w (h.1 h0) F (.refl _ _ _) rfl fun _ _ h => h, fun i hi => ?_⟩
    obtain ⟨o, ho, hr, hk⟩ := h.2 i hi
    have hil : i < ops.size := (Array.getElem?_eq_some_iff.1 ho).1
    have hun := (mem_ready.1 hi).1
    refine res_sound F hops ho (hfr i hil hun) (by omega) hr fun a' w' I' M' F' he hf' => ?_
    refine aany_sound hops fuel _ _ I' M' a' w' (by simp [hls]) F' (fun j hj hlj => ?_) (by simpa only [app] using hn) hk
      fun st'' I'' M'' a'' w'' hK'' F'' he'' hn'' hf'' => hQ st'' I'' M'' a'' w'' hK'' F'' (he.trans he'') (by simpa only [app] using hn'') fun j hj hm => hf'' j hj (hf' j (by omega) hm)
    have hji : j ≠ i := fun e => by
      subst e
      have : j < listed.size := by omega
      simp [Array.getD, this] at hlj
    rw [getD_set_ne true (fun e => hji e.symm)] at hlj
    exact hf' _ (by omega) (hfr j hj hlj)

/-! What one operation comes to hangs on its operands, and on the blocks that it touches, alone. -/
theorem putT_other {τ : Nat → AV} {d : Option Tmp} {v : AV} {t : Nat} (h : ∀ e, d = some e → e ≠ t) : putT τ d v t = τ t := by
  cases d with
  | none => rfl
  | some e => simp only [putT]; rw [if_neg (fun e' => h e rfl e'.symm)]
theorem putT_comm {τ : Nat → AV} {d e : Option Tmp} {u v : AV} (h : ∀ t, d = some t → e ≠ some t) : putT (putT τ d u) e v = putT (putT τ e v) d u := by
  cases d with
  | none => rfl
  | some d =>
    cases e with
    | none => rfl
    | some e =>
      have hne : d ≠ e := fun hh => h d rfl (by rw [hh])
      funext t
      simp only [putT]
      by_cases h1 : t = e <;> by_cases h2 : t = d <;> simp [h1, h2]
      · subst h1; exact absurd h2.symm hne
      · intro h3; exact absurd h3.symm hne
      · intro h3; exact absurd h3 hne

theorem updH_other : ∀ (up : List (Nat × Option Blk)) (h : Heap) (i : Nat), i ∉ up.map (·.1) → updH h up i = h i
  | [], _, _, _ => rfl
  | (j, b) :: r, h, i, hi => by
    simp only [List.map_cons, List.mem_cons, not_or] at hi
    simp only [updH]
    rw [updH_other r _ i hi.2, if_neg hi.1]
theorem updH_congr : ∀ (up : List (Nat × Option Blk)) (h g : Heap) (i : Nat), (i ∉ up.map (·.1) → h i = g i) → updH h up i = updH g up i
  | [], h, g, i, hi => hi (by simp)
  | (j, b) :: r, h, g, i, hi => by
    simp only [updH]
    refine updH_congr r _ _ i fun hr => ?_
    by_cases e : i = j
    · simp only [e, if_pos]
    · simp only [if_neg e]; exact hi (by simp [e, hr])
theorem updH_comm {u v : List (Nat × Option Blk)} (h : Heap) (hd : ∀ x ∈ u.map (·.1), x ∉ v.map (·.1)) : updH (updH h u) v = updH (updH h v) u := by
  funext i
  by_cases hu : i ∈ u.map (·.1)
  · rw [updH_other v _ i (hd i hu)]
    exact updH_congr u _ _ i fun hn => absurd hu hn
  · rw [updH_other u (updH h v) i hu]
    exact updH_congr v _ _ i fun _ => updH_other u h i hu

theorem aev_other {τ : Nat → AV} {d : Option Tmp} {v : AV} {x : Operand} (h : ∀ t, d = some t → x ≠ .tmp t) : aev (putT τ d v) x = aev τ x := by
  cases x with
  | tmp t => exact putT_other fun e he ht => h e he (by rw [ht])
  | _ => rfl

theorem awant_other {o : Oper} {τ : Nat → AV} {d : Option Tmp} {v : AV} (h : ∀ t, d = some t → t ∉ o.looksAt ops) : awant ops o (putT τ d v) = awant ops o τ := by
  unfold awant
  cases hg : o.guard with
  | none => rfl
  | some gw =>
    obtain ⟨g, want⟩ := gw
    simp only
    cases ht : (ops[g]?).bind (·.dst) with
    | none => rfl
    | some t =>
      simp only
      rw [putT_other fun e he hte => h e he (by subst hte; simp [Oper.looksAt, hg, ht])]

/-- Operands that an operation names. -/
theorem operand_mem {o : Oper} {x : Operand} (hx : x ∈ o.op.operands) {t : Nat} (ht : x = .tmp t) : t ∈ o.looksAt ops := by
  subst ht
  exact List.mem_append_left _ (List.mem_filterMap.2 ⟨.tmp t, by simpa using hx, rfl⟩)

/-- What an operation comes to hangs on its operands' values. -/
theorem aop_congr {op : Op} {pu : Bool} {slot : Nat} {ev ev' : Operand → AV} {h : Heap} (hev : ∀ x ∈ op.operands, ev x = ev' x) : aop P pu op slot ev h = aop P pu op slot ev' h := by
  have pairs : ∀ ps : Array (Nat × Operand), (∀ x ∈ ((ps.toList.map (·.2)).toArray : Array Operand), ev x = ev' x) → (ps.toList.map fun (i, x) => (i, ev x)) = (ps.toList.map fun (i, x) => (i, ev' x)) := fun ps hp =>
    List.map_congr_left fun p hm => by
      obtain ⟨i, x⟩ := p
      simp only [hp x (by simp; exact ⟨i, by simpa using hm⟩)]
  cases op with
  | build t ps => simp only [Op.operands] at hev; simp only [aop, pairs ps hev]
  | buildSlice t n ps => simp only [Op.operands] at hev; simp only [aop, pairs ps hev]
  | slice t x lo hi mx =>
    simp only [Op.operands] at hev
    cases lo <;> cases hi <;> cases mx <;> simp_all [aop]
  | makeFunc f first cap =>
    simp only [Op.operands] at hev
    have : cap.toList.map ev = cap.toList.map ev' := List.map_congr_left fun x hx => hev x (by simp; exact .inr (by simpa using hx))
    cases f <;> simp only [aop, this]
  | call c =>
    obtain ⟨callee, args, ts⟩ := c
    simp only [Op.operands, Call.operands] at hev
    have : args.toList.map ev = args.toList.map ev' := List.map_congr_left fun x hx => hev x (by simp; exact .inr (by simpa using hx))
    cases callee with
    | value f => have hf : ev f = ev' f := hev f (by simp); simp only [aop, this, hf]
    | invoke r m => simp only [aop]
    | builtin b => simp only [aop, this]
  | _ => simp_all [aop, Op.operands]

theorem aload_local {t : TypeId} {a : AV} {h g : Heap} {out : Out} (ha : aload P h t a = some (.out out)) (hg : ∀ i ∈ out.rd ++ out.up.map (·.1), g i = h i) : aload P g t a = some (.out out) := by
  unfold aload at *
  split at ha
  case h_2 => cases ha
  rename_i gg k e1 e2
  split at ha
  · exact ha
  · rename_i b off
    split at ha
    case h_2 => cases ha
    rename_i blk hb
    split at ha
    case isFalse => cases ha
    rename_i hoff
    cases hv : getAs gg k (blk.drop off) with
    | none => simp [hv] at ha
    | some v =>
      simp only [hv, Option.bind_some, Option.some.injEq, Did.out.injEq] at ha
      subst ha
      simp only [hg b (by simp), hb, if_pos hoff, hv, Option.bind_some]
  · cases ha

theorem astore_local {t : TypeId} {a x : AV} {h g : Heap} {out : Out} (ha : astore P h t a x = some (.out out)) (hg : ∀ i ∈ out.rd ++ out.up.map (·.1), g i = h i) : astore P g t a x = some (.out out) := by
  unfold astore at *
  split at ha
  case h_2 => cases ha
  rename_i k b off cs e1 e2
  split at ha
  case h_2 => cases ha
  rename_i blk hb
  split at ha
  case isFalse => cases ha
  rename_i hc
  simp only [Option.some.injEq, Did.out.injEq] at ha
  subst ha
  simp only [hg b (by simp), hb, if_pos hc]

theorem srcCells_local {e : Nat} {x : AV} {h g : Heap} {new : List AV} {k : Nat} {rd : List Nat} (ha : srcCells h e x = some (new, k, rd)) (hg : ∀ i ∈ rd, g i = h i) : srcCells g e x = some (new, k, rd) := by
  unfold srcCells at *
  split at ha
  · exact ha
  · exact ha
  · rename_i b off len s
    split at ha
    case h_2 => cases ha
    rename_i blk hb
    split at ha
    case isFalse => cases ha
    rename_i hc
    simp only [Option.some.injEq, Prod.mk.injEq] at ha
    obtain ⟨rfl, rfl, rfl⟩ := ha
    simp only [hg b (by simp), hb, if_pos hc]
  · cases ha

theorem aappend_local {pu : Bool} {slot : Nat} {ts : Array TypeId} {x y : AV} {h g : Heap} {out : Out} (ha : aappend P pu slot h ts x y = some (.out out)) (hg : ∀ i ∈ out.rd ++ out.up.map (·.1), g i = h i) : aappend P pu slot g ts x y = some (.out out) := by
  unfold aappend at *
  split at ha
  case h_2 => cases ha
  rename_i e e' e1 e2
  split at ha
  case h_2 => cases ha
  rename_i s by_ z e3 e4 e5
  split at ha
  case isFalse => cases ha
  rename_i hc
  rw [if_pos hc]
  split at ha
  case h_2 => cases ha
  rename_i new k rd hsrc
  split at ha
  case isFalse => cases ha
  rename_i hk
  split at ha
  · by_cases hpu : pu = true
    · rw [if_pos hpu] at ha
      split at ha
      · rename_i se xs
        have : srcCells g (s + 1) (.sl se xs) = some (new, k, rd) := hsrc
        simp only [this, if_pos hk, if_pos hpu]
        exact ha
      · cases ha
    · rw [if_neg hpu] at ha
      by_cases hk0 : k = 0
      · rw [if_pos hk0] at ha
        simp only [Option.some.injEq, Did.out.injEq] at ha
        subst ha
        rw [srcCells_local hsrc (fun i hi => hg i (by simp [hi]))]
        simp only [if_pos hk, if_neg hpu, if_pos hk0]
      · rw [if_neg hk0] at ha
        simp only [Option.some.injEq, Did.out.injEq] at ha
        subst ha
        rw [srcCells_local hsrc (fun i hi => hg i (by simp [hi]))]
        simp only [if_pos hk, if_neg hpu, if_neg hk0]
  · rename_i b off len s'
    split at ha
    case h_2 => cases ha
    rename_i blk hb
    split at ha
    case isFalse => cases ha
    rename_i hc2
    simp only [Option.some.injEq, Did.out.injEq] at ha
    subst ha
    rw [srcCells_local hsrc (fun i hi => hg i (by simp [hi]))]
    simp only [if_pos hk, hg b (by simp), hb, if_pos hc2]
  · cases ha

theorem acopy_local {ts : Array TypeId} {x y : AV} {h g : Heap} {out : Out} (ha : acopy P h ts x y = some (.out out)) (hg : ∀ i ∈ out.rd ++ out.up.map (·.1), g i = h i) : acopy P g ts x y = some (.out out) := by
  unfold acopy at *
  split at ha
  case h_2 => cases ha
  rename_i e e1
  split at ha
  case h_2 => cases ha
  rename_i s e3
  split at ha
  case h_2 => cases ha
  rename_i b off len s' new k rd hsrc
  split at ha
  case h_2 => cases ha
  rename_i blk hb
  split at ha
  case isFalse => cases ha
  rename_i hc
  simp only [Option.some.injEq, Did.out.injEq] at ha
  subst ha
  rw [srcCells_local hsrc (fun i hi => hg i (by simp [hi]))]
  simp only [hg b (by simp), hb, if_pos hc]

/-- .. and on the blocks that it touches. -/
theorem aop_local {op : Op} {pu : Bool} {slot : Nat} {ev : Operand → AV} {h g : Heap} {out : Out} (ha : aop P pu op slot ev h = some (.out out)) (hg : ∀ i ∈ out.rd ++ out.up.map (·.1), g i = h i) : aop P pu op slot ev g = some (.out out) := by
  unfold aop at *
  split at ha
  case h_8 => exact aload_local ha hg
  case h_9 => exact astore_local ha hg
  case h_22 =>
    unfold abuiltin at *
    split at ha
    · exact aappend_local ha hg
    · exact acopy_local ha hg
    all_goals exact ha
  all_goals exact ha

theorem frz1_local {h g : Heap} {x : AV} (hg : ∀ i ∈ ids1 x, g i = h i) : frz1 g x = frz1 h x := by
  cases x with
  | own b off len e => simp only [frz1, hg b (by simp [ids1])]
  | _ => rfl
theorem frz2_local {h g : Heap} {x : AV} (hg : ∀ i ∈ ids2 x, g i = h i) : frz2 g x = frz2 h x := by
  cases x with
  | agg cs =>
    simp only [frz2, AV.agg.injEq]
    exact List.map_congr_left fun y hy => frz1_local fun i hi => hg i (by simp only [ids2, List.mem_flatMap]; exact ⟨y, hy, hi⟩)
  | _ => simp only [frz2]; exact frz1_local (by simpa only [ids2] using hg)

theorem Res_same {slot : Nat} {o : Oper} {st st' : ASt} {out : Out} (hw : awant ops o st'.τ = awant ops o st.τ) (hev : ∀ x ∈ o.op.operands, aev st'.τ x = aev st.τ x) (hg : ∀ i ∈ out.rd ++ out.up.map (·.1), st'.h i = st.h i)
    (h : Res P pa ops slot o st out) : Res P pa ops slot o st' out := by
  unfold Res at *
  rw [hw]
  rcases h with ⟨h1, h2 | ⟨f, args, v, h3, h4, rfl⟩⟩ | h
  · exact .inl ⟨h1, .inl (by rw [aop_congr hev]; exact aop_local h2 hg)⟩
  · have hfz : args.map (frz2 st'.h) = args.map (frz2 st.h) := List.map_congr_left fun x hx => frz2_local fun i hi => hg i (by
      simp only [callOut, List.mem_append]
      exact .inl (List.mem_flatMap.2 ⟨x, hx, hi⟩))
    refine .inl ⟨h1, .inr ⟨f, args, v, ?_, by rw [hfz]; exact h4, rfl⟩⟩
    rw [aop_congr hev]
    obtain ⟨g, xs, ts, cap, ho, hgv, ha⟩ := aop_call h3
    rw [ho]
    simp only [aop, hgv, ha]
  · exact .inr h

/-- What another operation has done elsewhere makes no difference. -/
theorem Res.local {slot : Nat} {o oj : Oper} {st : ASt} {out outj : Out} (hap : ∀ d, oj.dst = some d → d ∉ o.looksAt ops) (hd : ∀ x ∈ outj.up.map (·.1), x ∉ out.rd ++ out.up.map (·.1)) :
    Res P pa ops slot o st out ↔ Res P pa ops slot o (app st oj outj) out := by
  have hw : awant ops o (app st oj outj).τ = awant ops o st.τ := awant_other hap
  have hev : ∀ x ∈ o.op.operands, aev (app st oj outj).τ x = aev st.τ x := fun x hx => aev_other fun t ht hxt => hap t ht (operand_mem hx hxt)
  have hg : ∀ i ∈ out.rd ++ out.up.map (·.1), (app st oj outj).h i = st.h i := fun i hi => updH_other _ _ _ fun hm => hd i hm hi
  exact ⟨Res_same hw hev hg, Res_same hw.symm (fun x hx => (hev x hx).symm) fun i hi => (hg i hi).symm⟩

theorem aany_first {K : ASt → Prop} {base : Nat} {T : Nat → Out} {i : Nat} {oi : Oper} (hi : ops[i]? = some oi) : ∀ (fuel : Nat) (listed : Array Bool) (st : ASt),
    (∀ j oj, ops[j]? = some oj → j ≠ i → listed.getD j true = false → (∀ e ∈ oj.after, Region.binds .any e = true → e.on ≠ i) → oi.apart ops oj = true ∧ outOk (T i) (T j)) →
    i ∈ Region.ready .any ops listed → Res P pa ops (base + i) oi st (T i) →
    AAny P pa ops base T K fuel (listed.setIfInBounds i true) (app st oi (T i)) → AAny P pa ops base T K (fuel + 1) listed st := by
  intro fuel
  induction fuel with
  | zero =>
    intro listed st _ hr hy H
    refine ⟨fun h => (by rw [h] at hr; cases hr), fun j hj => ?_⟩
    by_cases hji : j = i
    · subst hji; exact ⟨oi, hi, hy, H⟩
    · have := ready_mono hj hji
      rw [H.1] at this
      cases this
  | succ fuel ih =>
    intro listed st hfree hr hy H
    refine ⟨fun h => (by rw [h] at hr; cases hr), fun j hj => ?_⟩
    by_cases hji : j = i
    · subst hji; exact ⟨oi, hi, hy, H⟩
    · obtain ⟨oj, hoj, h1, h2⟩ := H.2 j (ready_mono hj hji)
      obtain ⟨hjun, oj', hoj', hall⟩ := mem_ready.1 hj
      rw [hoj] at hoj'
      cases hoj'
      have hnot : ∀ e ∈ oj.after, Region.binds .any e = true → e.on ≠ i := fun e he hb heq => by
        have h1 := hall e he hb
        have h0 := (mem_ready.1 hr).1
        rw [heq] at h1
        rcases Nat.lt_or_ge i listed.size with h' | h'
        · simp [h'] at h0 h1; rw [h0] at h1; cases h1
        · simp [Array.getElem?_eq_none h'] at h1
      obtain ⟨hap, hout⟩ := hfree j oj hoj hji hjun hnot
      obtain ⟨a1, a2, a3⟩ := Oper.apart_spec hap
      have hrj : Res P pa ops (base + j) oj st (T j) := (Res.local a1 hout.1).2 h1
      have hri : Res P pa ops (base + i) oi (app st oj (T j)) (T i) := (Res.local a3 (fun x hx hx' => by
        rcases List.mem_append.1 hx' with hx' | hx'
        · exact hout.2 x hx hx'
        · exact hout.1 x hx' (List.mem_append.2 (.inr hx)))).1 hy
      refine ⟨oj, hoj, hrj, ih (listed.setIfInBounds j true) _ (fun k ok hk hki hun hno => ?_) (ready_mono hr (Ne.symm hji)) hri ?_⟩
      · refine hfree k ok hk hki ?_ hno
        by_cases hjk : j = k
        · subst hjk; exact hjun
        · rw [getD_set_ne true hjk] at hun; exact hun
      · rw [Array.setIfInBounds_comm _ _ hji]
        have : app (app st oj (T j)) oi (T i) = app (app st oi (T i)) oj (T j) := by
          simp only [app]
          rw [putT_comm (fun t ht hit => a2 t hit ht), updH_comm st.h (fun x hx hx' => hout.1 x hx' (List.mem_append.2 (.inr hx)))]
        rw [this]
        exact h2

theorem logOk_spec : ∀ (log : List (Nat × Out)) (o : Oper) (b : Out), logOk log o b → ∀ p ∈ log, outOk p.2 b ∨ waitsB p.1 o = true
  | [], _, _, _, p, hp => by cases hp
  | (i, a) :: r, o, b, h, p, hp => by
    rcases List.mem_cons.1 hp with rfl | hp
    · exact h.1
    · exact logOk_spec r o b h.2 p hp

theorem cold_of {out : Out} (h : hotB out = false) : out.up = [] ∧ out.rd = [] := by
  unfold hotB at h
  simp only [Bool.not_eq_false', Bool.and_eq_true, List.isEmpty_iff] at h
  exact h
theorem outOk_coldL {a b : Out} (h : a.up = [] ∧ a.rd = []) : outOk a b := by
  unfold outOk disj
  rw [h.1, h.2]
  exact ⟨fun x hx => (by cases hx), fun x _ hx => (by cases hx)⟩
theorem outOk_coldR {a b : Out} (h : b.up = [] ∧ b.rd = []) : outOk a b := by
  unfold outOk disj
  rw [h.1, h.2]
  exact ⟨fun x _ hx => (by cases hx), fun x hx => (by cases hx)⟩

/-- One walk of the text's order serves every order. -/
theorem dwalk_lex {K : ASt → Prop} {base : Nat} : ∀ (l : List Oper) (i : Nat) (st : ASt) (log : List (Nat × Out)), (∀ j, l[j]? = ops[i + j]?) →
    DWalk P pa ops l i (base + i) st log K → ∀ T0 : Nat → Out, (∀ p ∈ log, T0 p.1 = p.2 ∧ p.1 < i) → (∀ j, j < i → j ∉ log.map (·.1) → (T0 j).up = [] ∧ (T0 j).rd = []) →
    ∃ T : Nat → Out, (∀ j, j < i → T j = T0 j) ∧ (∀ j k o, j < k → i ≤ k → ops[k]? = some o → waitsB j o = false → outOk (T j) (T k)) ∧
      ∀ listed : Array Bool, (∀ j, j < i → listed.getD j true = true) → Region.lexFrom .any ops l.length i listed = true → AAny P pa ops base T K l.length listed st
  | [], i, st, log, hl, h, T0, _, _ => by
    refine ⟨T0, fun _ _ => rfl, fun j k o _ hk ho => ?_, fun listed _ hB => ⟨by simpa [Region.lexFrom] using hB, h⟩⟩
    have := hl (k - i)
    rw [show i + (k - i) = k by omega, ho] at this
    simp at this
  | o :: rest, i, st, log, hl, h, T0, hT0, hcold => by
    have hi : ops[i]? = some o := by simpa using (hl 0).symm
    have hl' : ∀ j, rest[j]? = ops[i + 1 + j]? := fun j => by have := hl (j + 1); simpa [Nat.add_assoc, Nat.add_comm 1 j] using this
    have step : ∀ (out : Out) (log' : List (Nat × Out)), Res P pa ops (base + i) o st out → ((hotB out = true ∧ logOk log o out ∧ log' = (i, out) :: log) ∨ (hotB out = false ∧ log' = log)) →
        DWalk P pa ops rest (i + 1) (base + i + 1) (app st o out) log' K →
        ∃ T : Nat → Out, (∀ j, j < i → T j = T0 j) ∧ (∀ j k o, j < k → i ≤ k → ops[k]? = some o → waitsB j o = false → outOk (T j) (T k)) ∧
          ∀ listed : Array Bool, (∀ j, j < i → listed.getD j true = true) → Region.lexFrom .any ops (o :: rest).length i listed = true → AAny P pa ops base T K (o :: rest).length listed st := by
      intro out log' hr hlog hw
      obtain ⟨T, t1, t2, t3⟩ := dwalk_lex rest (i + 1) (app st o out) log' hl' (by rw [← Nat.add_assoc]; exact hw) (fun j => if j = i then out else T0 j)
        (fun p hp => by
          rcases hlog with ⟨_, _, rfl⟩ | ⟨_, rfl⟩
          · rcases List.mem_cons.1 hp with rfl | hp
            · exact ⟨by simp, by simp⟩
            · obtain ⟨g1, g2⟩ := hT0 p hp
              exact ⟨by simp [show p.1 ≠ i by omega, g1], by omega⟩
          · obtain ⟨g1, g2⟩ := hT0 p hp
            exact ⟨by simp [show p.1 ≠ i by omega, g1], by omega⟩)
        (fun j hj hn => by
          by_cases e : j = i
          · subst e
            rcases hlog with ⟨_, _, rfl⟩ | ⟨hc, rfl⟩
            · simp at hn
            · simp only [if_pos]; exact cold_of hc
          · simp only [if_neg e]
            refine hcold j (by omega) fun hm => hn ?_
            rcases hlog with ⟨_, _, rfl⟩ | ⟨_, rfl⟩
            · simp only [List.map_cons, List.mem_cons]; exact .inr hm
            · exact hm)
      have hTi : T i = out := by rw [t1 i (by omega)]; simp
      have hTj : ∀ j, j < i → T j = T0 j := fun j hj => by rw [t1 j (by omega)]; simp [show j ≠ i by omega]
      have hpair : ∀ j k o, j < k → i ≤ k → ops[k]? = some o → waitsB j o = false → outOk (T j) (T k) := fun j k o' hjk hik hk hwt => by
        by_cases e : k = i
        · subst e
          rw [hi] at hk
          cases hk
          rw [hTi, hTj j hjk]
          rcases hlog with ⟨_, hlo, rfl⟩ | ⟨hc, _⟩
          · by_cases hm : j ∈ log.map (·.1)
            · obtain ⟨p, hp, rfl⟩ := List.mem_map.1 hm
              rw [(hT0 p hp).1]
              rcases logOk_spec log o out hlo p hp with h | h
              · exact h
              · rw [hwt] at h; cases h
            · exact outOk_coldL (hcold j hjk hm)
          · exact outOk_coldR (cold_of hc)
        · exact t2 j k o' hjk (by omega) hk hwt
      refine ⟨T, hTj, hpair, fun listed hlis hB => ?_⟩
      simp only [List.length_cons, Region.lexFrom, Bool.and_eq_true] at hB
      obtain ⟨⟨hr1, hf⟩, hB'⟩ := hB
      have hrdy : i ∈ Region.ready .any ops listed := by simpa using hr1
      have hls : i < listed.size := by
        have h0 := (mem_ready.1 hrdy).1
        rcases Nat.lt_or_ge i listed.size with h' | h'
        · exact h'
        · simp [Array.getD, Nat.not_lt.2 h'] at h0
      refine aany_first hi rest.length listed st (fun j oj hoj hji hun hno => ⟨Region.free_spec hi hf j oj hoj hji hun hno, ?_⟩) hrdy (by rw [hTi]; exact hr) ?_
      · have hij : i < j := by
          rcases Nat.lt_trichotomy i j with h' | h' | h'
          · exact h'
          · exact absurd h'.symm hji
          · rw [hlis j h'] at hun; cases hun
        refine hpair i j oj hij (by omega) hoj ?_
        unfold waitsB
        rw [Array.any_eq_false']
        intro e he
        by_cases hb : Region.binds .any e = true
        · have := hno e he hb
          simp [hb, this]
        · simp [hb]
      · rw [hTi]
        refine t3 _ (fun j hj => ?_) hB'
        by_cases e : j = i
        · subst e; simp [Array.getD, hls]
        · rw [getD_set_ne true (fun h => e h.symm)]; exact hlis j (by omega)
    simp only [DWalk] at h
    split at h
    · rename_i hw
      split at h
      · rename_i out ha
        by_cases hh : hotB out = true
        · simp only [hh, if_true] at h; exact step out _ (.inl ⟨hw, .inl ha⟩) (.inl ⟨hh, h.1, rfl⟩) h.2
        · simp only [hh, if_false, Bool.false_eq_true] at h; exact step out _ (.inl ⟨hw, .inl ha⟩) (.inr ⟨by simpa using hh, rfl⟩) h.2
      · rename_i f args ha
        obtain ⟨v, hP, hlo, hk⟩ := h
        by_cases hh : hotB (callOut v (args.flatMap ids2)) = true
        · simp only [hh, if_true] at hlo hk; exact step _ _ (.inl ⟨hw, .inr ⟨f, args, v, ha, hP, rfl⟩⟩) (.inl ⟨hh, hlo, rfl⟩) hk
        · simp only [hh, if_false, Bool.false_eq_true] at hlo hk; exact step _ _ (.inl ⟨hw, .inr ⟨f, args, v, ha, hP, rfl⟩⟩) (.inr ⟨by simpa using hh, rfl⟩) hk
      · exact h.elim
    · rename_i hw; exact step skipOut log (.inr ⟨hw, rfl⟩) (.inr ⟨rfl, rfl⟩) h
    · exact h.elim


/-- A region, in whatever order. -/
theorem region_sound {id : Nat} {draw : Bool} {K : ASt → Prop} {Q : Exit → Act → World → Prop} (hm : P.follows .mixedOrders = true) (hops : ∀ (i : Nat) (o : Oper) (t : Nat), ops[i]? = some o → o.dst = some t → t < nt)
    (hB : draw = true → Region.lexB .any ops = true) (F : FRel nt I M st a w) (h : ARegion P pa ops draw st K)
    (hQ : ∀ st' I' M' a' w', K st' → FRel nt I' M' st' a' w' → Ext I M w I' M' w' → st.n ≤ st'.n → (∀ j, j < st.n → M j = MS.fresh → M' j = MS.fresh) → Q .normal a' w') :
    (Code.region id ops draw).wp P Q a w := by
  have F0 : FRel nt I M { st with n := st.n + ops.size } a w := ⟨F.defers, F.size, F.tmps, F.heap.imm, fun i hi => F.heap.fr i (by simp only at hi; omega), F.heap.no, F.heap.live, F.heap.inj⟩
  unfold ARegion at h
  cases draw with
  | false =>
    simp only [Bool.false_eq_true, if_false] at h
    refine wp_region ?_
    have := swalk_sound (P := P) (Q := Q) (st.n + ops.size) hops ops.toList 0 st.n { st with n := st.n + ops.size } I M a w (fun j => by simp) F0 (fun j hj hj' => F.heap.fr j hj) (by simp) (Nat.le_refl _) h
      (fun st' I' M' a' w' hk F' he hn hf => hQ st' I' M' a' w' hk F' he (by simp only at hn; omega) hf)
    rw [List.range_eq_range']
    simpa using this
  | true =>
    simp only [if_true] at h
    have hB' := hB rfl
    simp only [Region.lexB, Bool.and_eq_true] at hB'
    refine wp_region_any hm ?_
    obtain ⟨T, _, _, hT⟩ := dwalk_lex (P := P) (K := K) (base := st.n) ops.toList 0 _ [] (fun j => by simp) h (fun _ => skipOut) (fun p hp => by cases hp) (fun j hj => by omega)
    have hA := hT (Array.replicate ops.size false) (fun j hj => by omega) (by simpa using hB'.2)
    have Fd : FRel nt I M { st with n := st.n + ops.size } a { w with drawn := w.drawn + 1 } := ⟨F0.defers, F0.size, F0.tmps, F0.heap.drew⟩
    rw [Array.length_toList] at hA
    exact aany_sound hops ops.size _ _ I M a _ (by simp) Fd (fun i hi _ => F.heap.fr _ (by omega)) (Nat.le_refl _) hA
      (fun st' I' M' a' w' hk F' he hn hf => hQ st' I' M' a' w' hk F' ((Ext.drew I M w).trans he) (by simp only at hn; omega) hf)

/-! ### The run -/
def codeOk (nt : Nat) : Code → Bool
  | .region _ ops draw => ops.all (fun o => match o.dst with | some d => decide (d < nt) | none => true) && (!draw || Region.lexB .any ops)
  | .seq a b => codeOk nt a && codeOk nt b
  | .cond _ a b => codeOk nt a && codeOk nt b
  | .block _ c => codeOk nt c
  | .loop c => codeOk nt c
  | _ => true

def itemOk (nt : Nat) : Item → Bool
  | .code c => codeOk nt c
  | .inLoop c => codeOk nt c
  | _ => true

theorem exitTo_ok {id : Nat} : ∀ {k k' : List Item}, (∀ x ∈ k, itemOk nt x = true) → exitTo id k = some k' → ∀ x ∈ k', itemOk nt x = true
  | [], _, _, h => by simp [exitTo] at h
  | x :: k, k', hk, h => by
    have hk' : ∀ x ∈ k, itemOk nt x = true := fun y hy => hk y (List.mem_cons_of_mem _ hy)
    unfold exitTo at h
    split at h
    · rename_i e
      injection e with e1 e2
      subst e2
      split at h
      · cases h; exact hk'
      · exact exitTo_ok hk' h
    · rename_i e
      injection e with e1 e2
      subst e2
      exact exitTo_ok hk' h
    · cases h

theorem codeOk_region {nt id : Nat} {ops : Array Oper} {draw : Bool} (h : codeOk nt (.region id ops draw) = true) :
    (∀ (i : Nat) (o : Oper) (t : Nat), ops[i]? = some o → o.dst = some t → t < nt) ∧ (draw = true → Region.lexB .any ops = true) := by
  simp only [codeOk, Bool.and_eq_true] at h
  refine ⟨fun i o t ho ht => ?_, fun hd => ?_⟩
  · have := (Array.all_eq_true_iff_forall_mem.1 h.1) o (Array.mem_of_getElem? ho)
    simp only [ht, decide_eq_true_eq] at this
    exact this
  · have := h.2
    rw [hd] at this
    simpa using this

theorem AW_sound {Q : ASt → Prop} (hm : P.follows .mixedOrders = true) {k : List Item} {st : ASt} (h : AW P pa Q k st) : (∀ x ∈ k, itemOk nt x = true) → ∀ (I : Imm) (M : Mp) (a : Act) (w : World), FRel nt I M st a w → ∀ (b : Frame) (cs : List Frame),
    ∃ todo a' w' st' I' M', Steps P (lone (b.at a k) cs w) (lone { b.at a' todo with mode := .returning } cs w') ∧ Q st' ∧ FRel nt I' M' st' a' w' ∧ Ext I M w I' M' w' ∧ st.n ≤ st'.n ∧ (∀ j, j < st.n → M j = MS.fresh → M' j = MS.fresh) := by
  refine h (fun k st => (∀ x ∈ k, itemOk nt x = true) → ∀ (I : Imm) (M : Mp) (a : Act) (w : World), FRel nt I M st a w → ∀ (b : Frame) (cs : List Frame),
    ∃ todo a' w' st' I' M', Steps P (lone (b.at a k) cs w) (lone { b.at a' todo with mode := .returning } cs w') ∧ Q st' ∧ FRel nt I' M' st' a' w' ∧ Ext I M w I' M' w' ∧ st.n ≤ st'.n ∧ (∀ j, j < st.n → M j = MS.fresh → M' j = MS.fresh)) ?_
  clear h k st
  intro k st h hk I M a w F b cs
  have tail : ∀ {x : Item} {k' : List Item}, k = x :: k' → ∀ y ∈ k', itemOk nt y = true := fun e y hy => hk y (by rw [e]; exact List.mem_cons_of_mem _ hy)
  have hd : ∀ {x : Item} {k' : List Item}, k = x :: k' → itemOk nt x = true := fun e => hk _ (by rw [e]; exact List.mem_cons_self ..)
  have go : ∀ {k' : List Item} {a' : Act}, step P (lone (b.at a k) cs w) = .next (lone (b.at a k') cs w) → _ → _ := fun {k'} {a'} hs (hx : ∃ todo a' w' st' I' M', Steps P (lone (b.at a k') cs w) (lone { b.at a' todo with mode := .returning } cs w') ∧ Q st' ∧ FRel nt I' M' st' a' w' ∧ Ext I M w I' M' w' ∧ st.n ≤ st'.n ∧ (∀ j, j < st.n → M j = MS.fresh → M' j = MS.fresh)) =>
    (let ⟨todo, a', w', st', I', M', h1, h2⟩ := hx; (⟨todo, a', w', st', I', M', .head hs h1, h2⟩ : ∃ todo a' w' st' I' M', Steps P (lone (b.at a k) cs w) (lone { b.at a' todo with mode := .returning } cs w') ∧ Q st' ∧ FRel nt I' M' st' a' w' ∧ Ext I M w I' M' w' ∧ st.n ≤ st'.n ∧ (∀ j, j < st.n → M j = MS.fresh → M' j = MS.fresh)))
  unfold stepF at h
  split at h
  · exact ⟨[], a, w, st, I, M, .one step_end, h, F, .refl _ _ _, Nat.le_refl _, fun _ _ h => h⟩
  · exact go (a' := a) step_skip (h (tail rfl) I M a w F b cs)
  · rename_i x y k'
    have h1 := hd rfl
    simp only [itemOk, codeOk, Bool.and_eq_true] at h1
    refine go (a' := a) step_seq (h (fun z hz => ?_) I M a w F b cs)
    rcases List.mem_cons.1 hz with rfl | hz
    · exact h1.1
    · rcases List.mem_cons.1 hz with rfl | hz
      · exact h1.2
      · exact tail rfl z hz
  · rename_i c x y k'
    have h1 := hd rfl
    simp only [itemOk, codeOk, Bool.and_eq_true] at h1
    split at h
    · rename_i t hc
      have hv := aev_rel F.tmps c
      rw [hc] at hv
      have hb := hv.bool_inv
      cases t with
      | true =>
        refine go (a' := a) (k' := .code x :: k') (by have := step_cond (P := P) (b := b) (k := k') (cs := cs) (w := w) (x := x) (y := y) hb; simpa using this) (h.1 rfl (fun z hz => ?_) I M a w F b cs)
        rcases List.mem_cons.1 hz with rfl | hz
        · exact h1.1
        · exact tail rfl z hz
      | false =>
        refine go (a' := a) (k' := .code y :: k') (by have := step_cond (P := P) (b := b) (k := k') (cs := cs) (w := w) (x := x) (y := y) hb; simpa using this) (h.2 rfl (fun z hz => ?_) I M a w F b cs)
        rcases List.mem_cons.1 hz with rfl | hz
        · exact h1.2
        · exact tail rfl z hz
    · exact h.elim
  · rename_i id c k'
    have h1 := hd rfl
    simp only [itemOk, codeOk] at h1
    refine go (a' := a) step_block (h (fun z hz => ?_) I M a w F b cs)
    rcases List.mem_cons.1 hz with rfl | hz
    · exact h1
    · rcases List.mem_cons.1 hz with rfl | hz
      · rfl
      · exact tail rfl z hz
  · rename_i c k'
    have h1 := hd rfl
    simp only [itemOk, codeOk] at h1
    refine go (a' := a) step_loop (h (fun z hz => ?_) I M a w F b cs)
    rcases List.mem_cons.1 hz with rfl | hz
    · exact h1
    · rcases List.mem_cons.1 hz with rfl | hz
      · exact h1
      · exact tail rfl z hz
  · rename_i id k'
    split at h
    · rename_i k'' he
      exact go (a' := a) (step_exit he) (h (exitTo_ok (tail rfl) he) I M a w F b cs)
    · exact h.elim
  · exact ⟨_, a, w, st, I, M, .one step_ret, h, F, .refl _ _ _, Nat.le_refl _, fun _ _ h => h⟩
  · rename_i id ops draw k'
    have h1 := hd rfl
    obtain ⟨o1, o2⟩ := codeOk_region (id := id) h1
    have hwp := region_sound (id := id) (Q := fun e a' w' => e = .normal ∧ ∃ st' I' M', ((∀ x ∈ k', itemOk nt x = true) → ∀ (I : Imm) (M : Mp) (a : Act) (w : World), FRel nt I M st' a w → ∀ (b : Frame) (cs : List Frame),
        ∃ todo a' w' st'' I' M', Steps P (lone (b.at a k') cs w) (lone { b.at a' todo with mode := .returning } cs w') ∧ Q st'' ∧ FRel nt I' M' st'' a' w' ∧ Ext I M w I' M' w' ∧ st'.n ≤ st''.n ∧ (∀ j, j < st'.n → M j = MS.fresh → M' j = MS.fresh)) ∧
        FRel nt I' M' st' a' w' ∧ Ext I M w I' M' w' ∧ st.n ≤ st'.n ∧ (∀ j, j < st.n → M j = MS.fresh → M' j = MS.fresh)) hm o1 o2 F h
      (fun st' I' M' a' w' hS F' he hn hf => ⟨rfl, st', I', M', hS, F', he, hn, hf⟩)
    obtain ⟨e, a', w', ⟨rfl, st', I', M', hS, F', he, hn, hf⟩, harr⟩ := hwp b k' cs
    obtain ⟨todo, a'', w'', st'', I'', M'', s1, s2, s3, s4, s5, s6⟩ := hS (tail rfl) I' M' a' w' F' b cs
    exact ⟨todo, a'', w'', st'', I'', M'', Steps.trans harr s1, s2, s3, he.trans s4, Nat.le_trans hn s5, fun j hj hmj => s6 j (by omega) (hf j hj hmj)⟩
  · exact go (a' := a) step_inBlock (h (tail rfl) I M a w F b cs)
  · rename_i c k'
    have h1 := hd rfl
    refine go (a' := a) step_inLoop (h (fun z hz => ?_) I M a w F b cs)
    rcases List.mem_cons.1 hz with rfl | hz
    · exact h1
    · exact hk z hz
  · exact h.elim
end
end Go.Ab
