/- Operations that leave the world alone: what the abstract machine says of them is so. -/
import Derived.Test.YtmcejlhkohbdfaaAb2
set_option linter.unusedVariables false
set_option linter.unusedSimpArgs false
namespace Go.Ab
open Go.RowKit

/-- Cells that are a value's cells. -/
def CRel (I : Imm) (M : Mp) (cs : List AV) (vs : Array Value) : Prop := vs.size = cs.length ∧ ∀ (j : Nat) y u, cs[j]? = some y → vs[j]? = some u → VRel I M y u

/-- What an operation has done, said of the world. -/
def Yields1 (P : Program) (o : Oper) (ρ : Operand → Value) (I : Imm) (M : Mp) (h : Heap) (n : Nat) (w : World) (slot : Nat) (out : Out) : Prop :=
  ∃ v w' I' M', ((execOp ρ o).run P w = .ok (.value v) w' ∨ ((execOp ρ o).run P w = .ok .skip w' ∧ v = undef)) ∧ VRel I' M' out.v v ∧ HRel I' M' (updH h out.up) n w' ∧ Ext I M w I' M' w' ∧
    (∀ i, i ≠ slot → M i = .fresh → M' i = .fresh)

section
variable {P : Program} {ρ : Operand → Value} {I : Imm} {M : Mp} {h : Heap} {n : Nat} {w : World} {slot : Nat} {ev : Operand → AV}

theorem Yields1.ofRun {o : Oper} {x : AV} {rd : List Nat} {v : Value} (H : HRel I M h n w) (hr : (execOp ρ o).run P w = .ok (.value v) w) (hv : VRel I M x v) : Yields1 P o ρ I M h n w slot { v := x, rd } :=
  ⟨v, w, I, M, .inl hr, hv, H, .refl _ _ _, fun _ _ h => h⟩

/-! ### Constants -/
theorem abs1_rel (v : Value) : PRel I (absV.abs1 v) v := by
  unfold absV.abs1
  split <;> first | exact .int _ _ | exact .bool _ | exact .str _ | exact .nilsl | exact .nilp | exact .undef _

theorem absV_rel (v : Value) : PRel I (absV v) v := by
  unfold absV
  split
  · exact .int _ _
  · exact .bool _
  · exact .str _
  · exact .nilsl
  · exact .nilp
  · rename_i cs
    refine .agg _ _ (by simp) fun i x v hx hv => ?_
    simp only [List.getElem?_map, Array.getElem?_toList] at hx
    rw [hv] at hx
    simp only [Option.map_some, Option.some.injEq] at hx
    subst hx
    exact abs1_rel v
  · exact .undef _

theorem aev_rel {τ : Nat → AV} {a : Act} (h : ∀ t, VRel I M (τ t) (a.tmps.getD t undef)) (x : Operand) : VRel I M (aev τ x) (a.eval x) := by
  cases x with
  | tmp t => exact h t
  | const v => exact .pure _ _ (absV_rel v)
  | global g => exact .pure _ _ (.undef _)
  | func f => exact .pure _ _ (.func _ _ _ rfl (fun i x v hx => by simp at hx))

/-! ### Types -/
theorem run_sizeOf {t k : Nat} (ht : tsize P t = some k) (w : World) : (sizeOf t).run P w = .ok k w := by
  unfold tsize at ht
  cases hi : P.info? t with
  | none => rw [hi] at ht; cases ht
  | some i => rw [hi] at ht; cases ht; simp [sizeOf, typeInfo, hi]
theorem run_zeroValue {t : TypeId} {z : Value} (ht : tzero P t = some z) (w : World) : (zeroValue t).run P w = .ok z w := by
  unfold tzero at ht
  cases hi : P.info? t with
  | none => rw [hi] at ht; cases ht
  | some i =>
    rw [hi] at ht
    simp only [Option.bind_some] at ht
    simp [zeroValue, typeInfo, hi, ht]
theorem run_isAgg {t : TypeId} {g : Bool} (ht : tagg P t = some g) (w : World) : (isAgg t).run P w = .ok g w := by
  unfold tagg at ht
  cases hu : P.underlying t with
  | none => rw [hu] at ht; cases ht
  | some d =>
    rw [hu] at ht
    simp only [Option.map_some, Option.some.injEq] at ht
    unfold isAgg
    rw [Sem.run_bind, run_underlying hu]
    subst ht
    cases d <;> rfl
theorem telem_spec {t e : TypeId} (h : telem P t = some e) : P.underlying t = some (.slice e) := by
  unfold telem at h
  cases hu : P.underlying t with
  | none => rw [hu] at h; cases h
  | some d => rw [hu] at h; cases d <;> simp at h; rw [h]

/-- Some cells, as a value of a type. -/
theorem getAs_rel {g : Bool} {k : Nat} {cs : List AV} {x : AV} (hx : getAs g k cs = some x) {vs : Nat → Value} (hv : ∀ j y, cs[j]? = some y → VRel I M y (vs j)) :
    if g then VRel I M x (.agg ((List.range k).map vs).toArray) else VRel I M x (vs 0) := by
  unfold getAs at hx
  cases g with
  | true =>
    simp only [if_true] at hx
    split at hx
    · rename_i hk
      cases hx
      simp only [if_true]
      refine .agg _ _ (by simp; omega) fun i x v hx hv' => ?_
      rw [List.getElem?_take] at hx
      split at hx
      · rename_i hi
        simp only [List.getElem?_toArray, List.getElem?_map, List.getElem?_range hi, Option.map_some, Option.some.injEq] at hv'
        subst hv'
        exact hv i x hx
      · cases hx
    · cases hx
  | false =>
    simp only [Bool.false_eq_true, if_false] at hx ⊢
    cases cs with
    | nil => cases hx
    | cons y r => cases hx; exact hv 0 _ rfl

theorem add_off (A : Addr) (h : A.spot = none) (j : Nat) : A.add j = ⟨A.block, A.off + j, none⟩ := by
  obtain ⟨b, o, s⟩ := A
  simp only at h
  subst h
  exact Addr.add_lit b o j

/-- A variable is loaded whose cells are known. -/
theorem run_loadVar {t : TypeId} {g : Bool} {k : Nat} (hg : tagg P t = some g) (hk : tsize P t = some k) {cs : List AV} {x : AV} (hx : getAs g k cs = some x) {A : Addr} (hA : A.spot = none)
    {c : Array Value} {el : TypeId} {fr : Nat × Nat} (hc : w.heap[A.block]? = some (.cells c el fr)) (hlen : A.off + cs.length ≤ c.size)
    (hv : ∀ (j : Nat) y v, cs[j]? = some y → c[A.off + j]? = some v → VRel I M y v) :
    ∃ v, (loadVar t A).run P w = .ok v w ∧ VRel I M x v := by
  have hcell : ∀ j, j < cs.length → w.cell? (A.add j) = some (c.getD (A.off + j) undef) := fun j hj => by
    rw [add_off A hA]
    have : A.off + j < c.size := by omega
    simp [World.cell?, hc, Array.getD, this]
  have hrel : ∀ j y, cs[j]? = some y → VRel I M y ((fun j => c.getD (A.off + j) undef) j) := fun j y hy => by
    have hj : j < cs.length := (List.getElem?_eq_some_iff.1 hy).1
    have : A.off + j < c.size := by omega
    exact hv j y _ hy (by simp [Array.getD, this])
  have hr := getAs_rel hx (vs := fun j => c.getD (A.off + j) undef) hrel
  unfold getAs at hx
  unfold loadVar
  rw [Sem.run_bind, run_isAgg hg]
  cases g with
  | true =>
    simp only [if_true] at hx hr
    have hkl : k ≤ cs.length := by
      by_cases hle : k ≤ cs.length
      · exact hle
      · rw [if_neg hle] at hx; cases hx
    simp only [Result.andThen_ok, if_true, Sem.run_bind, run_sizeOf hk, run_loadCells w A k _ (fun j hj => hcell j (by omega)), Sem.run_pure]
    exact ⟨_, rfl, hr⟩
  | false =>
    simp only [Bool.false_eq_true, if_false] at hx hr
    have h0 : 0 < cs.length := by cases cs with | nil => cases hx | cons => simp
    have := hcell 0 h0
    rw [Addr.add_zero'] at this
    simp only [Result.andThen_ok, Bool.false_eq_true, if_false, run_load, this]
    exact ⟨_, rfl, hr⟩

theorem load_sound {o : Oper} {t : TypeId} {x : Operand} (ho : o.op = .load t x) (H : HRel I M h n w) (hev : ∀ x, VRel I M (ev x) (ρ x)) {out : Out} (ha : aload P h t (ev x) = some (.out out)) :
    Yields1 P o ρ I M h n w slot out := by
  have hx := hev x
  unfold aload at ha
  cases hg : tagg P t with
  | none => simp [hg] at ha
  | some g =>
  cases hk : tsize P t with
  | none => simp [hg, hk] at ha
  | some k =>
  simp only [hg, hk] at ha
  have fin : ∀ (A : Addr) (cs : List AV) (v : AV) (rd : List Nat), ρ x = .pointer (some A) → getAs g k cs = some v → A.spot = none → (∀ c el fr, w.heap[A.block]? = some (.cells c el fr) → A.off + cs.length ≤ c.size) → (∃ c el fr, w.heap[A.block]? = some (.cells c el fr) ∧ ∀ (j : Nat) y v, cs[j]? = some y → c[A.off + j]? = some v → VRel I M y v) →
      Yields1 P o ρ I M h n w slot { v, rd } := by
    intro A cs v rd hρ hgv hsp hle hex
    obtain ⟨c, el, fr, hc, hv⟩ := hex
    obtain ⟨u, hu, hr⟩ := run_loadVar hg hk hgv hsp hc (hle c el fr hc) hv
    refine .ofRun H (v := u) ?_ hr
    simp [execOp, ho, Instr.loadAt, hρ, Instr.sureAddr, hu]
  cases hav : ev x with
  | pp cs =>
    rw [hav] at ha hx
    simp only at ha
    cases hgv : getAs g k cs with
    | none => simp [hgv] at ha
    | some v =>
      simp only [hgv, Option.bind_some, pureOut, Option.some.injEq, Did.out.injEq] at ha
      subst ha
      generalize hρ : ρ x = r at hx
      cases hx.pp_inv with
      | pp _ A c el fr h1 h2 h3 h4 h5 =>
        refine fin A cs v [] hρ hgv h1 (fun c' el' fr' hc' => ?_) ⟨c, el, fr, H.imm _ _ h2, fun j y v hy hv => .pure _ _ (h5 j y v hy hv)⟩
        rw [H.imm _ _ h2] at hc'
        cases hc'
        exact h3
  | ptr b off =>
    rw [hav] at ha hx
    simp only at ha
    cases hb : h b with
    | none => simp [hb] at ha
    | some blk =>
      simp only [hb] at ha
      split at ha
      case isFalse => cases ha
      rename_i hoff
      cases hgv : getAs g k (blk.drop off) with
      | none => simp [hgv] at ha
      | some v =>
        simp only [hgv, Option.bind_some, Option.some.injEq, Did.out.injEq] at ha
        subst ha
        obtain ⟨A0, hρ, hsp, hm | ⟨A, sz, hm, rfl⟩⟩ := hx.ptr_inv
        · have := H.no b (fun A sz h => by rw [hm] at h; cases h)
          rw [hb] at this; cases this
        · obtain ⟨g1, g2, blk', c, el, g3, g4, g5, g6, g7, g8⟩ := H.live b A sz hm
          rw [hb] at g3
          cases g3
          refine fin ⟨A.block, A.off + off, none⟩ (blk.drop off) v [b] hρ hgv rfl (fun c' el' fr' hc' => ?_) ⟨c, el, (0, 0), g4, fun j y v hy hv => ?_⟩
          · rw [g4] at hc'
            cases hc'
            simp only [List.length_drop]
            omega
          · rw [List.getElem?_drop] at hy
            exact g8 (off + j) y v hy (by simpa [Nat.add_assoc] using hv)
  | _ => simp [hav] at ha

/-! ### Stores -/
theorem lay_length {cs new : List AV} {off : Nat} (h : off + new.length ≤ cs.length) : (lay cs off new).length = cs.length := by
  simp [lay]; omega
theorem lay_get {cs new : List AV} {off j : Nat} (h : off + new.length ≤ cs.length) : (lay cs off new)[j]? = if off ≤ j ∧ j < off + new.length then new[j - off]? else cs[j]? := by
  unfold lay
  have h1 : (cs.take off).length = off := by simp; omega
  by_cases h2 : off ≤ j ∧ j < off + new.length
  · rw [if_pos h2, List.append_assoc, List.getElem?_append_right (by omega), h1, List.getElem?_append_left (by omega)]
  · rw [if_neg h2]
    by_cases h3 : j < off
    · rw [List.append_assoc, List.getElem?_append_left (by omega), List.getElem?_take, if_pos h3]
    · rw [List.getElem?_append_right (by simp; omega), List.getElem?_drop]
      congr 1
      simp
      omega
theorem lay_single {cs new : List AV} {off : Nat} (h1 : cs.all (·.single) = true) (h2 : new.all (·.single) = true) : (lay cs off new).all (·.single) = true := by
  unfold lay
  rw [List.all_eq_true] at *
  intro x hx
  simp only [List.mem_append] at hx
  rcases hx with (hx | hx) | hx
  · exact h1 x (List.mem_of_mem_take hx)
  · exact h2 x hx
  · exact h1 x (List.mem_of_mem_drop hx)

theorem setRow_ext (w : World) (g : Nat) (c c' : Array Value) (el : TypeId) (hg : w.heap[g]? = some (.cells c' el (0, 0))) :
    (w.setRow g c).os = w.os ∧ (w.setRow g c).tape = w.tape ∧ (w.setRow g c).output = w.output ∧ (w.setRow g c).heap.size = w.heap.size ∧
    (∀ b, b ≠ g → (w.setRow g c).heap[b]? = w.heap[b]?) ∧ (w.setRow g c).heap[g]? = some (.cells c el (0, 0)) := by
  refine ⟨rfl, rfl, rfl, by simp [World.setRow], fun b hb => ?_, setRow_heap w g c' c el (0, 0) hg⟩
  simp only [World.setRow, Array.getElem?_modify]
  rw [if_neg (fun h => hb h.symm)]

/-- Cells stored into a block of the call's own. -/
theorem store_cells {b off : Nat} {A : Addr} {sz : Nat} {blk : Blk} {new : List AV} {vs : List Value} (H : HRel I M h n w) (hm : M b = .live A sz) (hb : h b = some blk) (hl : off + new.length ≤ blk.length)
    (hn : new.all (·.single) = true) (hv : vs.length = new.length) (hr : ∀ (j : Nat) y u, new[j]? = some y → vs[j]? = some u → VRel I M y u) :
    ∃ w', (storeCells ⟨A.block, A.off + off, none⟩ vs).run P w = .ok () w' ∧ HRel I M (upd1 h b (some (lay blk off new))) n w' ∧ Ext I M w I M w' := by
  obtain ⟨g1, g2, blk', c, el, g3, g4, g5, g6, g7, g8⟩ := H.live b A sz hm
  rw [hb] at g3
  cases g3
  have hone : ∀ v ∈ vs, v.oneCell' = true := fun v hvm => by
    obtain ⟨j, hj, rfl⟩ := List.getElem_of_mem hvm
    have hj' : j < new.length := by omega
    exact (hr j new[j] vs[j] (List.getElem?_eq_getElem hj') (List.getElem?_eq_getElem hj)).one ((List.all_eq_true.1 hn) _ (List.getElem_mem hj'))
  have hrun := run_storeCells_at (P := P) A.block (A.off + off) el vs 0 c w g4 (by omega) hone
  obtain ⟨e1, e2, e3, e4, e5, e6⟩ := setRow_ext w A.block (c.toList.take (A.off + off + 0) ++ vs ++ c.toList.drop (A.off + off + 0 + vs.length)).toArray c el g4
  have hget : ∀ k : Nat, ((c.toList.take (A.off + off + 0) ++ vs ++ c.toList.drop (A.off + off + 0 + vs.length)).toArray)[k]? = if A.off + off ≤ k ∧ k < A.off + off + vs.length then vs[k - (A.off + off)]? else c[k]? := fun k => by
    simp only [Nat.add_zero, List.getElem?_toArray]
    have h1 : (c.toList.take (A.off + off)).length = A.off + off := by simp; omega
    by_cases h2 : A.off + off ≤ k ∧ k < A.off + off + vs.length
    · rw [if_pos h2, List.append_assoc, List.getElem?_append_right (by omega), h1, List.getElem?_append_left (by omega)]
    · rw [if_neg h2]
      by_cases h3 : k < A.off + off
      · rw [List.append_assoc, List.getElem?_append_left (by omega), List.getElem?_take, if_pos h3]; simp
      · rw [List.getElem?_append_right (by simp; omega), List.getElem?_drop]
        simp only [List.length_append, h1, Array.getElem?_toList]
        congr 1
        omega
  obtain ⟨r1, r2⟩ := H.write hm e1 e2 e3 e4 e5 e6 (blk := lay blk off new) (by simp; omega) (by rw [lay_length hl]; exact g6) (lay_single g7 hn) (fun j x v hx hv' => by
    rw [lay_get hl] at hx
    rw [hget] at hv'
    by_cases h2 : off ≤ j ∧ j < off + new.length
    · rw [if_pos h2] at hx
      rw [if_pos (by omega)] at hv'
      exact hr (j - off) x v hx (by rw [← hv']; congr 1; omega)
    · rw [if_neg h2] at hx
      rw [if_neg (by omega)] at hv'
      exact g8 j x v hx hv')
  exact ⟨_, hrun, r1, r2⟩

theorem store_sound {o : Oper} {t : TypeId} {x y : Operand} (ho : o.op = .store t x y) (H : HRel I M h n w) (hev : ∀ x, VRel I M (ev x) (ρ x)) {out : Out} (ha : astore P h t (ev x) (ev y) = some (.out out)) :
    Yields1 P o ρ I M h n w slot out := by
  have hx := hev x
  have hy := hev y
  unfold astore at ha
  split at ha
  case h_2 => cases ha
  rename_i k b off cs hk hex hcs
  split at ha
  case h_2 => cases ha
  rename_i blk hb
  split at ha
  case isFalse => cases ha
  rename_i hcond
  obtain ⟨c1, c2, c3⟩ := hcond
  simp only [Option.some.injEq, Did.out.injEq] at ha
  subst ha
  rw [hex] at hx
  obtain ⟨A0, hρ, hsp, hm | ⟨A, sz, hm, rfl⟩⟩ := hx.ptr_inv
  · have := H.no b (fun A sz h => by rw [hm] at h; cases h)
    rw [hb] at this; cases this
  · obtain ⟨d1, d2⟩ := hy.cells hcs
    obtain ⟨w', r1, r2, r3⟩ := store_cells (P := P) (off := off) (new := cs) (vs := (ρ y).cells.toList) H hm hb (by omega) c3 (by simpa using d1) (fun j y' u hy' hu => d2 j y' u hy' (by simpa using hu))
    refine ⟨undef, w', I, M, .inr ⟨?_, rfl⟩, .pure _ _ (.undef _), r2, r3, fun _ _ h => h⟩
    have hsz : (ρ y).cells.size = k := by omega
    simp only [execOp, ho, Instr.storeAt, hρ, Instr.sureAddr, storeVar, Sem.run_bind, Sem.run_pure, Result.andThen_ok, run_sizeOf hk, hsz, ne_eq, not_true_eq_false, if_false, r1]

end
end Go.Ab
