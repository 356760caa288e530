/- More operations: what the abstract machine says of them is so. -/
import Derived.Test.YtmcejlhkohbdfaaAb3
set_option linter.unusedVariables false
set_option linter.unusedSimpArgs false
namespace Go.Ab
open Go.RowKit

section
variable {P : Program} {ρ : Operand → Value} {I : Imm} {M : Mp} {h : Heap} {n : Nat} {w : World} {slot : Nat} {ev : Operand → AV}

/-! ### New blocks -/
theorem zcells_spec {t : TypeId} {z : List AV} (hz : zcells P t = some z) : ∃ v, tzero P t = some v ∧ z.all (·.single) = true ∧ v.cells.size = z.length ∧ ∀ (I : Imm) (M : Mp) (j : Nat) y u, z[j]? = some y → v.cells[j]? = some u → VRel I M y u := by
  unfold zcells at hz
  cases hv : tzero P t with
  | none => simp [hv] at hz
  | some v =>
    simp only [hv, Option.bind_some] at hz
    cases hc : (absV v).cells? with
    | none => simp [hc] at hz
    | some cs =>
      simp only [hc, Option.bind_some] at hz
      split at hz
      · rename_i h1
        cases hz
        exact ⟨v, rfl, h1, (VRel.cells (I := fun _ => none) (M := M0) (.pure _ _ (absV_rel v)) hc).1, fun I M => (VRel.cells (.pure _ _ (absV_rel v)) hc).2⟩
      · cases hz

theorem updM_other {M : Mp} {slot : Nat} {s : MS} : ∀ i, i ≠ slot → M i = .fresh → updM M slot s i = .fresh := fun i hi h => by simp only [updM, if_neg hi]; exact h

/-- A new variable. -/
theorem Yields1.ofNew {o : Oper} {cs : List AV} {vs : Array Value} {el : TypeId} {x : AV} {rd : List Nat} {v : Value} (H : HRel I M h n w) (hs : M slot = .fresh) (hn : slot < n) (hl : cs.length ≤ vs.size)
    (h1 : cs.all (·.single) = true) (hc : ∀ (j : Nat) y u, cs[j]? = some y → vs[j]? = some u → VRel I M y u)
    (hr : (execOp ρ o).run P w = .ok (.value v) (w.alloc (.cells vs el))) (hv : VRel I (updM M slot (.live ⟨w.heap.size, 0, none⟩ vs.size)) x v) :
    Yields1 P o ρ I M h n w slot { v := x, up := [(slot, some cs)], rd } := by
  obtain ⟨r1, r2⟩ := H.alloc (el := el) hs hn hl h1 hc
  exact ⟨v, _, I, _, .inl hr, hv, r1, r2, updM_other⟩

theorem alloc_sound {o : Oper} {t : TypeId} (ho : o.op = .alloc t) (H : HRel I M h n w) (hs : M slot = .fresh) (hn : slot < n) {out : Out}
    (ha : (match zcells P t, tsize P t with | some z, some k => if z.length = k then some (Did.out { v := .ptr slot 0, up := [(slot, some z)] }) else none | _, _ => none) = some (.out out)) :
    Yields1 P o ρ I M h n w slot out := by
  split at ha
  case h_2 => cases ha
  rename_i z k hz hk
  split at ha
  case isFalse => cases ha
  simp only [Option.some.injEq, Did.out.injEq] at ha
  subst ha
  obtain ⟨v, hv, h1, h2, h3⟩ := zcells_spec hz
  refine .ofNew (vs := v.cells) (el := t) H hs hn (by omega) h1 (h3 I M) (v := .pointer (some ⟨w.heap.size, 0, none⟩)) ?_ (.ptr slot 0 ⟨w.heap.size, 0, none⟩ v.cells.size (by simp [updM]))
  simp [execOp, ho, Instr.alloc, run_zeroValue hv, newVar, newRow]

theorem box_sound {o : Oper} {t : TypeId} {x : Operand} (ho : o.op = .box t x) (H : HRel I M h n w) (hev : ∀ x, VRel I M (ev x) (ρ x)) (hs : M slot = .fresh) (hn : slot < n) {out : Out}
    (ha : (match (ev x).cells? with | some cs => if cs.all (·.single) then some (Did.out { v := .ptr slot 0, up := [(slot, some cs)] }) else none | none => none) = some (.out out)) :
    Yields1 P o ρ I M h n w slot out := by
  split at ha
  case h_2 => cases ha
  rename_i cs hcs
  split at ha
  case isFalse => cases ha
  rename_i h1
  simp only [Option.some.injEq, Did.out.injEq] at ha
  subst ha
  obtain ⟨d1, d2⟩ := (hev x).cells hcs
  refine .ofNew (vs := (ρ x).cells) (el := t) H hs hn (by omega) h1 d2 (v := .pointer (some ⟨w.heap.size, 0, none⟩)) ?_ (.ptr slot 0 ⟨w.heap.size, 0, none⟩ (ρ x).cells.size (by simp [updM]))
  simp [execOp, ho, Instr.box, newVar, newRow]

/-! ### Aggregates -/
theorem foldl_set_get (off : Nat) : ∀ (l : List Value) (s : Nat) (vs : Array Value) (k : Nat),
    ((l.zipIdx s).foldl (fun cs (p : Value × Nat) => cs.setIfInBounds (off + p.2) p.1) vs).size = vs.size ∧
    ((l.zipIdx s).foldl (fun cs (p : Value × Nat) => cs.setIfInBounds (off + p.2) p.1) vs)[k]? = if off + s ≤ k ∧ k < off + s + l.length ∧ k < vs.size then l[k - (off + s)]? else vs[k]?
  | [], s, vs, k => by simp; intros; omega
  | v :: l, s, vs, k => by
    simp only [List.zipIdx_cons, List.foldl_cons]
    obtain ⟨h1, h2⟩ := foldl_set_get off l (s + 1) (vs.setIfInBounds (off + s) v) k
    refine ⟨by rw [h1]; simp, ?_⟩
    rw [h2]
    simp only [Array.size_setIfInBounds, List.length_cons]
    by_cases h3 : k = off + s
    · subst h3
      rw [if_neg (by omega)]
      by_cases h4 : off + s < vs.size
      · rw [if_pos ⟨by omega, by omega, h4⟩]; simp [h4]
      · rw [if_neg (by omega)]; simp [h4]
    · rw [Array.getElem?_setIfInBounds_ne (by omega)]
      by_cases h4 : off + (s + 1) ≤ k ∧ k < off + (s + 1) + l.length ∧ k < vs.size
      · rw [if_pos h4, if_pos (by omega)]
        have : k - (off + s) = (k - (off + (s + 1))) + 1 := by omega
        rw [this, List.getElem?_cons_succ]
      · rw [if_neg h4, if_neg (by omega)]

theorem fill_sound (place : Nat → Option (Nat × Nat)) : ∀ (parts : List (Nat × AV)) (vparts : List (Nat × Value)) (cells : List AV) (vs : Array Value) (out : List AV),
    CRel I M cells vs → cells.all (·.single) = true → vparts.length = parts.length → (∀ (i : Nat) p q, parts[i]? = some p → vparts[i]? = some q → p.1 = q.1 ∧ VRel I M p.2 q.2) → afill place cells parts = some out →
    ∃ vs', Instr.fill place vs vparts = some vs' ∧ CRel I M out vs' ∧ out.all (·.single) = true
  | [], vp, cells, vs, out, hc, h1, hl, _, ha => by
    cases vp with
    | nil => simp only [afill, Option.some.injEq] at ha; subst ha; exact ⟨vs, rfl, hc, h1⟩
    | cons => simp at hl
  | (i, x) :: parts, vp, cells, vs, out, hc, h1, hl, hp, ha => by
    cases vp with
    | nil => simp at hl
    | cons q vp =>
      obtain ⟨i', v⟩ := q
      obtain ⟨e1, e2⟩ := hp 0 (i, x) (i', v) rfl rfl
      simp only at e1 e2
      subst e1
      simp only [afill] at ha
      split at ha
      case h_2 => cases ha
      rename_i off size cs hpl hcs
      split at ha
      case isFalse => cases ha
      rename_i hcond
      obtain ⟨c1, c2, c3⟩ := hcond
      obtain ⟨d1, d2⟩ := e2.cells hcs
      simp only [Instr.fill, hpl]
      rw [if_neg (by have := hc.1; simp; omega)]
      have hlen : off + cs.length ≤ cells.length := by omega
      have hfold : ∀ k, (v.cells.zipIdx.foldl (fun cs (p : Value × Nat) => cs.setIfInBounds (off + p.2) p.1) vs).size = vs.size ∧ (v.cells.zipIdx.foldl (fun cs (p : Value × Nat) => cs.setIfInBounds (off + p.2) p.1) vs)[k]? = if off ≤ k ∧ k < off + v.cells.size ∧ k < vs.size then v.cells[k - off]? else vs[k]? := fun k => by
        have := foldl_set_get off v.cells.toList 0 vs k
        rw [← Array.foldl_toList, Array.toList_zipIdx]
        simpa using this
      refine fill_sound place parts vp (lay cells off cs) _ out ⟨?_, fun j y u hy hu => ?_⟩ (lay_single h1 c3) (by simpa using hl) (fun k p q hp' hq' => hp (k + 1) p q hp' hq') ha
      · rw [(hfold 0).1, lay_length hlen]; exact hc.1
      · rw [lay_get hlen] at hy
        rw [(hfold j).2] at hu
        by_cases h2 : off ≤ j ∧ j < off + cs.length
        · rw [if_pos h2] at hy
          rw [if_pos ⟨by omega, by omega, by rw [hc.1]; omega⟩] at hu
          exact d2 _ _ _ hy hu
        · rw [if_neg h2] at hy
          rw [if_neg (by omega)] at hu
          exact hc.2 _ _ _ hy hu

theorem parts_rel (hev : ∀ x, VRel I M (ev x) (ρ x)) (ps : Array (Nat × Operand)) :
    ((ps.map fun (i, x) => (i, ρ x)).toList).length = (ps.toList.map fun (i, x) => (i, ev x)).length ∧
    ∀ (i : Nat) p q, (ps.toList.map fun (i, x) => (i, ev x))[i]? = some p → ((ps.map fun (i, x) => (i, ρ x)).toList)[i]? = some q → p.1 = q.1 ∧ VRel I M p.2 q.2 := by
  refine ⟨by simp, fun i p q hp hq => ?_⟩
  simp only [List.getElem?_map, Array.getElem?_toList] at hp
  simp only [Array.toList_map, List.getElem?_map, Array.getElem?_toList] at hq
  cases hx : ps[i]? with
  | none => simp [hx] at hp
  | some x =>
    simp only [hx, Option.map_some, Option.some.injEq] at hp hq
    subst hp; subst hq
    exact ⟨rfl, hev _⟩

theorem run_places {fs : Array Field} {pl : List (Nat × Nat)} (hp : places P fs = some pl) (w : World) :
    (fs.mapM fun (f : Field) => (do pure (f.offset, ← sizeOf f.type) : Sem (Nat × Nat))).run P w = .ok pl.toArray w := by
  have key : ∀ (l : List Field) (pl : List (Nat × Nat)), (l.mapM fun (f : Field) => (tsize P f.type).map fun n => (f.offset, n)) = some pl →
      (l.mapM fun (f : Field) => (do pure (f.offset, ← sizeOf f.type) : Sem (Nat × Nat))).run P w = .ok pl w := by
    intro l
    induction l with
    | nil => intro pl h; simp at h; subst h; rfl
    | cons f l ih =>
      intro pl h
      simp only [List.mapM_cons] at h
      cases hk : tsize P f.type with
      | none => simp [hk] at h
      | some k =>
        cases hr : (l.mapM fun (f : Field) => (tsize P f.type).map fun n => (f.offset, n)) with
        | none => simp [hk, hr] at h
        | some r =>
          simp [hk, hr] at h
          subst h
          simp only [List.mapM_cons, Sem.run_bind, run_sizeOf hk, Result.andThen_ok, Sem.run_pure, ih r hr]
  unfold places at hp
  rw [Array.mapM_eq_mapM_toList, Sem.run_map, key _ _ hp]
  rfl

theorem build_sound {o : Oper} {t : TypeId} {ps : Array (Nat × Operand)} (ho : o.op = .build t ps) (H : HRel I M h n w) (hev : ∀ x, VRel I M (ev x) (ρ x)) {x : AV}
    (ha : abuild P t (ps.toList.map fun (i, x) => (i, ev x)) = some x) : Yields1 P o ρ I M h n w slot { v := x } := by
  obtain ⟨p1, p2⟩ := parts_rel hev ps
  unfold abuild at ha
  split at ha
  · rename_i fs z hu hz
    split at ha
    case h_2 => cases ha
    rename_i pl hpl
    obtain ⟨v, hv, h1, h2, h3⟩ := zcells_spec hz
    cases hf : afill (fun i => pl[i]?) z (ps.toList.map fun (i, x) => (i, ev x)) with
    | none => simp [hf] at ha
    | some out =>
      simp only [hf, Option.map_some, Option.some.injEq] at ha
      subst ha
      obtain ⟨vs', e1, e2, e3⟩ := fill_sound (fun i => pl[i]?) _ _ z v.cells out ⟨h2, h3 I M⟩ h1 p1 p2 hf
      refine .ofRun H (v := .agg vs') ?_ (.agg _ _ e2.1 e2.2)
      have e1' : Instr.fill (fun x => pl.toArray[x]?) v.cells (ps.map fun (i, x) => (i, ρ x)).toList = some vs' := by simpa using e1
      simp only [execOp, ho, Instr.build, Sem.run_bind, run_zeroValue hv, Result.andThen_ok, run_underlying hu, run_places hpl, e1', Sem.run_pure]
  · rename_i k e z hu hz
    split at ha
    case h_2 => cases ha
    rename_i s hs
    obtain ⟨v, hv, h1, h2, h3⟩ := zcells_spec hz
    cases hf : afill (fun i => some (i * s, s)) z (ps.toList.map fun (i, x) => (i, ev x)) with
    | none => simp [hf] at ha
    | some out =>
      simp only [hf, Option.map_some, Option.some.injEq] at ha
      subst ha
      obtain ⟨vs', e1, e2, e3⟩ := fill_sound (fun i => some (i * s, s)) _ _ z v.cells out ⟨h2, h3 I M⟩ h1 p1 p2 hf
      refine .ofRun H (v := .agg vs') ?_ (.agg _ _ e2.1 e2.2)
      simp only [execOp, ho, Instr.build, Sem.run_bind, run_zeroValue hv, Result.andThen_ok, run_underlying hu, run_sizeOf hs, e1, Sem.run_pure]
  · cases ha

theorem afill_length (place : Nat → Option (Nat × Nat)) : ∀ (parts : List (Nat × AV)) (cells out : List AV), afill place cells parts = some out → out.length = cells.length
  | [], cells, out, h => by simp only [afill, Option.some.injEq] at h; rw [h]
  | (i, x) :: parts, cells, out, h => by
    simp only [afill] at h
    split at h
    case h_2 => cases h
    split at h
    case isFalse => cases h
    rename_i hcond
    rw [afill_length place parts _ _ h, lay_length (by omega)]

theorem repCells_length (z : List AV) : ∀ k, (repCells k z).length = k * z.length
  | 0 => by simp [repCells]
  | k + 1 => by simp [repCells, repCells_length z k, Nat.succ_mul, Nat.add_comm]
theorem repCells_get (z : List AV) : ∀ k j, j < k * z.length → (repCells k z)[j]? = z[j % z.length]?
  | 0, j, h => by simp at h
  | k + 1, j, h => by
    have hz : 0 < z.length := by
      rcases Nat.eq_zero_or_pos z.length with h0 | h0
      · rw [h0] at h; simp at h
      · exact h0
    simp only [repCells]
    by_cases hj : j < z.length
    · rw [List.getElem?_append_left hj, Nat.mod_eq_of_lt hj]
    · rw [List.getElem?_append_right (by omega), repCells_get z k (j - z.length) (by rw [Nat.succ_mul] at h; omega)]
      congr 1
      rw [← Nat.mod_eq_sub_mod (by omega)]
theorem repCells_single {z : List AV} (hz : z.all (·.single) = true) : ∀ k, (repCells k z).all (·.single) = true
  | 0 => rfl
  | k + 1 => by simp only [repCells, List.all_append, hz, repCells_single hz k, Bool.and_self]

/-- So many zero values, one behind the other. -/
theorem rep_rel {z : List AV} {zv : Array Value} (hz : zv.size = z.length) (hpos : 0 < z.length) (hr : ∀ (j : Nat) y u, z[j]? = some y → zv[j]? = some u → VRel I M y u) (k : Nat) :
    CRel I M (repCells k z) ((Array.range (k * z.length)).map (zv[· % zv.size]!)) := by
  refine ⟨by simp [repCells_length], fun j y u hy hu => ?_⟩
  have hj : j < k * z.length := by have := (List.getElem?_eq_some_iff.1 hy).1; rw [repCells_length] at this; exact this
  rw [repCells_get z k j hj] at hy
  simp only [Array.getElem?_map, Array.getElem?_range, hj, if_true, Option.map_some, Option.some.injEq] at hu
  have hm : j % z.length < zv.size := by rw [hz]; exact Nat.mod_lt _ hpos
  refine hr _ y u hy ?_
  rw [hz] at hu
  rw [← hu]
  simp [hm]

theorem buildSlice_sound {o : Oper} {t : TypeId} {len : Nat} {ps : Array (Nat × Operand)} (ho : o.op = .buildSlice t len ps) (H : HRel I M h n w) (hev : ∀ x, VRel I M (ev x) (ρ x)) (hs : M slot = .fresh) (hn : slot < n) {out : Out}
    (ha : abuildSlice P slot t len (ps.toList.map fun (i, x) => (i, ev x)) = some (.out out)) : Yields1 P o ρ I M h n w slot out := by
  obtain ⟨p1, p2⟩ := parts_rel hev ps
  unfold abuildSlice at ha
  split at ha
  case h_2 => cases ha
  rename_i e he
  split at ha
  case h_2 => cases ha
  rename_i s z hsz hz
  split at ha
  case isFalse => cases ha
  rename_i hcond
  obtain ⟨c1, c2⟩ := hcond
  obtain ⟨v, hv, h1, h2, h3⟩ := zcells_spec hz
  cases hf : afill (fun i => some (i * (s + 1), s + 1)) (repCells len z) (ps.toList.map fun (i, x) => (i, ev x)) with
  | none => simp [hf] at ha
  | some cs =>
    simp only [hf, Option.bind_some, Option.some.injEq, Did.out.injEq] at ha
    subst ha
    have hrep := rep_rel (I := I) (M := M) h2 (by omega) (h3 I M) len
    rw [c1] at hrep
    obtain ⟨vs', e1, e2, e3⟩ := fill_sound (fun i => some (i * (s + 1), s + 1)) _ _ _ _ cs hrep (repCells_single h1 len) p1 p2 hf
    have hlen : cs.length = len * (s + 1) := by rw [afill_length _ _ _ _ hf, repCells_length, c1]
    refine .ofNew (vs := vs') (el := e) H hs hn (by rw [e2.1]; exact Nat.le_refl _) e3 e2.2 (v := .slice (some ⟨w.heap.size, 0, none⟩) len len) ?_
      (by
        exact VRel.own_mk rfl (Nat.le_refl _) (.inr ⟨⟨w.heap.size, 0, none⟩, vs'.size, by simp [updM], .inr ⟨rfl, by rw [e2.1, hlen]; simp⟩⟩))
    by_cases h0 : len * (s + 1) = 0
    · have hr0 : ∀ g : Nat → Value, (Array.range 0).map g = #[] := fun g => by rw [Array.range_zero', Array.map_empty]
      rw [h0, hr0] at e1
      simp only [execOp, ho, Instr.buildSlice, Sem.run_bind, run_underlying (telem_spec he), Result.andThen_ok, run_sizeOf hsz, h0, if_neg (show ¬ 0 > 2 ^ 24 by omega), if_true, Sem.run_pure, hr0, e1, newRow, run_newObj, World.alloc_eq]
    · simp only [execOp, ho, Instr.buildSlice, Sem.run_bind, run_underlying (telem_spec he), Result.andThen_ok, run_sizeOf hsz, if_neg (show ¬ len * (s + 1) > 2 ^ 24 by omega), if_neg h0, run_zeroValue hv, Sem.run_pure, e1]
      simp [newRow]

/-! ### Operations without memory -/
theorem Yields1.pure' {o : Oper} {x : AV} {v : Value} (H : HRel I M h n w) (hr : (execOp ρ o).run P w = .ok (.value v) w) (hv : VRel I M x v) : Yields1 P o ρ I M h n w slot { v := x } := .ofRun H hr hv

theorem wrap_and (k : IntKind) (a b : Int) : Op.intBits .and k a b = pure (.int k (k.wrap (BitVec.ofInt k.bits a &&& BitVec.ofInt k.bits b).toNat)) := rfl

theorem binInt_sound {op : BinOp} {k : IntKind} {a b : Int} {x : AV} (hx : abinInt op k a b = some x) (t : TypeId) : ∃ v, (binOp op t (.int k a) (.int k b)).run P w = .ok v w ∧ VRel I M x v := by
  unfold abinInt at hx
  split at hx
  all_goals first
    | (cases hx; exact ⟨_, by rw [binOp_add]; rfl, .pure _ _ (.int _ _)⟩)
    | (cases hx; exact ⟨_, by rw [binOp_sub]; rfl, .pure _ _ (.int _ _)⟩)
    | (cases hx; exact ⟨_, by rw [binOp_mul]; rfl, .pure _ _ (.int _ _)⟩)
    | (cases hx; exact ⟨_, by rw [binOp_and]; rfl, .pure _ _ (.int _ _)⟩)
    | (cases hx; exact ⟨_, by rw [binOp_or]; rfl, .pure _ _ (.int _ _)⟩)
    | (cases hx; exact ⟨_, by rw [binOp_xor]; rfl, .pure _ _ (.int _ _)⟩)
    | (cases hx; exact ⟨_, by rw [binOp_andNot]; rfl, .pure _ _ (.int _ _)⟩)
    | (cases hx; exact ⟨_, by rw [binOp_eql]; rfl, .pure _ _ (.bool _)⟩)
    | (cases hx; exact ⟨_, by rw [binOp_neq]; rfl, .pure _ _ (.bool _)⟩)
    | (cases hx; exact ⟨_, by rw [binOp_lss]; rfl, .pure _ _ (.bool _)⟩)
    | (cases hx; exact ⟨_, by rw [binOp_leq]; rfl, .pure _ _ (.bool _)⟩)
    | (cases hx; exact ⟨_, by rw [binOp_gtr]; rfl, .pure _ _ (.bool _)⟩)
    | (cases hx; exact ⟨_, by rw [binOp_geq]; rfl, .pure _ _ (.bool _)⟩)
    | (split at hx <;> first
        | (cases hx; done)
        | (rename_i h0; cases hx; exact ⟨_, by rw [binOp_quo, Op.intDiv, if_neg h0]; rfl, .pure _ _ (.int _ _)⟩)
        | (rename_i h0; cases hx; exact ⟨_, by rw [binOp_rem, Op.intDiv, if_neg h0]; rfl, .pure _ _ (.int _ _)⟩))
    | (cases hx; done)

theorem shift_sound {op : BinOp} {k k' : IntKind} {a b : Int} {x : AV} (hop : op = .shl ∨ op = .shr) (hx : ashift op k a b = some x) (t : TypeId) : ∃ v, (binOp op t (.int k a) (.int k' b)).run P w = .ok v w ∧ VRel I M x v := by
  unfold ashift at hx
  split at hx
  case isTrue => cases hx
  rename_i hb
  rcases hop with rfl | rfl
  · cases hx; exact ⟨_, by rw [binOp_shl, Op.shift, if_neg hb]; rfl, .pure _ _ (.int _ _)⟩
  · cases hx; exact ⟨_, by rw [binOp_shr, Op.shift, if_neg hb]; rfl, .pure _ _ (.int _ _)⟩

theorem strop_sound {op : BinOp} {a b : ByteArray} {x : AV} (hx : astrop op a b = some x) (t : TypeId) : ∃ v, (binOp op t (.string a) (.string b)).run P w = .ok v w ∧ VRel I M x v := by
  unfold astrop at hx
  split at hx
  · split at hx
    case isTrue => cases hx
    rename_i hb
    cases hx
    refine ⟨.string (a ++ b), ?_, .pure _ _ (.str _)⟩
    simp only [binOp, Op.stringOp]
    rw [if_neg hb]; rfl
  · cases hx; exact ⟨_, rfl, .pure _ _ (.bool _)⟩
  · cases hx; exact ⟨_, rfl, .pure _ _ (.bool _)⟩
  · cases hx

theorem un_sound {op : UnOp} {a x : AV} {v : Value} (hv : VRel I M a v) (hx : aun op a = some x) : ∃ u, (Op.unary op v).run P w = .ok u w ∧ VRel I M x u := by
  unfold aun at hx
  split at hx
  · cases hx; rw [hv.int_inv]; exact ⟨_, rfl, .pure _ _ (.int _ _)⟩
  · cases hx; rw [hv.bool_inv]; exact ⟨_, rfl, .pure _ _ (.bool _)⟩
  · cases hx

theorem aint_rel {a : AV} {v : Value} {i : Int} (hv : VRel I M a v) (hi : aint a = some i) : ∃ k, v = .int k i := by
  unfold aint at hi
  split at hi
  · cases hi; exact ⟨_, hv.int_inv⟩
  · cases hi

/-- A slice's bounds. -/
theorem bounds_sound {s : Bool} {len cap : Nat} {lo hi : Option AV} {vlo vhi : Option Value} (hlo : ∀ a, lo = some a → ∃ v, vlo = some v ∧ VRel I M a v) (hlo0 : lo = none → vlo = none)
    (hhi : ∀ a, hi = some a → ∃ v, vhi = some v ∧ VRel I M a v) (hhi0 : hi = none → vhi = none) (hcap : len ≤ cap) {l r : Nat}
    (hb : (match (match hi with | some v => aint v | none => some (len : Int)), (match lo with | some v => aint v | none => some 0) with
      | some h, some l => if 0 ≤ l ∧ l ≤ h ∧ h ≤ len then some (l.toNat, h.toNat) else none
      | _, _ => none) = some (l, r)) :
    (Instr.sliceBounds s len cap vlo vhi none).run P w = .ok (l, r, cap) w ∧ l ≤ r ∧ r ≤ len := by
  split at hb
  case h_2 => cases hb
  rename_i hh ll e1 e2
  split at hb
  case isFalse => cases hb
  rename_i hcond
  obtain ⟨c1, c2, c3⟩ := hcond
  simp only [Option.some.injEq, Prod.mk.injEq] at hb
  obtain ⟨rfl, rfl⟩ := hb
  refine ⟨?_, by omega, by omega⟩
  have bd : ∀ (v : Value) (a : AV) (i : Int) (y : Nat) (code : BoundsCode), VRel I M a v → aint a = some i → 0 ≤ i → i ≤ y → (Instr.sliceBound v y code).run P w = .ok i.toNat w := fun v a i y code hv ha h0 h1 => by
    obtain ⟨k, rfl⟩ := aint_rel hv ha
    simp [Instr.sliceBound, asIntOf, h0, h1]
  cases hi with
  | none =>
    rw [hhi0 rfl]
    simp only at e1
    cases e1
    cases lo with
    | none => rw [hlo0 rfl]; simp only at e2; cases e2; simp [Instr.sliceBounds]
    | some a =>
      obtain ⟨v, rfl, hv⟩ := hlo a rfl
      simp [Instr.sliceBounds, bd v a ll len _ hv e2 c1 c2]
  | some b =>
    obtain ⟨u, rfl, hu⟩ := hhi b rfl
    simp only at e1
    have hb' := fun code => bd u b hh cap code hu e1 (by omega) (by omega)
    cases lo with
    | none => rw [hlo0 rfl]; simp only at e2; cases e2; cases s <;> simp [Instr.sliceBounds, hb']
    | some a =>
      obtain ⟨v, rfl, hv⟩ := hlo a rfl
      have hl' := fun code => bd v a ll hh.toNat code hv e2 c1 (by omega)
      cases s <;> simp [Instr.sliceBounds, hb', hl']

theorem slice_sound {o : Oper} {t : TypeId} {x : Operand} {lo hi : Option Operand} (ho : o.op = .slice t x lo hi none) (H : HRel I M h n w) (hev : ∀ x, VRel I M (ev x) (ρ x)) {y : AV}
    (ha : aslice P t (ev x) (lo.map ev) (hi.map ev) = some y) : Yields1 P o ρ I M h n w slot { v := y } := by
  have hx := hev x
  have hlo : ∀ a, lo.map ev = some a → ∃ v, lo.map ρ = some v ∧ VRel I M a v := fun a e => by cases lo <;> simp at e; subst e; exact ⟨_, rfl, hev _⟩
  have hlo0 : lo.map ev = none → lo.map ρ = none := fun e => by cases lo <;> simp at e; rfl
  have hhi : ∀ a, hi.map ev = some a → ∃ v, hi.map ρ = some v ∧ VRel I M a v := fun a e => by cases hi <;> simp at e; subst e; exact ⟨_, rfl, hev _⟩
  have hhi0 : hi.map ev = none → hi.map ρ = none := fun e => by cases hi <;> simp at e; rfl
  unfold aslice at ha
  simp only at ha
  split at ha
  · -- a string
    rename_i s hu hes
    simp only [Option.map_eq_some_iff] at ha
    obtain ⟨⟨l, r⟩, hb, rfl⟩ := ha
    rw [hes] at hx
    obtain ⟨b1, b2, b3⟩ := bounds_sound (P := P) (w := w) (s := false) hlo hlo0 hhi hhi0 (Nat.le_refl _) hb
    refine .pure' H (v := .string (s.extract l r)) ?_ (.pure _ _ (.str _))
    simp [execOp, ho, Instr.sliceAt, run_underlying hu, Instr.slice, hx.str_inv, b1]
  · -- a slice that is only read
    rename_i e s xs hu hes
    split at ha
    case isFalse => cases ha
    rename_i hsz
    simp only [Option.map_eq_some_iff] at ha
    obtain ⟨⟨l, r⟩, hb, rfl⟩ := ha
    rw [hes] at hx
    generalize hρ : ρ x = q at hx
    cases hx.sl_inv with
    | sl0 _ a cap =>
      obtain ⟨b1, b2, b3⟩ := bounds_sound (P := P) (w := w) (s := true) (cap := cap) hlo hlo0 hhi hhi0 (by simp) hb
      simp only [List.length_nil] at b3
      have hl0 : l = 0 := by omega
      have hr0 : r = 0 := by omega
      subst hl0; subst hr0
      refine .pure' H (v := .slice (if cap = 0 then a else a.map (·.add (0 * s))) (0 - 0) (cap - 0)) ?_ ?_
      · simp only [execOp, ho, Instr.sliceAt, Sem.run_bind, run_underlying hu, Result.andThen_ok, Instr.slice, hρ]
        simp only [List.length_nil] at b1
        simp [run_underlying hu, b1, run_sizeOf hsz]
      · simp only [List.take_nil, List.drop_nil]
        exact .pure _ _ (.sl0 _ _ _)
    | sl _ _ A n' cap c el fr h1 h2 h3 h4 h5 h6 h7 h8 =>
      obtain ⟨b1, b2, b3⟩ := bounds_sound (P := P) (w := w) (s := true) (cap := cap) hlo hlo0 hhi hhi0 (by omega) hb
      refine .pure' H (v := .slice (if cap = l then some A else some (A.add (l * s))) (r - l) (cap - l)) ?_ ?_
      · simp only [execOp, ho, Instr.sliceAt, Sem.run_bind, run_underlying hu, Result.andThen_ok, Instr.slice, hρ]
        rw [← h2] at b1
        simp [run_underlying hu, b1, run_sizeOf hsz]
      · by_cases hlr : l = r
        · subst hlr
          have : (xs.take l).drop l = [] := by simp
          rw [this, Nat.sub_self]
          split <;> exact .pure _ _ (.sl0 _ _ _)
        · rw [if_neg (by omega)]
          refine .pure _ _ (.sl s _ (A.add (l * s)) (r - l) (cap - l) c el fr ?_ (by simp; omega) (by omega) (by rw [add_off A h4]) (by rw [add_off A h4]; exact h5) ?_ ?_ ?_)
          · intro e
            have := congrArg List.length e
            simp at this
            omega
          · rw [add_off A h4]
            simp only
            have : l * s + (r - l) * s = r * s := by rw [← Nat.add_mul]; congr 1; omega
            have : r * s ≤ xs.length * s := Nat.mul_le_mul_right _ b3
            rw [h2] at h6
            omega
          · intro i x hx'
            rw [List.getElem?_drop, List.getElem?_take] at hx'
            split at hx'
            · exact h7 _ _ hx'
            · cases hx'
          · intro i x cs j y v hx' hcs hy hv
            rw [List.getElem?_drop, List.getElem?_take] at hx'
            split at hx'
            · refine h8 (l + i) x cs j y v hx' hcs hy ?_
              rw [← hv, add_off A h4]
              simp only
              congr 1
              rw [Nat.add_mul]
              omega
            · cases hx'
  · -- nil
    rename_i e hu hes
    split at ha
    case h_2 => cases ha
    rename_i z hz
    simp only [Option.map_eq_some_iff] at ha
    obtain ⟨⟨l, r⟩, hb, rfl⟩ := ha
    rw [hes] at hx
    have hρ := hx.nilsl_inv
    obtain ⟨b1, b2, b3⟩ := bounds_sound (P := P) (w := w) (s := true) (cap := 0) hlo hlo0 hhi hhi0 (Nat.le_refl _) hb
    have hl0 : l = 0 := by omega
    have hr0 : r = 0 := by omega
    subst hl0; subst hr0
    refine .pure' H (v := .slice none 0 0) ?_ (.pure _ _ .nilsl)
    simp [execOp, ho, Instr.sliceAt, run_underlying hu, Instr.slice, hρ, b1, run_sizeOf hz]
  · -- an own slice
    rename_i e b off len s hu hes
    split at ha
    case h_2 => cases ha
    rename_i z hz
    split at ha
    case isFalse => cases ha
    rename_i hzs
    subst hzs
    simp only [Option.map_eq_some_iff] at ha
    obtain ⟨⟨l, r⟩, hb, rfl⟩ := ha
    rw [hes] at hx
    obtain ⟨A, cap, hρ, hA, hcap, hm⟩ := hx.own_inv
    obtain ⟨b1, b2, b3⟩ := bounds_sound (P := P) (w := w) (s := true) hlo hlo0 hhi hhi0 hcap hb
    refine .pure' H (v := .slice (some (if cap = l then A else A.add (l * z))) (r - l) (cap - l)) ?_ (.own_mk ?_ (by omega) ?_)
    · simp only [execOp, ho, Instr.sliceAt, Sem.run_bind, run_underlying hu, Result.andThen_ok, Instr.slice, hρ]
      simp only [run_underlying hu, Option.map_none, b1, run_sizeOf hz, Sem.run_bind, Result.andThen_ok, Sem.run_pure]
      by_cases hc : cap = l
      · simp only [if_pos hc]
      · simp only [if_neg hc, Option.map_some]
    · split
      · exact hA
      · rw [add_off A hA]
    · refine hm.imp id fun ⟨B, sz, h1, h2⟩ => ⟨B, sz, h1, ?_⟩
      by_cases hc : cap = l
      · exact .inl (by omega)
      · rw [if_neg hc, add_off A hA]
        rcases h2 with h2 | ⟨rfl, h3⟩
        · exact .inl (by omega)
        · refine .inr ⟨by simp only [Nat.add_assoc], ?_⟩
          have : l * z + (cap - l) * z = cap * z := by rw [← Nat.add_mul]; congr 1; omega
          dsimp only
          omega
  · cases ha

theorem part_sound {t : TypeId} {cs : List AV} {vs : Array Value} {off : Nat} {x : AV} (hc : CRel I M cs vs) (ha : apart P t cs off = some x) : ∃ v, (part t vs off).run P w = .ok v w ∧ VRel I M x v := by
  unfold apart at ha
  split at ha
  case h_2 => cases ha
  rename_i g k hg hk
  have hr := getAs_rel (I := I) (M := M) ha (vs := fun j => vs.getD (off + j) undef) fun j y hy => by
    rw [List.getElem?_drop] at hy
    have hj : off + j < cs.length := (List.getElem?_eq_some_iff.1 hy).1
    refine hc.2 _ y _ hy ?_
    have : off + j < vs.size := by rw [hc.1]; exact hj
    simp [Array.getD, this]
  unfold getAs at ha
  unfold part
  cases g with
  | true =>
    simp only [if_true] at ha hr
    have hk' : k ≤ (cs.drop off).length := by
      by_cases hle : k ≤ (cs.drop off).length
      · exact hle
      · rw [if_neg hle] at ha; cases ha
    refine ⟨.agg (vs.extract off (off + k)), by simp [run_isAgg hg, run_sizeOf hk], ?_⟩
    have : vs.extract off (off + k) = ((List.range k).map fun j => vs.getD (off + j) undef).toArray := by
      apply Array.ext_getElem?
      intro j
      simp only [List.length_drop] at hk'
      have := hc.1
      by_cases hj : j < k
      · rw [Array.getElem?_extract]
        have hlt : off + j < vs.size := by omega
        simp [hj, Array.getD, hlt]
        omega
      · rw [Array.getElem?_eq_none (by simp; omega), Array.getElem?_eq_none (by simp; omega)]
    rw [this]; exact hr
  | false =>
    simp only [Bool.false_eq_true, if_false] at ha hr
    have h0 : off < cs.length := by
      cases hd : cs.drop off with
      | nil => rw [hd] at ha; cases ha
      | cons y r => have := congrArg List.length hd; simp at this; omega
    have : off < vs.size := by rw [hc.1]; exact h0
    refine ⟨vs[off], by simp [run_isAgg hg, this], ?_⟩
    simpa [Array.getD, this] using hr

theorem field_sound {o : Oper} {t : TypeId} {x : Operand} {i : Nat} (ho : o.op = .field t x i) (H : HRel I M h n w) (hev : ∀ x, VRel I M (ev x) (ρ x)) {y : AV} (ha : afield P t (ev x) i = some y) : Yields1 P o ρ I M h n w slot { v := y } := by
  have hx := hev x
  unfold afield at ha
  split at ha
  case h_2 => cases ha
  rename_i fs cs hu hes
  split at ha
  case h_2 => cases ha
  rename_i f hf
  rw [hes] at hx
  obtain ⟨vs, hρ, hc⟩ := hx.agg_inv
  obtain ⟨v, h1, h2⟩ := part_sound (P := P) (w := w) hc ha
  refine .pure' H (v := v) ?_ h2
  simp [execOp, ho, Instr.field, run_underlying hu, hf, hρ, asAgg, h1]

theorem extract_sound {o : Oper} {x : Operand} {i : Nat} (ho : o.op = .extract x i) (H : HRel I M h n w) (hev : ∀ x, VRel I M (ev x) (ρ x)) {y : AV} {vs : List AV} (he : ev x = .tup vs) (ha : vs[i]? = some y) : Yields1 P o ρ I M h n w slot { v := y } := by
  have hx := hev x
  rw [he] at hx
  obtain ⟨us, hρ, h1, h2⟩ := hx.tup_inv
  have hi : i < us.size := by rw [h1]; exact (List.getElem?_eq_some_iff.1 ha).1
  refine .pure' H (v := us[i]) ?_ (h2 i y _ ha (by simp))
  simp [execOp, ho, Instr.extract, hρ, hi]

theorem fieldAddr_sound {o : Oper} {t : TypeId} {x : Operand} {i : Nat} (ho : o.op = .fieldAddr t x i) (H : HRel I M h n w) (hev : ∀ x, VRel I M (ev x) (ρ x)) {y : AV} (ha : afieldAddr P t (ev x) i = some y) : Yields1 P o ρ I M h n w slot { v := y } := by
  have hx := hev x
  unfold afieldAddr at ha
  split at ha
  case h_2 => cases ha
  rename_i fs hu
  split at ha
  case h_2 => cases ha
  rename_i f hf
  split at ha
  case h_2 => cases ha
  rename_i k hk
  have run : ∀ A, ρ x = .pointer (some A) → (execOp ρ o).run P w = .ok (.value (.pointer (some (A.add f.offset)))) w := fun A hA => by
    simp [execOp, ho, Instr.fieldAt, run_underlying hu, hf, hA, Instr.sureAddr, fieldPlace, run_sizeOf hk]
  split at ha
  · rename_i b off hes
    cases ha
    rw [hes] at hx
    obtain ⟨A, hρ, hA, hm⟩ := hx.ptr_inv
    refine .pure' H (run A hρ) ?_
    rw [add_off A hA]
    exact .ptr_mk rfl (hm.imp id fun ⟨B, sz, h1, h2⟩ => ⟨B, sz, h1, by rw [h2]; simp only [Nat.add_assoc]⟩)
  · rename_i cs hes
    split at ha
    case isFalse => cases ha
    rename_i hd
    cases ha
    rw [hes] at hx
    generalize hρ : ρ x = q at hx
    cases hx.pp_inv with
    | pp _ A c el fr h1 h2 h3 h4 h5 =>
      refine .pure' H (run A hρ) (.pure _ _ ?_)
      refine .pp _ (A.add f.offset) c el fr (by rw [add_off A h1]) (by rw [add_off A h1]; exact h2) (by rw [add_off A h1]; simp; omega) ?_ fun j y v hy hv => ?_
      · rw [List.all_eq_true] at h4 ⊢
        exact fun y hy => h4 y (List.mem_of_mem_drop hy)
      · rw [List.getElem?_drop] at hy
        rw [add_off A h1] at hv
        exact h5 _ y v hy (by simpa [Nat.add_assoc] using hv)
  · cases ha

theorem indexAddr_sound {o : Oper} {t : TypeId} {x ix : Operand} (ho : o.op = .indexAddr t x ix) (H : HRel I M h n w) (hev : ∀ x, VRel I M (ev x) (ρ x)) {y : AV} (ha : aindexAddr P t (ev x) (ev ix) = some y) : Yields1 P o ρ I M h n w slot { v := y } := by
  have hx := hev x
  unfold aindexAddr at ha
  split at ha
  case h_2 => cases ha
  rename_i i hi
  obtain ⟨k, hk⟩ := aint_rel (hev ix) hi
  split at ha
  · rename_i e s xs hu hes
    split at ha
    case isFalse => cases ha
    rename_i hcond
    obtain ⟨c1, c2, c3⟩ := hcond
    rw [hes] at hx
    generalize hρ : ρ x = q at hx
    simp only [Option.map_eq_some_iff] at ha
    obtain ⟨cs, hcs, rfl⟩ := ha
    have hlt : i.toNat < xs.length := by omega
    have hget : xs[i.toNat]? = some (xs.getD i.toNat .undef) := by simp [List.getD, hlt]
    cases hx.sl_inv with
    | sl0 => simp at hlt
    | sl _ _ A n' cap c el fr h1 h2 h3 h4 h5 h6 h7 h8 =>
      obtain ⟨cs', d1, d2, d3⟩ := h7 _ _ hget
      rw [hcs] at d1
      cases d1
      refine .pure' H (v := .pointer (some (A.add (i.toNat * s)))) ?_ (.pure _ _ (.pp _ _ c el fr (by rw [add_off A h4]) (by rw [add_off A h4]; exact h5) ?_ d3 fun j y v hy hv => ?_))
      · have : i < n' := by omega
        simp [execOp, ho, Instr.indexAt, hk, asIntOf, run_underlying hu, hρ, c2, this, run_sizeOf c1]
      · rw [add_off A h4]
        simp only [d2]
        have : (i.toNat + 1) * s ≤ xs.length * s := Nat.mul_le_mul_right _ hlt
        rw [Nat.succ_mul] at this
        rw [h2] at h6
        omega
      · rw [add_off A h4] at hv
        exact h8 _ _ _ j y v hget hcs hy (by rw [← hv]; simp only [Nat.add_assoc])
  · rename_i e b off len s hu hes
    split at ha
    case h_2 => cases ha
    rename_i z hz
    split at ha
    case isFalse => cases ha
    rename_i hcond
    obtain ⟨rfl, c2, c3⟩ := hcond
    cases ha
    rw [hes] at hx
    obtain ⟨A, cap, hρ, hA, hcap, hm⟩ := hx.own_inv
    refine .pure' H (v := .pointer (some (A.add (i.toNat * z)))) ?_ ?_
    · simp [execOp, ho, Instr.indexAt, hk, asIntOf, run_underlying hu, hρ, c2, c3, run_sizeOf hz]
    · rw [add_off A hA]
      refine .ptr_mk rfl (hm.imp id fun ⟨B, sz, h1, h2⟩ => ⟨B, sz, h1, ?_⟩)
      rcases h2 with h2 | ⟨h2, _⟩
      · omega
      · rw [h2]; simp only [Nat.add_assoc]
  · rename_i k' e b off hu hes
    split at ha
    case h_2 => cases ha
    rename_i z hz
    split at ha
    case isFalse => cases ha
    rename_i hcond
    obtain ⟨c2, c3⟩ := hcond
    cases ha
    rw [hes] at hx
    obtain ⟨A, hρ, hA, hm⟩ := hx.ptr_inv
    refine .pure' H (v := .pointer (some (A.add (i.toNat * z)))) ?_ ?_
    · simp [execOp, ho, Instr.indexAt, hk, asIntOf, run_underlying hu, hρ, c2, c3, run_sizeOf hz, Instr.sureAddr]
    · rw [add_off A hA]
      exact .ptr_mk rfl (hm.imp id fun ⟨B, sz, h1, h2⟩ => ⟨B, sz, h1, by rw [h2]; simp only [Nat.add_assoc]⟩)
  · cases ha

theorem index_sound {o : Oper} {t : TypeId} {x ix : Operand} (ho : o.op = .index t x ix) (H : HRel I M h n w) (hev : ∀ x, VRel I M (ev x) (ρ x)) {y : AV} (ha : aindex P t (ev x) (ev ix) = some y) : Yields1 P o ρ I M h n w slot { v := y } := by
  have hx := hev x
  unfold aindex at ha
  split at ha
  case h_2 => cases ha
  rename_i i hi
  obtain ⟨k, hk⟩ := aint_rel (hev ix) hi
  split at ha
  · rename_i s hu hes
    split at ha
    case isFalse => cases ha
    rename_i h0
    simp only [Option.map_eq_some_iff] at ha
    obtain ⟨b, hb, rfl⟩ := ha
    rw [hes] at hx
    refine .pure' H (v := .int .u8 b.toNat) ?_ (.pure _ _ (.int _ _))
    simp [execOp, ho, Instr.index, hk, asIntOf, run_underlying hu, hx.str_inv, h0, hb]
  · rename_i k' e cs hu hes
    split at ha
    case h_2 => cases ha
    rename_i z hz
    split at ha
    case isFalse => cases ha
    rename_i hcond
    rw [hes] at hx
    obtain ⟨vs, hρ, hc⟩ := hx.agg_inv
    obtain ⟨v, h1, h2⟩ := part_sound (P := P) (w := w) hc ha
    refine .pure' H (v := v) ?_ h2
    simp [execOp, ho, Instr.index, hk, asIntOf, run_underlying hu, hρ, hcond.1, hcond.2, run_sizeOf hz, h1]
  · cases ha

end
end Go.Ab
