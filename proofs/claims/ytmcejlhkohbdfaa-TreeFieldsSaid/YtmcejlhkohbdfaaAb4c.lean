/- Equality, len, copy and the rest; and all operations together. -/
import Derived.Test.YtmcejlhkohbdfaaAb4b
set_option linter.unusedVariables false
set_option linter.unusedSimpArgs false
namespace Go.Ab
open Go.RowKit

section
variable {P : Program} {ρ : Operand → Value} {I : Imm} {M : Mp} {h : Heap} {n : Nat} {w : World} {slot : Nat} {ev : Operand → AV}

theorem copy_sound {o : Oper} {args : Array Operand} {argTypes : Array TypeId} (ho : o.op = .call { callee := .builtin .copy, args, argTypes }) (H : HRel I M h n w) (hev : ∀ x, VRel I M (ev x) (ρ x))
    {x y : Operand} (hargs : args.toList = [x, y]) {out : Out} (ha : acopy P h argTypes (ev x) (ev y) = some (.out out)) : Yields1 P o ρ I M h n w slot out := by
  have hargs' : args = #[x, y] := by rw [← Array.toArray_toList (xs := args), hargs]
  subst hargs'
  unfold acopy at ha
  split at ha
  case h_2 => cases ha
  rename_i e he
  obtain ⟨t0, ht0, ht0'⟩ : ∃ t0, argTypes[0]? = some t0 ∧ telem P t0 = some e := by
    cases h0 : argTypes[0]? with
    | none => simp [h0] at he
    | some t0 => exact ⟨t0, rfl, by simpa [h0] using he⟩
  split at ha
  case h_2 => cases ha
  rename_i s hsz
  replace hsz : tsize P e = some (s + 1) := hsz
  split at ha
  case h_2 => cases ha
  rename_i b off len s' new k rd hex hsrc
  split at ha
  case h_2 => cases ha
  rename_i blk hb
  split at ha
  case isFalse => cases ha
  rename_i hc
  obtain ⟨rfl, hoff⟩ := hc
  cases ha
  have hx := hev x
  rw [hex] at hx
  obtain ⟨s1, s2, s3, s4⟩ := srcCells_sound (P := P) H (hev y) hsrc
  obtain ⟨vs, v1, v2, v3⟩ := s4 (min k len) (Nat.min_le_left _ _)
  obtain ⟨A, cap, hρ, hA, hcap, hm⟩ := hx.own_inv
  rcases hm with hm | ⟨B, sz, hm, hB⟩
  · have := H.no b (fun A sz h => by rw [hm] at h; cases h)
    rw [hb] at this; cases this
  have hmk : min k len * (s + 1) ≤ k * (s + 1) := Nat.mul_le_mul_right _ (Nat.min_le_left _ _)
  have hml : min k len * (s + 1) ≤ len * (s + 1) := Nat.mul_le_mul_right _ (Nat.min_le_right _ _)
  have hnl : (new.take (min k len * (s + 1))).length = min k len * (s + 1) := by simp; omega
  have hrun : (execOp ρ o).run P w = ((storeCells A vs).run P w).andThen fun _ w' => .ok (.value (.int .i64 (min k len : Nat))) w' := by
    simp only [execOp, ho, resolve, invoke, builtin, Builtin.copy_, List.map_toArray, List.map_cons, List.map_nil, List.getElem?_toArray, List.getElem?_cons_zero, List.getElem?_cons_succ, ht0, hρ, Sem.run_bind, Sem.run_pure, Result.andThen_ok,
      run_underlying (telem_spec ht0'), run_sizeOf hsz, s3, pure_bind]
    rw [show k.min len = min k len from rfl, v1]
    simp only [Result.andThen_ok, Sem.run_bind, Sem.run_pure, goInt]
    cases (storeCells A vs).run P w <;> rfl
  by_cases h0 : min k len = 0
  · have hvs : vs = [] := List.eq_nil_of_length_eq_zero (by rw [v2, h0]; simp)
    subst hvs
    simp only [storeCells, Sem.run_pure, Result.andThen_ok] at hrun
    have hlay : lay blk off (new.take (min k len * (s + 1))) = blk := by
      rw [h0]; simp [lay]
    refine ⟨_, w, I, M, .inl hrun, .pure _ _ (.int _ _), ?_, .refl _ _ _, fun _ _ h => h⟩
    have hh : updH h [(b, some (lay blk off (new.take (min k len * (s + 1)))))] = h := by
      funext i
      simp only [updH, hlay]
      by_cases hi : i = b
      · rw [if_pos hi, hi, hb]
      · rw [if_neg hi]
    rw [hh]
    exact H
  · rcases hB with hB | ⟨rfl, hB⟩
    · omega
    · obtain ⟨w', r1, r2, r3⟩ := store_cells (P := P) (off := off) (new := new.take (min k len * (s + 1))) (vs := vs) H hm hb (by rw [hnl]; omega)
        (by rw [List.all_eq_true] at s2 ⊢; exact fun x hx => s2 x (List.mem_of_mem_take hx)) (by rw [hnl, v2]) (fun j y' u hy' hu => by
          rw [List.getElem?_take] at hy'
          split at hy'
          · exact v3 j y' u hy' hu
          · cases hy')
      rw [r1] at hrun
      exact ⟨_, w', I, M, .inl hrun, .pure _ _ (.int _ _), r2, r3, fun _ _ h => h⟩

theorem len_sound {o : Oper} {args : Array Operand} {argTypes : Array TypeId} (ho : o.op = .call { callee := .builtin .len, args, argTypes }) (H : HRel I M h n w) (hev : ∀ x, VRel I M (ev x) (ρ x))
    {x : Operand} (hargs : args.toList = [x]) {t : TypeId} (ht : argTypes[0]? = some t) {y : AV} (ha : alen P t (ev x) = some y) : Yields1 P o ρ I M h n w slot { v := y } := by
  have hargs' : args = #[x] := by rw [← Array.toArray_toList (xs := args), hargs]
  subst hargs'
  have hx := hev x
  have hrun : (execOp ρ o).run P w = ((Builtin.len_ argTypes o.type #[ρ x]).run P w).andThen fun v w' => .ok (.value v) w' := by
    simp only [execOp, ho, resolve, invoke, builtin, List.map_toArray, List.map_cons, List.map_nil, Sem.run_bind, Sem.run_pure, pure_bind]
  unfold alen at ha
  split at ha
  · rename_i s hu hes
    cases ha
    rw [hes] at hx
    refine .pure' H (v := .int .i64 s.size) ?_ (.pure _ _ (.int _ _))
    rw [hrun]
    simp [Builtin.len_, ht, run_underlying hu, hx.str_inv, goInt]
  · rename_i k e hu
    cases ha
    refine .pure' H (v := .int .i64 k) ?_ (.pure _ _ (.int _ _))
    rw [hrun]
    simp [Builtin.len_, ht, run_underlying hu, goInt]
  · rename_i e s xs hu hes
    cases ha
    rw [hes] at hx
    refine .pure' H (v := .int .i64 xs.length) ?_ (.pure _ _ (.int _ _))
    rw [hrun]
    generalize hρ : ρ x = q at hx
    cases hx.sl_inv with
    | sl0 => simp [Builtin.len_, ht, run_underlying hu, goInt]
    | sl _ _ A n' cap c el fr h1 h2 => simp [Builtin.len_, ht, run_underlying hu, goInt, h2]
  · rename_i e hu hes
    cases ha
    rw [hes] at hx
    refine .pure' H (v := .int .i64 0) ?_ (.pure _ _ (.int _ _))
    rw [hrun]
    simp [Builtin.len_, ht, run_underlying hu, goInt, hx.nilsl_inv]
  · rename_i e b off len s hu hes
    cases ha
    rw [hes] at hx
    obtain ⟨A, cap, hρ, _⟩ := hx.own_inv
    refine .pure' H (v := .int .i64 len) ?_ (.pure _ _ (.int _ _))
    rw [hrun]
    simp [Builtin.len_, ht, run_underlying hu, goInt, hρ]
  · cases ha

theorem fold2_sound (f : AV → AV → Option AV) (g : Value → Value → Sem Value) (hfg : ∀ a b c u v, VRel I M a u → VRel I M b v → f a b = some c → ∃ r, (g u v).run P w = .ok r w ∧ VRel I M c r) :
    ∀ (l : List Operand) (a c : AV) (u : Value), VRel I M a u → (hev : ∀ x, VRel I M (ev x) (ρ x)) → (l.map ev).foldlM f a = some c → ∃ r, ((l.map ρ).foldlM g u).run P w = .ok r w ∧ VRel I M c r
  | [], a, c, u, hu, _, h => by simp at h; subst h; exact ⟨u, rfl, hu⟩
  | x :: l, a, c, u, hu, hev, h => by
    simp only [List.map_cons, List.foldlM_cons] at h ⊢
    cases hf : f a (ev x) with
    | none => simp [hf] at h
    | some b =>
      simp only [hf, Option.bind_eq_bind, Option.bind_some] at h
      obtain ⟨r, h1, h2⟩ := hfg _ _ _ _ _ hu (hev x) hf
      obtain ⟨r', h3, h4⟩ := fold2_sound f g hfg l b c r h2 hev h
      exact ⟨r', by rw [Sem.run_bind, h1]; exact h3, h4⟩

theorem max2_rel {a b c : AV} {u v : Value} (hu : VRel I M a u) (hv : VRel I M b v) (h : amax2 a b = some c) : ∃ r, (Builtin.max2 u v).run P w = .ok r w ∧ VRel I M c r := by
  unfold amax2 at h
  split at h
  · split at h
    · rename_i hk; subst hk; cases h
      rw [hu.int_inv, hv.int_inv]
      exact ⟨_, rfl, .pure _ _ (.int _ _)⟩
    · cases h
  · cases h
theorem min2_rel {a b c : AV} {u v : Value} (hu : VRel I M a u) (hv : VRel I M b v) (h : amin2 a b = some c) : ∃ r, (Builtin.min2 u v).run P w = .ok r w ∧ VRel I M c r := by
  unfold amin2 at h
  split at h
  · split at h
    · rename_i hk; subst hk; cases h
      rw [hu.int_inv, hv.int_inv]
      exact ⟨_, rfl, .pure _ _ (.int _ _)⟩
    · cases h
  · cases h

theorem conv_sound {o : Oper} {src dst : TypeId} {x : Operand} (ho : o.op = .convert src dst x) (H : HRel I M h n w) (hev : ∀ x, VRel I M (ev x) (ρ x)) {out : Out} (ha : aconvert P src dst (ev x) = some (.out out)) : Yields1 P o ρ I M h n w slot out := by
  have hx := hev x
  unfold aconvert at ha
  split at ha
  · rename_i k0 k kk m hu1 hu2 hes
    simp only [pureOut, Option.some.injEq, Did.out.injEq] at ha
    subst ha
    rw [hes] at hx
    refine .pure' H (v := .int k (k.wrap m)) ?_ (.pure _ _ (.int _ _))
    simp [execOp, ho, convert, run_underlying hu1, run_underlying hu2, hx.int_inv, Conv.intToInt]
  · rename_i s hu1 hu2 hes
    simp only [pureOut, Option.some.injEq, Did.out.injEq] at ha
    subst ha
    rw [hes] at hx
    refine .pure' H (v := .string s) ?_ (.pure _ _ (.str _))
    simp [execOp, ho, convert, run_underlying hu1, run_underlying hu2, hx.str_inv]
  · cases ha

theorem func_sound {o : Oper} {f : FuncId} {cap : Array Operand} (ho : o.op = .makeFunc (.func f) #[] cap) (H : HRel I M h n w) (hev : ∀ x, VRel I M (ev x) (ρ x)) : Yields1 P o ρ I M h n w slot { v := .func f (cap.toList.map ev) } := by
  refine .pure' H (v := .func (.func f) #[] (cap.map ρ)) (by simp [execOp, ho, Instr.makeFunc]) (.func _ _ _ (by simp) fun i x v hx hv => ?_)
  simp only [List.getElem?_map, Array.getElem?_toList] at hx
  simp only [Array.getElem?_map] at hv
  cases hc : cap[i]? with
  | none => simp [hc] at hx
  | some q =>
    simp only [hc, Option.map_some, Option.some.injEq] at hx hv
    subst hx; subst hv
    exact hev q

/-! ### Equality -/
theorem scEq_sound {t : TypeId} {x y : AV} {u v : Value} {b : Bool} (d : Nat) (hu : VRel I M x u) (hv : VRel I M y v) (h : scEq P t x y = some b) :
    (∃ g, tagg P t = some g ∧ g = false) ∧ (Op.equalIn (d + 1) t u v).run P w = .ok b w := by
  unfold scEq at h
  split at h
  · rename_i k0 k a k' b' ht
    split at h
    · rename_i hk; subst hk; cases h
      rw [hu.int_inv, hv.int_inv]
      refine ⟨⟨false, by simp [tagg, ht], rfl⟩, ?_⟩
      simp [Op.equalIn, run_underlying ht]
    · cases h
  · rename_i a b' ht
    cases h
    rw [hu.bool_inv, hv.bool_inv]
    exact ⟨⟨false, by simp [tagg, ht], rfl⟩, by simp [Op.equalIn, run_underlying ht]⟩
  · rename_i a b' ht
    cases h
    rw [hu.str_inv, hv.str_inv]
    exact ⟨⟨false, by simp [tagg, ht], rfl⟩, by simp [Op.equalIn, run_underlying ht]⟩
  · cases h

theorem flatEq_sound (d : Nat) {xs ys : List AV} {us vs : Array Value} (hx : CRel I M xs us) (hy : CRel I M ys vs) : ∀ (l : List Field) (i : Nat) (r : Bool),
    (∀ (j : Nat) f, l[j]? = some f → (f.name != "_") = true ∧ f.offset = i + j) → flatEq P l (xs.drop i) (ys.drop i) = some r →
    (forIn l ((none, PUnit.unit) : Option Bool × PUnit) fun f __s =>
            if f.name ≠ "_" then (do
              let __do_lift ← part f.type us f.offset
              let __do_lift_1 ← part f.type vs f.offset
              let __do_lift ← Op.equalIn (d + 1) f.type __do_lift __do_lift_1
              if (!__do_lift) = true then pure (ForInStep.done (some false, PUnit.unit)) else pure (ForInStep.yield (none, PUnit.unit)) : Sem (ForInStep (Option Bool × PUnit)))
            else pure (ForInStep.yield (none, PUnit.unit))).run P w = .ok (if r then (none, PUnit.unit) else (some false, PUnit.unit)) w
  | [], i, r, _, h => by
    unfold flatEq at h
    split at h
    · cases h; rfl
    · simp_all
    · cases h
  | f :: l, i, r, hl, h => by
    unfold flatEq at h
    split at h
    · simp_all
    · rename_i f' fs' x xs' y ys' e1 e2 e3
      simp only [List.cons.injEq] at e1
      obtain ⟨rfl, rfl⟩ := e1
      split at h
      · rename_i a b h1 h2
        cases h
        obtain ⟨n1, n2⟩ := hl 0 f rfl
        have hxi : xs[i]? = some x := by have := congrArg List.head? e2; simpa [List.head?_drop] using this
        have hyi : ys[i]? = some y := by have := congrArg List.head? e3; simpa [List.head?_drop] using this
        have hxd : xs.drop (i + 1) = xs' := by have := congrArg List.tail e2; simpa using this
        have hyd : ys.drop (i + 1) = ys' := by have := congrArg List.tail e3; simpa using this
        have hui : i < us.size := by rw [hx.1]; exact (List.getElem?_eq_some_iff.1 hxi).1
        have hvi : i < vs.size := by rw [hy.1]; exact (List.getElem?_eq_some_iff.1 hyi).1
        obtain ⟨⟨g, hg, rfl⟩, heq⟩ := scEq_sound (P := P) (w := w) d (hx.2 i x _ hxi (Array.getElem?_eq_getElem hui)) (hy.2 i y _ hyi (Array.getElem?_eq_getElem hvi)) h1
        have p1 : (part f.type us f.offset).run P w = .ok us[i] w := by simp [part, run_isAgg hg, n2, hui]
        have p2 : (part f.type vs f.offset).run P w = .ok vs[i] w := by simp [part, run_isAgg hg, n2, hvi]
        have n1' : f.name ≠ "_" := by simpa using n1
        have ih := flatEq_sound d hx hy l (i + 1) b (fun j f hf => by have := hl (j + 1) f hf; exact ⟨this.1, by omega⟩) (by rw [hxd, hyd]; exact h2)
        rw [List.forIn_cons]
        simp only [Sem.run_bind, if_pos n1', p1, p2, heq, Result.andThen_ok]
        cases a with
        | false => simp
        | true =>
          simp only [Bool.not_true, Bool.false_eq_true, if_false, Sem.run_pure, Result.andThen_ok, Bool.true_and]
          exact ih
      · cases h
    · cases h

theorem equal_of {t : TypeId} {u v : Value} {r : Bool} (h : ∀ d, (Op.equalIn (d + 1) t u v).run P w = .ok r w) : (Op.equal t u v).run P w = .ok r w := h 9999

theorem eq_fin {op : BinOp} {t : TypeId} {x y : Operand} {u v : Value} {r : Bool} (hop : op = .eql ∨ op = .neq) (hg : (eqGuard op t x y u v).run P w = .ok () w) (he : (Op.equal t u v).run P w = .ok r w)
    (h1 : binOp .eql t u v = (do pure (.bool (← Op.equal t u v)))) (h2 : binOp .neq t u v = (do pure (.bool (!(← Op.equal t u v))))) :
    ((do eqGuard op t x y u v; binOp op t u v) : Sem Value).run P w = .ok (.bool (if op = .eql then r else !r)) w := by
  rw [Sem.run_bind, hg]
  simp only [Result.andThen_ok]
  rcases hop with rfl | rfl
  · rw [h1, Sem.run_bind, he]; rfl
  · rw [h2, Sem.run_bind, he]; rfl

theorem eq_sound {op : BinOp} {t : TypeId} {x y : Operand} {a b : AV} {u v : Value} {r : Bool} (hop : op = .eql ∨ op = .neq) (hu : VRel I M a u) (hv : VRel I M b v) (h : aeq P t a b = some r) :
    ((do eqGuard op t x y u v; binOp op t u v) : Sem Value).run P w = .ok (.bool (if op = .eql then r else !r)) w := by
  unfold aeq at h
  split at h
  · rename_i xs ys
    split at h
    · rename_i fs ht
      split at h
      · rename_i hft
        obtain ⟨us, rfl, hus⟩ := hu.agg_inv
        obtain ⟨vs, rfl, hvs⟩ := hv.agg_inv
        simp only [flatType, Bool.and_eq_true, Bool.not_eq_true'] at hft
        obtain ⟨⟨f1, f2⟩, f3⟩ := hft
        have hloop := flatEq_sound (P := P) (w := w) 9998 hus hvs fs.toList 0 r (fun j f hf => by
          have := (List.all_eq_true.1 f3) (f, j) (by
            rw [List.mem_iff_getElem?]
            exact ⟨j, by simp [List.getElem?_zipIdx, hf]⟩)
          simp only [Bool.and_eq_true, beq_iff_eq] at this
          exact ⟨this.1, by omega⟩) (by simpa using h)
        have heq : (Op.equal t (.agg us) (.agg vs)).run P w = .ok r w := by
          show (Op.equalIn (9998 + 1 + 1) t (.agg us) (.agg vs)).run P w = _
          rw [Op.equalIn]
          rw [Sem.run_bind, run_underlying ht]
          simp only [Result.andThen_ok, Sem.run_bind, run_program, f1, Bool.false_eq_true, if_false]
          rw [← Array.forIn_toList, hloop]
          cases r <;> rfl
        have hg : (eqGuard op t x y (.agg us) (.agg vs)).run P w = .ok () w := by
          rcases hop with rfl | rfl <;> simp [eqGuard, f2]
        exact eq_fin hop hg heq rfl rfl
      · cases h
    · cases h
  · rename_i a' b'
    split at h
    · rename_i ht
      cases h
      rw [hu.bool_inv, hv.bool_inv]
      exact eq_fin hop (by rcases hop with rfl | rfl <;> simp [eqGuard]) (equal_of fun d => by simp [Op.equalIn, run_underlying ht]) rfl rfl
    · cases h
  · split at h
    · rename_i e ht
      rw [hv.nilsl_inv]
      split at h
      · cases h
        rw [hu.nilsl_inv]
        exact eq_fin hop (by rcases hop with rfl | rfl <;> simp [eqGuard]) (equal_of fun d => by simp [Op.equalIn, run_underlying ht]) rfl rfl
      · cases h
        obtain ⟨A, cap, rfl, _⟩ := hu.own_inv
        exact eq_fin hop (by rcases hop with rfl | rfl <;> simp [eqGuard]) (equal_of fun d => by simp [Op.equalIn, run_underlying ht]) rfl rfl
      · cases h
        cases hu.sl_inv with
        | sl => exact eq_fin hop (by rcases hop with rfl | rfl <;> simp [eqGuard]) (equal_of fun d => by simp [Op.equalIn, run_underlying ht]) rfl rfl
      · cases h
    · cases h
  · split at h
    · rename_i e ht
      rw [hv.nilp_inv]
      split at h
      · cases h
        rw [hu.nilp_inv]
        exact eq_fin hop (by rcases hop with rfl | rfl <;> simp [eqGuard]) (equal_of fun d => by simp [Op.equalIn, run_underlying ht]) rfl rfl
      · cases h
        obtain ⟨A, rfl, _⟩ := hu.ptr_inv
        exact eq_fin hop (by rcases hop with rfl | rfl <;> simp [eqGuard]) (equal_of fun d => by simp [Op.equalIn, run_underlying ht]) rfl rfl
      · cases h
        cases hu.pp_inv with
        | pp => exact eq_fin hop (by rcases hop with rfl | rfl <;> simp [eqGuard]) (equal_of fun d => by simp [Op.equalIn, run_underlying ht]) rfl rfl
      · cases h
    · cases h
  · cases h

theorem bin_sound {o : Oper} {op : BinOp} {t ty : TypeId} {x y : Operand} (ho : o.op = .binOp op t x y ty) (H : HRel I M h n w) (hev : ∀ x, VRel I M (ev x) (ρ x)) {z : AV} (ha : abin P op t (ev x) (ev y) = some z) : Yields1 P o ρ I M h n w slot { v := z } := by
  have hx := hev x
  have hy := hev y
  have hrun : (execOp ρ o).run P w = (((do eqGuard op t x y (ρ x) (ρ y); binOp op t (ρ x) (ρ y)) : Sem Value).run P w).andThen fun v w' => .ok (.value v) w' := by
    simp only [execOp, ho]
    rw [Sem.run_bind]; rfl
  unfold abin at ha
  split at ha
  · rename_i k a k' b e1 e2
    rw [e1] at hx
    rw [e2] at hy
    rw [hx.int_inv, hy.int_inv] at hrun
    simp only [eqGuard_at_int, pure_bind] at hrun
    split at ha
    · obtain ⟨v, h1, h2⟩ := shift_sound (P := P) (w := w) (I := I) (M := M) (k' := k') (.inl rfl) ha t
      exact .pure' H (by rw [hrun, h1]; rfl) h2
    · obtain ⟨v, h1, h2⟩ := shift_sound (P := P) (w := w) (I := I) (M := M) (k' := k') (.inr rfl) ha t
      exact .pure' H (by rw [hrun, h1]; rfl) h2
    · split at ha
      · rename_i hk
        subst hk
        obtain ⟨v, h1, h2⟩ := binInt_sound (P := P) (w := w) (I := I) (M := M) ha t
        exact .pure' H (by rw [hrun, h1]; rfl) h2
      · cases ha
  · rename_i a b e1 e2
    rw [e1] at hx
    rw [e2] at hy
    rw [hx.str_inv, hy.str_inv] at hrun
    simp only [eqGuard_at_string, pure_bind] at hrun
    obtain ⟨v, h1, h2⟩ := strop_sound (P := P) (w := w) (I := I) (M := M) ha t
    exact .pure' H (by rw [hrun, h1]; rfl) h2
  · split at ha
    · cases hq : aeq P t (ev x) (ev y) with
      | none => simp [hq] at ha
      | some r =>
        simp only [hq, Option.map_some, Option.some.injEq] at ha
        subst ha
        have := eq_sound (P := P) (w := w) (x := x) (y := y) (.inl rfl) hx hy hq
        exact .pure' H (by rw [hrun, this]; rfl) (.pure _ _ (.bool _))
    · cases hq : aeq P t (ev x) (ev y) with
      | none => simp [hq] at ha
      | some r =>
        simp only [hq, Option.map_some, Option.some.injEq] at ha
        subst ha
        have := eq_sound (P := P) (w := w) (x := x) (y := y) (.inr rfl) hx hy hq
        exact .pure' H (by rw [hrun, this]; rfl) (.pure _ _ (.bool _))
    · cases ha

end
end Go.Ab
