/- All operations together: what the abstract machine says of one is so. -/
import Derived.Test.YtmcejlhkohbdfaaAb4c
set_option linter.unusedVariables false
set_option linter.unusedSimpArgs false
namespace Go.Ab
open Go.RowKit

section
variable {P : Program} {ρ : Operand → Value} {I : Imm} {M : Mp} {h : Heap} {n : Nat} {w : World} {slot : Nat} {ev : Operand → AV} {pu : Bool}

theorem bind_pureOut {a : Option AV} {out : Out} (h : a.bind pureOut = some (.out out)) : ∃ x, a = some x ∧ out = { v := x } := by
  cases a with
  | none => cases h
  | some x => simp only [Option.bind_some, pureOut, Option.some.injEq, Did.out.injEq] at h; exact ⟨x, rfl, h.symm⟩

theorem aop_sound {o : Oper} (H : HRel I M h n w) (hev : ∀ x, VRel I M (ev x) (ρ x)) (hs : M slot = .fresh) (hn : slot < n) {out : Out} (ha : aop P pu o.op slot ev h = some (.out out)) : Yields1 P o ρ I M h n w slot out := by
  unfold aop at ha
  split at ha
  · rename_i x ho
    simp only [pureOut, Option.some.injEq, Did.out.injEq] at ha
    subst ha
    exact .pure' H (by simp [execOp, ho]) (hev x)
  · rename_i x ho
    simp only [pureOut, Option.some.injEq, Did.out.injEq] at ha
    subst ha
    exact .pure' H (by simp [execOp, ho]) (hev x)
  · rename_i c a b ho
    have hc := hev c
    split at ha
    · rename_i t hes
      simp only [pureOut, Option.some.injEq, Did.out.injEq] at ha
      subst ha
      rw [hes] at hc
      refine .pure' H (v := if t then ρ a else ρ b) ?_ (by cases t <;> exact hev _)
      simp [execOp, ho, hc.bool_inv, asBool]
    · cases ha
  · rename_i t ho
    exact alloc_sound ho H hs hn ha
  · rename_i t x ho
    exact box_sound ho H hev hs hn ha
  · rename_i t parts ho
    obtain ⟨x, hx, rfl⟩ := bind_pureOut ha
    exact build_sound ho H hev hx
  · rename_i t len parts ho
    exact buildSlice_sound ho H hev hs hn ha
  · rename_i t a ho
    exact load_sound ho H hev ha
  · rename_i t a x ho
    exact store_sound ho H hev ha
  · rename_i x ho
    have hx := hev x
    split at ha
    · rename_i b off hes
      simp only [pureOut, Option.some.injEq, Did.out.injEq] at ha
      subst ha
      rw [hes] at hx
      obtain ⟨A, hρ, _⟩ := hx.ptr_inv
      exact .pure' H (by simp [execOp, ho, hρ]) (hρ ▸ hx)
    · rename_i cs hes
      simp only [pureOut, Option.some.injEq, Did.out.injEq] at ha
      subst ha
      rw [hes] at hx
      generalize hρ : ρ x = q at hx
      have hq := hx.pp_inv
      cases hq with
      | pp => exact .pure' H (by simp [execOp, ho, hρ]) hx
    · rename_i f cap hes
      simp only [pureOut, Option.some.injEq, Did.out.injEq] at ha
      subst ha
      rw [hes] at hx
      obtain ⟨vs, hρ, _⟩ := hx.func_inv
      exact .pure' H (by simp [execOp, ho, hρ]) (hρ ▸ hx)
    · cases ha
  · rename_i op t x y ty ho
    obtain ⟨z, hz, rfl⟩ := bind_pureOut ha
    exact bin_sound ho H hev hz
  · rename_i op t x ho
    obtain ⟨z, hz, rfl⟩ := bind_pureOut ha
    obtain ⟨u, h1, h2⟩ := un_sound (P := P) (w := w) (hev x) hz
    exact .pure' H (by simp [execOp, ho, h1]) h2
  · rename_i src dst x ho
    exact conv_sound ho H hev ha
  · rename_i f first cap ho
    split at ha
    · rename_i hf
      simp only [pureOut, Option.some.injEq, Did.out.injEq] at ha
      subst ha
      have hf' : first = #[] := by simpa using hf
      subst hf'
      exact func_sound ho H hev
    · cases ha
  · rename_i t l c ho
    exact make_sound ho H hev hs hn ha
  · rename_i t x lo hi ho
    obtain ⟨z, hz, rfl⟩ := bind_pureOut ha
    exact slice_sound ho H hev hz
  · rename_i t x i ho
    obtain ⟨z, hz, rfl⟩ := bind_pureOut ha
    exact fieldAddr_sound ho H hev hz
  · rename_i t x i ho
    obtain ⟨z, hz, rfl⟩ := bind_pureOut ha
    exact field_sound ho H hev hz
  · rename_i t x ix ho
    obtain ⟨z, hz, rfl⟩ := bind_pureOut ha
    exact indexAddr_sound ho H hev hz
  · rename_i t x ix ho
    obtain ⟨z, hz, rfl⟩ := bind_pureOut ha
    exact index_sound ho H hev hz
  · rename_i x i ho
    split at ha
    · rename_i vs hes
      obtain ⟨z, hz, rfl⟩ := bind_pureOut ha
      exact extract_sound ho H hev hes hz
    · cases ha
  · rename_i b args argTypes ho
    unfold abuiltin at ha
    generalize hal : args.toList = al at ha
    split at ha
    · rename_i x y he
      match al, he with
      | [x', y'], he =>
        simp only [List.map_cons, List.map_nil, List.cons.injEq, and_true] at he
        obtain ⟨rfl, rfl⟩ := he
        exact append_sound ho H hev hs hn hal ha
    · rename_i x y he
      match al, he with
      | [x', y'], he =>
        simp only [List.map_cons, List.map_nil, List.cons.injEq, and_true] at he
        obtain ⟨rfl, rfl⟩ := he
        exact copy_sound ho H hev hal ha
    · rename_i x he
      match al, he with
      | [x'], he =>
        simp only [List.map_cons, List.map_nil, List.cons.injEq, and_true] at he
        subst he
        obtain ⟨z, hz, rfl⟩ := bind_pureOut ha
        cases ht : argTypes[0]? with
        | none => simp [ht] at hz
        | some t => exact len_sound ho H hev hal ht (by simpa [ht] using hz)
    · rename_i x rest he
      match al, he with
      | x' :: rest', he =>
        simp only [List.map_cons, List.cons.injEq] at he
        obtain ⟨rfl, rfl⟩ := he
        obtain ⟨z, hz, rfl⟩ := bind_pureOut ha
        obtain ⟨r, h1, h2⟩ := fold2_sound (P := P) (w := w) amax2 Builtin.max2 (fun a b c u v hu hv hc => max2_rel hu hv hc) rest' _ _ _ (hev x') hev hz
        refine .pure' H (v := r) ?_ h2
        have hm : (args.map ρ).toList = ρ x' :: rest'.map ρ := by simp [hal]
        simp only [execOp, ho, resolve, invoke, builtin, pure_bind, Builtin.max_, hm, Sem.run_bind, h1, Result.andThen_ok, Sem.run_pure]
    · rename_i x rest he
      match al, he with
      | x' :: rest', he =>
        simp only [List.map_cons, List.cons.injEq] at he
        obtain ⟨rfl, rfl⟩ := he
        obtain ⟨z, hz, rfl⟩ := bind_pureOut ha
        obtain ⟨r, h1, h2⟩ := fold2_sound (P := P) (w := w) amin2 Builtin.min2 (fun a b c u v hu hv hc => min2_rel hu hv hc) rest' _ _ _ (hev x') hev hz
        refine .pure' H (v := r) ?_ h2
        have hm : (args.map ρ).toList = ρ x' :: rest'.map ρ := by simp [hal]
        simp only [execOp, ho, resolve, invoke, builtin, pure_bind, Builtin.min_, hm, Sem.run_bind, h1, Result.andThen_ok, Sem.run_pure]
    · cases ha
  · split at ha <;> cases ha
  · cases ha

theorem bind_pureOut_call {a : Option AV} {f : FuncId} {args : List AV} (h : a.bind pureOut = some (.call f args)) : False := by
  cases a <;> cases h

theorem aop_call {op : Op} {f : FuncId} {args : List AV} (ha : aop P pu op slot ev h = some (.call f args)) :
    ∃ (g : Operand) (xs : Array Operand) (ts : Array TypeId) (cap : List AV), op = .call { callee := .value g, args := xs, argTypes := ts } ∧ ev g = .func f cap ∧ args = xs.toList.map ev ++ cap := by
  unfold aop at ha
  split at ha
  case h_23 =>
    rename_i g xs ts
    split at ha
    · rename_i f' cap hg
      simp only [Option.some.injEq, Did.call.injEq] at ha
      obtain ⟨rfl, rfl⟩ := ha
      exact ⟨g, xs, ts, cap, rfl, hg, rfl⟩
    · cases ha
  all_goals first
    | (cases ha; done)
    | exact (bind_pureOut_call ha).elim
    | (exfalso; repeat' split at ha
       all_goals first | (cases ha; done) | exact bind_pureOut_call ha)
    | (exfalso; unfold aload at ha; repeat' split at ha
       all_goals first | (cases ha; done) | exact bind_pureOut_call ha | (rename_i hq; revert ha; cases getAs _ _ _ <;> simp [pureOut]))
    | (exfalso; unfold astore at ha; repeat' split at ha
       all_goals cases ha)
    | (exfalso; unfold abuildSlice at ha; repeat' split at ha
       all_goals first | (cases ha; done) | (revert ha; cases afill _ _ _ <;> simp))
    | (exfalso; unfold amake at ha; repeat' split at ha
       all_goals cases ha)
    | (exfalso; unfold aconvert at ha; repeat' split at ha
       all_goals cases ha)
    | (exfalso; unfold abuiltin at ha; split at ha
       · unfold aappend at ha; repeat' split at ha
         all_goals cases ha
       · unfold acopy at ha; repeat' split at ha
         all_goals cases ha
       all_goals first | (cases ha; done) | exact bind_pureOut_call ha)

/-- A call: the function is entered with arguments that are what the abstract machine says. -/
theorem call_sound {o : Oper} (hev : ∀ x, VRel I M (ev x) (ρ x)) {f : FuncId} {args : List AV} (ha : aop P pu o.op slot ev h = some (.call f args))
    (hf : ∃ fn c, P.funcs[f]? = some fn ∧ fn.body = some c ∧ (fn.name == "runtime.NumGoroutine") = false) :
    ∃ cargs : Array Value, (execOp ρ o).run P w = .ok (.enter f cargs) w ∧ cargs.size = args.length ∧ ∀ (i : Nat) x v, args[i]? = some x → cargs[i]? = some v → VRel I M x v := by
  obtain ⟨g, xs, ts, cap, ho, hg, rfl⟩ := aop_call ha
  obtain ⟨fn, c, h1, h2, h3⟩ := hf
  have hx := hev g
  rw [hg] at hx
  obtain ⟨vs, hρ, s1, s2⟩ := hx.func_inv
  refine ⟨xs.map ρ ++ vs, ?_, by simp [s1], fun i x v hx' hv => ?_⟩
  · have hname : fn.name ≠ "runtime.NumGoroutine" := by simpa using h3
    simp [execOp, ho, resolve, hρ, Deferred.ofValue, invoke, callFunc, h1, h2, hname]
  · by_cases hi : i < xs.size
    · rw [List.getElem?_append_left (by simpa using hi)] at hx'
      rw [Array.getElem?_append_left (by simpa using hi)] at hv
      simp only [List.getElem?_map, Array.getElem?_toList, Array.getElem?_eq_getElem hi, Option.map_some, Option.some.injEq] at hx'
      simp only [Array.getElem?_map, Array.getElem?_eq_getElem hi, Option.map_some, Option.some.injEq] at hv
      subst hx'; subst hv
      exact hev _
    · rw [List.getElem?_append_right (by simp; omega)] at hx'
      rw [Array.getElem?_append_right (by simp; omega)] at hv
      simp only [List.length_map, Array.length_toList] at hx'
      simp only [Array.size_map] at hv
      exact s2 _ x v hx' hv

end
end Go.Ab
