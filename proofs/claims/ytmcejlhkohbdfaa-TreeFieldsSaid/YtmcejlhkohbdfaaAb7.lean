/- Contracts out of runs of the abstract machine. -/
import Derived.Test.YtmcejlhkohbdfaaAb6
set_option linter.unusedVariables false
set_option linter.unusedSimpArgs false
namespace Go.Ab
open Go.RowKit

/-- What is said by one value is said by the other one. -/
def AV.le (a b : AV) : Prop := ∀ (I : Imm) (v : Value), PRel I a v → PRel I b v
theorem AV.le_refl (a : AV) : a.le a := fun _ _ h => h
theorem AV.le_of_eq {a b : AV} (h : a = b) : a.le b := h ▸ AV.le_refl a
theorem AV.le_undef (a : AV) : a.le .undef := fun _ v _ => .undef v
theorem AV.le_nil (e : Nat) : AV.nilsl.le (.sl e []) := fun _ _ h => by cases h; exact .sl0 _ _ _
theorem AV.le_agg {a b : List AV} (hl : a.length = b.length) (h : ∀ (i : Nat) x y, a[i]? = some x → b[i]? = some y → x.le y) : (AV.agg a).le (.agg b) := fun I v hv => by
  cases hv with
  | agg _ vs h1 h2 => exact .agg _ _ (by omega) fun i y u hy hu => (by
      have hi : i < a.length := by have := (List.getElem?_eq_some_iff.1 hy).1; omega
      exact h i a[i] y (List.getElem?_eq_getElem hi) hy I u (h2 i a[i] u (List.getElem?_eq_getElem hi) hu))
theorem AV.le_tup {a b : List AV} (hl : a.length = b.length) (h : ∀ (i : Nat) x y, a[i]? = some x → b[i]? = some y → x.le y) : (AV.tup a).le (.tup b) := fun I v hv => by
  cases hv with
  | tup _ vs h1 h2 => exact .tup _ _ (by omega) fun i y u hy hu => (by
      have hi : i < a.length := by have := (List.getElem?_eq_some_iff.1 hy).1; omega
      exact h i a[i] y (List.getElem?_eq_getElem hi) hy I u (h2 i a[i] u (List.getElem?_eq_getElem hi) hu))
theorem AV.le_tup2 {a b c d : AV} (h1 : a.le c) (h2 : b.le d) : (AV.tup [a, b]).le (.tup [c, d]) := AV.le_tup rfl fun i x y hx hy => by
  match i with
  | 0 => simp at hx hy; subst hx; subst hy; exact h1
  | 1 => simp at hx hy; subst hx; subst hy; exact h2
  | i + 2 => simp at hx

def resV (ts : List Tmp) (τ : Nat → AV) : AV := match ts with
  | [t] => τ t
  | ts => .tup (ts.map τ)

def resC (ts : List Tmp) (tmps : Array Value) : Value := match ts with
  | [t] => tmps.getD t undef
  | ts => .tuple (ts.map fun t => tmps.getD t undef).toArray

section
variable {P : Program}

theorem results_run {fn : Func} {ts : List Tmp} (h : fn.results = (ts.map .tmp).toArray) (tmps : Array Value) (w : World) : (results fn tmps).run P w = .ok (resC ts tmps) w := by
  have key : ∀ (g : ResultVar → Sem Value), (∀ t, g (.tmp t) = pure (tmps.getD t undef)) → ((ts.map ResultVar.tmp).toArray).mapM g = pure (ts.map fun t => tmps.getD t undef).toArray := fun g hg => by
    rw [List.mapM_toArray]
    have : (ts.map ResultVar.tmp).mapM g = pure (ts.map fun t => tmps.getD t undef) := by
      clear h
      induction ts with
      | nil => rfl
      | cons t ts ih => simp only [List.map_cons, List.mapM_cons, ih, hg, pure_bind]
    rw [this]; simp
  unfold results
  rw [h, key _ (fun t => rfl)]
  simp only [pure_bind, Sem.run_pure]
  match ts with
  | [] => rfl
  | [t] => rfl
  | t :: u :: r => simp [resC]

theorem resV_rel {I : Imm} {M : Mp} {τ : Nat → AV} {tmps : Array Value} (h : ∀ t, VRel I M (τ t) (tmps.getD t undef)) (ts : List Tmp) : VRel I M (resV ts τ) (resC ts tmps) := by
  have gen : ∀ ts : List Tmp, VRel I M (.tup (ts.map τ)) (.tuple (ts.map fun t => tmps.getD t undef).toArray) := fun ts =>
    .tup _ _ (by simp) fun i x v hx hv => by
      simp only [List.getElem?_map, Option.map_eq_some_iff] at hx
      simp only [List.getElem?_toArray, List.getElem?_map, Option.map_eq_some_iff] at hv
      obtain ⟨t, ht, rfl⟩ := hx
      obtain ⟨t', ht', rfl⟩ := hv
      rw [ht] at ht'
      cases ht'
      exact h t
  match ts with
  | [] => exact gen []
  | [t] => exact h t
  | t :: u :: r => exact gen _

/-- All own blocks, taken as only read. -/
theorem frz_all {I : Imm} {M : Mp} {h : Heap} {n : Nat} {w : World} (H : HRel I M h n w) : ∃ J : Imm, ILe I J ∧ (∀ b o, J b = some o → w.heap[b]? = some o) ∧ (∀ b, ¬ Live M b → J b = I b) ∧
    ∀ {x : AV} {v : Value}, VRel I M x v → PRel J (frz h x) v := by
  classical
  let J : Imm := fun b => if Live M b then w.heap[b]? else I b
  have hIJ : ILe I J := fun b o hb => by
    show (if _ then _ else _) = _
    split
    · exact H.imm b o hb
    · exact hb
  have hJ : ∀ i A sz, M i = .live A sz → J A.block = w.heap[A.block]? := fun i A sz hm => if_pos ⟨i, A, sz, hm, rfl⟩
  refine ⟨J, hIJ, fun b o hb => ?_, fun b hb => if_neg hb, fun {x v} hx => ?_⟩
  · by_cases hc : Live M b
    · have : J b = w.heap[b]? := if_pos hc
      rw [← this]; exact hb
    · have : J b = I b := if_neg hc
      rw [this] at hb; exact H.imm b o hb
  · cases x with
    | tup cs =>
      obtain ⟨vs, rfl, hs, hv⟩ := hx.tup_inv
      refine .tup _ _ (by simpa using hs) fun i y u hy hu => ?_
      simp only [List.getElem?_map, Option.map_eq_some_iff] at hy
      obtain ⟨z, hz, rfl⟩ := hy
      exact frz2_rel H hIJ (hv i z u hz hu) fun i _ A sz hm => hJ i A sz hm
    | _ => exact frz2_rel H hIJ hx fun i _ A sz hm => hJ i A sz hm

def st0 (args : List AV) (h : Heap) (n : Nat) : ASt := { τ := fun t => args.getD t (.tup []), h, n }

theorem enter_rel {I : Imm} {M : Mp} {h : Heap} {n nt : Nat} {w : World} {args : List AV} {cargs : Array Value} (H : HRel I M h n w) (ha : AllRel I M args cargs) (hl : args.length ≤ nt) :
    FRel nt I M (st0 args h n) { tmps := cargs ++ Array.replicate (nt - cargs.size) undef, defers := [] } w := by
  have hsz := ha.1
  refine ⟨rfl, by simp; omega, fun t => ?_, H⟩
  simp only [st0]
  by_cases ht : t < args.length
  · have h1 : args[t]? = some (args.getD t (.tup [])) := by simp [List.getD, ht]
    have h2 : t < cargs.size := by omega
    have h3 : (cargs ++ Array.replicate (nt - cargs.size) undef).getD t undef = cargs[t] := by
      simp only [Array.getD_eq_getD_getElem?, Array.getElem?_append_left h2, Array.getElem?_eq_getElem h2, Option.getD_some]
    rw [h3]
    exact ha.2 t _ _ h1 (Array.getElem?_eq_getElem h2)
  · have h1 : args.getD t (.tup []) = .tup [] := by simp [List.getD, List.getElem?_eq_none (Nat.le_of_not_lt ht)]
    have h3 : (cargs ++ Array.replicate (nt - cargs.size) undef).getD t undef = undef := by
      simp only [Array.getD_eq_getD_getElem?]
      rw [Array.getElem?_append_right (by omega)]
      rw [Array.getElem?_replicate]
      split <;> rfl
    rw [h1, h3]
    exact .pure _ _ (.tup [] #[] rfl (fun i x v hx => by simp at hx))

/-- A run, as a call. -/
theorem calls_of_AW {pa : List Tmp} {f : FuncId} {fn : Func} {c : Code} {ts : List Tmp} {Q : ASt → Prop} (hm : P.follows .mixedOrders = true) (hf : P.funcs[f]? = some fn) (hb : fn.body = some c) (hr : fn.results = (ts.map .tmp).toArray) (hok : codeOk fn.ntmps c = true)
    {args : List AV} (hl : args.length ≤ fn.ntmps) {I : Imm} {M : Mp} {h : Heap} {n : Nat} (h0 : AW P pa Q [.code c] (st0 args h n)) {w : World} {cargs : Array Value} (H : HRel I M h n w) (ha : AllRel I M args cargs) :
    Calls P f cargs w fun e w' => ∃ cv st I' M', e = .returned cv ∧ Q st ∧ VRel I' M' (resV ts st.τ) cv ∧ HRel I' M' st.h st.n w' ∧ Ext I M w I' M' w' ∧ n ≤ st.n ∧ (∀ j, j < n → M j = MS.fresh → M' j = MS.fresh) := by
  intro cs
  let b : Frame := { (default : Frame) with fn := f, kind := .normal }
  have henter : Frame.enter P f cargs .normal = b.at { tmps := cargs ++ Array.replicate (fn.ntmps - cargs.size) undef, defers := [] } [.code c] := by
    simp [Frame.enter, Frame.at, hf, hb, b]
  have F := enter_rel (nt := fn.ntmps) H ha hl
  obtain ⟨todo, a', w', st', I', M', s1, s2, s3, s4, s5, s6⟩ := AW_sound (nt := fn.ntmps) hm h0 (fun x hx => by simp at hx; subst hx; exact hok) I M _ w F b cs
  rw [← henter] at s1
  refine ⟨.returned _, w', _, ⟨_, st', I', M', rfl, s2, resV_rel s3.tmps ts, s3.heap, s4, s5, s6⟩, s1, rfl, rfl, s3.defers, rfl, fn, hf, results_run hr a'.tmps w'⟩

/-- A contract on own blocks. -/
theorem hcalls_of_AW {pa : List Tmp} {f : FuncId} {fn : Func} {c : Code} {ts : List Tmp} (hm : P.follows .mixedOrders = true) (hf : P.funcs[f]? = some fn) (hb : fn.body = some c) (hr : fn.results = (ts.map .tmp).toArray) (hnm : (fn.name == "runtime.NumGoroutine") = false) (hok : codeOk fn.ntmps c = true)
    {args : List AV} (hl : args.length ≤ fn.ntmps) {h : Heap} {n : Nat} {post : AV → Heap → Nat → Prop} (h0 : AW P pa (fun st => post (resV ts st.τ) st.h st.n) [.code c] (st0 args h n)) : HCalls P f args h n post :=
  ⟨⟨fn, c, hf, hb, hnm⟩, fun I M w cargs H ha => (calls_of_AW hm hf hb hr hok hl h0 H ha).mono fun e w' ⟨cv, st, I', M', he, hq, hv, hh, hx, hn, hfr⟩ => ⟨cv, _, I', M', st.h, st.n, he, hq, hv, hh, hx, hn, hfr⟩⟩

theorem HRel.zero {I : Imm} {w : World} (h : ∀ b o, I b = some o → w.heap[b]? = some o) : HRel I M0 (fun _ => none) 0 w :=
  ⟨h, fun _ _ => rfl, fun _ _ => rfl, fun i A sz hm => (by cases hm), fun i j A sz B sz' hm => (by cases hm)⟩

/-- What a run must answer. -/
def Ret (ts : List Tmp) (v : AV) (st : ASt) : Prop := (frz st.h (resV ts st.τ)).le v

/-- A contract on values alone. -/
theorem pcalls_of_AW {pa : List Tmp} {f : FuncId} {fn : Func} {c : Code} {ts : List Tmp} (hm : P.follows .mixedOrders = true) (hf : P.funcs[f]? = some fn) (hb : fn.body = some c) (hr : fn.results = (ts.map .tmp).toArray) (hnm : (fn.name == "runtime.NumGoroutine") = false) (hok : codeOk fn.ntmps c = true)
    {args : List AV} (hl : args.length ≤ fn.ntmps) {v : AV} (h0 : AW P pa (Ret ts v) [.code c] (st0 args (fun _ => none) 0)) : PCalls P f args v :=
  ⟨⟨fn, c, hf, hb, hnm⟩, fun I w cargs himm ha => (calls_of_AW hm hf hb hr hok hl h0 (.zero himm) ha).mono fun e w' ⟨cv, st, I', M', he, hq, hv, hh, hx, hn, hfr⟩ => by
    obtain ⟨J, j1, j2, j3, j4⟩ := frz_all hh
    have hnl : ∀ b, ¬ Live M0 b := fun b ⟨i, A, sz, hm, _⟩ => by cases hm
    refine ⟨cv, J, he, hx.imm.trans j1, j2, hq J cv (j4 hv), ⟨hx.os, hx.tape, hx.output, hx.size, fun b hb' => hx.keep b hb' (hnl b)⟩, fun b hb' hI => ?_⟩
    rw [j3 b fun hl => (hx.newL b hl).elim (hnl b) fun h' => by omega]
    exact hx.newI b hb' hI (hnl b)⟩

theorem PCalls.le {f : FuncId} {args : List AV} {v u : AV} (h : PCalls P f args v) (hv : v.le u) : PCalls P f args u :=
  ⟨h.1, fun I w cargs hi ha => (h.2 I w cargs hi ha).mono fun e w' ⟨cv, I', h1, h2, h3, h4, h5⟩ => ⟨cv, I', h1, h2, h3, hv _ _ h4, h5⟩⟩
end
end Go.Ab
