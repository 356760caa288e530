/- Contracts of functions whose answer lies in a variable (a struct). -/
import Derived.Test.YtmcejlhkohbdfaaAb12
set_option linter.unusedVariables false
set_option linter.unusedSimpArgs false
namespace Go.Ab
open Go.RowKit

section
variable {P : Program} {I : Imm} {M : Mp} {h : Heap} {n : Nat} {w : World}

/-- A variable's value, behind a pointer. -/
theorem load_res {t : TypeId} {x : AV} {v : Value} (H : HRel I M h n w) (hx : VRel I M x v) {out : Out} (ha : aload P h t x = some (.out out)) :
    ∃ u, (do loadVar t (← asAddr v)).run P w = .ok u w ∧ VRel I M out.v u := by
  unfold aload at ha
  cases hg : tagg P t with
  | none => simp [hg] at ha
  | some g =>
  cases hk : tsize P t with
  | none => simp [hg, hk] at ha
  | some k =>
  simp only [hg, hk] at ha
  have fin : ∀ (A : Addr) (cs : List AV) (y : AV), v = .pointer (some A) → getAs g k cs = some y → A.spot = none → (∀ c el fr, w.heap[A.block]? = some (.cells c el fr) → A.off + cs.length ≤ c.size) → (∃ c el fr, w.heap[A.block]? = some (.cells c el fr) ∧ ∀ (j : Nat) y v, cs[j]? = some y → c[A.off + j]? = some v → VRel I M y v) →
      ∃ u, (do loadVar t (← asAddr v)).run P w = .ok u w ∧ VRel I M y u := by
    intro A cs y hρ hgv hsp hle hex
    obtain ⟨c, el, fr, hc, hv⟩ := hex
    obtain ⟨u, hu, hr⟩ := run_loadVar hg hk hgv hsp hc (hle c el fr hc) hv
    refine ⟨u, ?_, hr⟩
    subst hρ
    simp [asAddr, hu]
  cases hav : x with
  | pp cs =>
    rw [hav] at ha hx
    simp only at ha
    cases hgv : getAs g k cs with
    | none => simp [hgv] at ha
    | some y =>
      simp only [hgv, Option.bind_some, pureOut, Option.some.injEq, Did.out.injEq] at ha
      subst ha
      cases hx.pp_inv with
      | pp _ A c el fr h1 h2 h3 h4 h5 =>
        refine fin A cs y rfl hgv h1 (fun c' el' fr' hc' => ?_) ⟨c, el, fr, H.imm _ _ h2, fun j y v hy hv => .pure _ _ (h5 j y v hy hv)⟩
        rw [H.imm _ _ h2] at hc'
        cases hc'
        exact h3
  | ptr b off =>
    rw [hav] at ha hx
    simp only at ha
    cases hb : h b with
    | none => simp [hb] at ha
    | some blk =>
      simp only [hb] at ha
      split at ha
      case isFalse => cases ha
      rename_i hoff
      cases hgv : getAs g k (blk.drop off) with
      | none => simp [hgv] at ha
      | some y =>
        simp only [hgv, Option.bind_some, Option.some.injEq, Did.out.injEq] at ha
        subst ha
        obtain ⟨A0, hρ, hsp, hm | ⟨A, sz, hm, rfl⟩⟩ := hx.ptr_inv
        · have := H.no b (fun A sz h => by rw [hm] at h; cases h)
          rw [hb] at this; cases this
        · obtain ⟨g1, g2, blk', c, el, g3, g4, g5, g6, g7, g8⟩ := H.live b A sz hm
          rw [hb] at g3
          cases g3
          refine fin ⟨A.block, A.off + off, none⟩ (blk.drop off) y hρ hgv rfl (fun c' el' fr' hc' => ?_) ⟨c, el, (0, 0), g4, fun j y v hy hv => ?_⟩
          · rw [g4] at hc'
            cases hc'
            simp only [List.length_drop]
            omega
          · rw [List.getElem?_drop] at hy
            exact g8 (off + j) y v hy (by simpa [Nat.add_assoc] using hv)
  | _ => simp [hav] at ha
end

theorem stepF_monoQ {P : Program} {pa : List Tmp} {Q Q' : ASt → Prop} (hQ : ∀ st, Q st → Q' st) {X : List Item → ASt → Prop} : ∀ (k : List Item) (st : ASt), stepF P pa Q X k st → stepF P pa Q' X k st := by
  intro k st h
  unfold stepF at *
  split at h <;> first
    | exact hQ _ h
    | exact h
theorem AW_mono {P : Program} {pa : List Tmp} {Q Q' : ASt → Prop} (hQ : ∀ st, Q st → Q' st) {k : List Item} {st : ASt} (h : AW P pa Q k st) : AW P pa Q' k st :=
  fun S hS => h S fun k st hk => hS k st (stepF_monoQ hQ k st hk)

/-- What a result variable holds. -/
def resA (P : Program) (st : ASt) : ResultVar → Option AV
  | .tmp t => some (st.τ t)
  | .cell a t => match aload P st.h t (st.τ a) with
    | some (.out o) => some o.v
    | _ => none
def resAll (P : Program) (st : ASt) : List ResultVar → Option (List AV)
  | [] => some []
  | r :: rs => match resA P st r, resAll P st rs with
    | some x, some xs => some (x :: xs)
    | _, _ => none
def resR (P : Program) (st : ASt) (rs : List ResultVar) : Option AV := (resAll P st rs).map fun
  | [x] => x
  | xs => .tup xs

section
variable {P : Program}
theorem resAll_run {st : ASt} {I : Imm} {M : Mp} {w : World} {tmps : Array Value} (hτ : ∀ t, VRel I M (st.τ t) (tmps.getD t undef)) (H : HRel I M st.h st.n w) (g : ResultVar → Sem Value)
    (hg1 : ∀ t, g (.tmp t) = pure (tmps.getD t undef)) (hg2 : ∀ a t, g (.cell a t) = (do loadVar t (← asAddr (tmps.getD a undef)))) :
    ∀ (rs : List ResultVar) (xs : List AV), resAll P st rs = some xs → ∃ us : List Value, (rs.mapM g).run P w = .ok us w ∧ us.length = xs.length ∧ ∀ (i : Nat) x u, xs[i]? = some x → us[i]? = some u → VRel I M x u
  | [], xs, h => by
    simp only [resAll, Option.some.injEq] at h
    subst h
    exact ⟨[], by simp, rfl, fun i x u hx => by simp at hx⟩
  | r :: rs, xs, h => by
    simp only [resAll] at h
    split at h
    · rename_i x ys h1 h2
      simp only [Option.some.injEq] at h
      subst h
      obtain ⟨us, k1, k2, k3⟩ := resAll_run hτ H g hg1 hg2 rs ys h2
      have one : ∃ u, (g r).run P w = .ok u w ∧ VRel I M x u := by
        cases r with
        | tmp t =>
          simp only [resA, Option.some.injEq] at h1
          subst h1
          exact ⟨_, by rw [hg1, Sem.run_pure], hτ t⟩
        | cell a t =>
          simp only [resA] at h1
          split at h1
          · rename_i o ho
            simp only [Option.some.injEq] at h1
            subst h1
            rw [hg2]
            exact load_res H (hτ a) ho
          · cases h1
      obtain ⟨u, u1, u2⟩ := one
      refine ⟨u :: us, ?_, by simp [k2], fun i y v hy hv => ?_⟩
      · rw [List.mapM_cons, Sem.run_bind, u1]
        simp only [Result.andThen_ok, Sem.run_bind, k1, Sem.run_pure]
      · cases i with
        | zero => simp at hy hv; subst hy; subst hv; exact u2
        | succ i => simp at hy hv; exact k3 i y v hy hv
    · cases h

def tupV : List Value → Value
  | [u] => u
  | us => .tuple us.toArray

theorem results_runR {fn : Func} {rs : List ResultVar} (h : fn.results = rs.toArray) {st : ASt} {I : Imm} {M : Mp} {w : World} {tmps : Array Value} (hτ : ∀ t, VRel I M (st.τ t) (tmps.getD t undef)) (H : HRel I M st.h st.n w) {v : AV} (hv : resR P st rs = some v) :
    ∃ cv, (results fn tmps).run P w = .ok cv w ∧ VRel I M v cv := by
  unfold resR at hv
  simp only [Option.map_eq_some_iff] at hv
  obtain ⟨xs, hx, rfl⟩ := hv
  let g0 : ResultVar → Sem Value := fun r => match r with
    | .tmp t => pure (tmps.getD t undef)
    | .cell a t => do loadVar t (← asAddr (tmps.getD a undef))
  obtain ⟨us, k1, k2, k3⟩ := resAll_run hτ H g0 (fun _ => rfl) (fun _ _ => rfl) rs xs hx
  have key : ∀ (g : ResultVar → Sem Value), (∀ t, g (.tmp t) = pure (tmps.getD t undef)) → (∀ a t, g (.cell a t) = (do loadVar t (← asAddr (tmps.getD a undef)))) → rs.toArray.mapM g = (List.toArray <$> rs.mapM g0) := fun g h1 h2 => by
    rw [List.mapM_toArray, show g = g0 from funext fun r => by cases r; exact h1 _; exact h2 _ _]
  have tupv : ∀ us : List Value, (if h : us.toArray.size = 1 then us.toArray[0] else Value.tuple us.toArray) = tupV us := fun us => by
    match us with
    | [] => rfl
    | [u] => rfl
    | u :: v :: r => simp [tupV]
  have hr : (results fn tmps).run P w = .ok (tupV us) w := by
    unfold results
    rw [h, key _ (fun _ => rfl) (fun _ _ => rfl), ← tupv us]
    simp only [bind_map_left, Sem.run_bind, k1, Result.andThen_ok, Sem.run_pure]
  refine ⟨_, hr, ?_⟩
  match xs, us, k2, k3 with
  | [], [], _, k3 => exact .tup _ _ rfl (fun i x v hx => by simp at hx)
  | [x], [u], _, k3 => exact k3 0 x u rfl rfl
  | x :: y :: r, u :: v :: s, k2, k3 => exact .tup _ _ (by simp at k2 ⊢; omega) (fun i x v hx hv => k3 i x v hx (by simpa using hv))

/-- A run, as a call. -/
theorem calls_of_AWR {pa : List Tmp} {f : FuncId} {fn : Func} {c : Code} {rs : List ResultVar} {Q : ASt → Prop} (hm : P.follows .mixedOrders = true) (hf : P.funcs[f]? = some fn) (hb : fn.body = some c) (hr : fn.results = rs.toArray) (hok : codeOk fn.ntmps c = true)
    {args : List AV} (hl : args.length ≤ fn.ntmps) {I : Imm} {M : Mp} {h : Heap} {n : Nat} (h0 : AW P pa (fun st => ∃ v, resR P st rs = some v ∧ Q st) [.code c] (st0 args h n)) {w : World} {cargs : Array Value} (H : HRel I M h n w) (ha : AllRel I M args cargs) :
    Calls P f cargs w fun e w' => ∃ cv v st I' M', e = .returned cv ∧ resR P st rs = some v ∧ Q st ∧ VRel I' M' v cv ∧ HRel I' M' st.h st.n w' ∧ Ext I M w I' M' w' ∧ n ≤ st.n ∧ (∀ j, j < n → M j = MS.fresh → M' j = MS.fresh) := by
  intro cs
  let b : Frame := { (default : Frame) with fn := f, kind := .normal }
  have henter : Frame.enter P f cargs .normal = b.at { tmps := cargs ++ Array.replicate (fn.ntmps - cargs.size) undef, defers := [] } [.code c] := by
    simp [Frame.enter, Frame.at, hf, hb, b]
  have F := enter_rel (nt := fn.ntmps) H ha hl
  obtain ⟨todo, a', w', st', I', M', s1, ⟨v, s0, s2⟩, s3, s4, s5, s6⟩ := AW_sound (nt := fn.ntmps) hm h0 (fun x hx => by simp at hx; subst hx; exact hok) I M _ w F b cs
  rw [← henter] at s1
  obtain ⟨cv, r1, r2⟩ := results_runR hr s3.tmps s3.heap s0
  refine ⟨.returned _, w', _, ⟨cv, v, st', I', M', rfl, s0, s2, r2, s3.heap, s4, s5, s6⟩, s1, rfl, rfl, s3.defers, rfl, fn, hf, r1⟩

/-- What a run must answer. -/
def RetR (P : Program) (rs : List ResultVar) (v : AV) (st : ASt) : Prop := ∃ u, resR P st rs = some u ∧ (frz st.h u).le v
theorem RetR.mk {rs : List ResultVar} {v : AV} {st : ASt} (h : (resR P st rs).map (frz st.h) = some v) : RetR P rs v st := by
  simp only [Option.map_eq_some_iff] at h
  obtain ⟨u, h1, h2⟩ := h
  exact ⟨u, h1, AV.le_of_eq h2⟩
theorem RetR.mk_le {rs : List ResultVar} {u v : AV} {st : ASt} (h : (resR P st rs).map (frz st.h) = some u) (hle : u.le v) : RetR P rs v st := by
  simp only [Option.map_eq_some_iff] at h
  obtain ⟨u', h1, rfl⟩ := h
  exact ⟨u', h1, hle⟩
theorem Ret.mk_le {ts : List Tmp} {u v : AV} {st : ASt} (h : frz st.h (resV ts st.τ) = u) (hle : u.le v) : Ret ts v st := by
  subst h; exact hle

/-- What a run on own blocks must come to. -/
def HRet (P : Program) (rs : List ResultVar) (post : AV → Heap → Nat → Prop) (st : ASt) : Prop := ∃ u, resR P st rs = some u ∧ post u st.h st.n
theorem HRet.mk {rs : List ResultVar} {post : AV → Heap → Nat → Prop} {st : ASt} (u : AV) (h : resR P st rs = some u) (hp : post u st.h st.n) : HRet P rs post st := ⟨u, h, hp⟩

theorem hcalls_of_AWR {pa : List Tmp} {f : FuncId} {fn : Func} {c : Code} {rs : List ResultVar} (hm : P.follows .mixedOrders = true) (hf : P.funcs[f]? = some fn) (hb : fn.body = some c) (hr : fn.results = rs.toArray) (hnm : (fn.name == "runtime.NumGoroutine") = false) (hok : codeOk fn.ntmps c = true)
    {args : List AV} (hl : args.length ≤ fn.ntmps) {h : Heap} {n : Nat} {post : AV → Heap → Nat → Prop} (h0 : AW P pa (HRet P rs post) [.code c] (st0 args h n)) : HCalls P f args h n post :=
  ⟨⟨fn, c, hf, hb, hnm⟩, fun I M w cargs H ha => (calls_of_AWR (Q := fun st => ∀ v, resR P st rs = some v → post v st.h st.n) hm hf hb hr hok hl (by
    refine AW_mono (fun st ⟨u, h1, h2⟩ => ⟨u, h1, fun v hv => ?_⟩) h0
    rw [h1] at hv; cases hv; exact h2) H ha).mono fun e w' ⟨cv, v, st, I', M', he, hv0, hq, hv, hh, hx, hn, hfr⟩ => ⟨cv, v, I', M', st.h, st.n, he, hq v hv0, hv, hh, hx, hn, hfr⟩⟩

theorem pcalls_of_AWR {pa : List Tmp} {f : FuncId} {fn : Func} {c : Code} {rs : List ResultVar} (hm : P.follows .mixedOrders = true) (hf : P.funcs[f]? = some fn) (hb : fn.body = some c) (hr : fn.results = rs.toArray) (hnm : (fn.name == "runtime.NumGoroutine") = false) (hok : codeOk fn.ntmps c = true)
    {args : List AV} (hl : args.length ≤ fn.ntmps) {v : AV} (h0 : AW P pa (RetR P rs v) [.code c] (st0 args (fun _ => none) 0)) : PCalls P f args v :=
  ⟨⟨fn, c, hf, hb, hnm⟩, fun I w cargs himm ha => (calls_of_AWR (Q := fun st => ∀ u, resR P st rs = some u → (frz st.h u).le v) hm hf hb hr hok hl (by
    refine AW_mono (fun st ⟨u, h1, h2⟩ => ⟨u, h1, fun v hv => ?_⟩) h0
    rw [h1] at hv; cases hv; exact h2) (.zero himm) ha).mono fun e w' ⟨cv, u, st, I', M', he, hu, hq, hv, hh, hx, hn, hfr⟩ => by
    obtain ⟨J, j1, j2, j3, j4⟩ := frz_all hh
    have hnl : ∀ b, ¬ Live M0 b := fun b ⟨i, A, sz, hm, _⟩ => by cases hm
    refine ⟨cv, J, he, hx.imm.trans j1, j2, hq u hu J cv (j4 hv), ⟨hx.os, hx.tape, hx.output, hx.size, fun b hb' => hx.keep b hb' (hnl b)⟩, fun b hb' hI => ?_⟩
    rw [j3 b fun hl => (hx.newL b hl).elim (hnl b) fun h' => by omega]
    exact hx.newI b hb' hI (hnl b)⟩
end

attribute [go_sem] resR resAll resA
end Go.Ab
