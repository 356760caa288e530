/- Parts of the proof, joined: Ab11, Ab12, Ab13, Ab14, W1, N1, N2, Ab15, Ab16, M1, M2, M3, M4, M5, M6, N3, M7, M8, M9, M10, M11. -/
import Derived.ProofKit
import Derived.Deep.Strs
import Derived.OpenShut
import Derived.Test.YtopmghclhgihfaaGreatDoorZ2

set_option linter.unusedVariables false
set_option linter.unusedSimpArgs false
set_option maxRecDepth 10000
namespace Go.Ab
open Go.RowKit

def heapI (w : World) : Imm := fun b => w.heap[b]?

/-- What can be read at type 't' is what 'f' makes of something good. -/
def Reads (P : Program) (w : World) (t : TypeId) {α : Type} (f : α → AV) (good : α → Prop) : Prop :=
  ∀ (H : Type) (enc : TypeId × Value → H) (base : Nat) (sp : Nat → Bool) (held : Bool) (fuel : Nat) (cs : List Value) (x : DataW H × List MemPlace), DataW.trod enc P w base sp held fuel t cs = some x →
    ∃ a ys, good a ∧ (f a).cells? = some ys ∧ ys.length = cs.length ∧ cs.length = P.cellsOf t ∧ ys.all (·.single) = true ∧ ∀ (j : Nat) y v, ys[j]? = some y → cs[j]? = some v → PRel (heapI w) y v

section
variable {P : Program} {w : World}

theorem rel_one {y : AV} {v : Value} (h : PRel (heapI w) y v) : ∀ (j : Nat) y' v', [y][j]? = some y' → [v][j]? = some v' → PRel (heapI w) y' v' := fun j y' v' h1 h2 => by
  cases j with
  | zero => simp at h1 h2; subst h1; subst h2; exact h
  | succ j => simp at h1

theorem reads_int {t : TypeId} {k : IntKind} (ht : P.underlying t = some (.int k)) (hc : P.cellsOf t = 1) : Reads P w t (fun n : Int => .int k n) (fun n => (Lit.int k n).wf = true) := fun H enc base sp held fuel cs x h => by
  obtain ⟨n, rfl, _, hw⟩ := DataW.trod_int ht h
  exact ⟨n, [.int k n], hw, rfl, rfl, by simp [hc], rfl, rel_one (.int k n)⟩

theorem reads_u32 {t : TypeId} (ht : P.underlying t = some (.int .u32)) (hc : P.cellsOf t = 1) : Reads P w t (fun n : Nat => .int .u32 (n : Int)) (fun n => n < 4294967296) := fun H enc base sp held fuel cs x h => by
  obtain ⟨n, rfl, _, hw⟩ := DataW.trod_int ht h
  simp only [Lit.wf, Bool.and_eq_true, decide_eq_true_eq] at hw
  have h0 : 0 ≤ n := hw.1
  have h1 : n ≤ 4294967295 := hw.2
  have e : ((n.toNat : Nat) : Int) = n := Int.toNat_of_nonneg h0
  exact ⟨n.toNat, [.int .u32 n], by omega, by simp only [e]; rfl, rfl, by simp [hc], rfl, rel_one (.int _ n)⟩

theorem listOf {α : Type} {Q : Nat → α → Prop} : ∀ (n : Nat), (∀ i, i < n → ∃ a, Q i a) → ∃ l : List α, l.length = n ∧ ∀ (i : Nat) a, l[i]? = some a → Q i a
  | 0, _ => ⟨[], rfl, fun i a h => by simp at h⟩
  | n + 1, h => by
    obtain ⟨l, h1, h2⟩ := listOf n fun i hi => h i (by omega)
    obtain ⟨a, ha⟩ := h n (by omega)
    refine ⟨l ++ [a], by simp [h1], fun i b hb => ?_⟩
    by_cases hi : i < l.length
    · rw [List.getElem?_append_left hi] at hb; exact h2 i b hb
    · rw [List.getElem?_append_right (by omega)] at hb
      have hl : i < (l ++ [a]).length := by
        have := (List.getElem?_eq_some_iff.1 hb).1
        simp at this ⊢; omega
      have : i = n := by simp at hl; omega
      subst this
      rw [h1, Nat.sub_self] at hb
      simp at hb; subst hb; exact ha

theorem addOffs {a : Addr} {k : Nat} : (a.add k).off = a.off + k ∧ (a.add k).block = a.block := by
  unfold Addr.add; split <;> simp_all

theorem cell_block {a : Addr} {v : Value} (h : w.cell? a = some v) : ∃ c el fr, w.heap[a.block]? = some (.cells c el fr) ∧ a.spot = none ∧ c[a.off]? = some v := by
  unfold World.cell? at h
  split at h
  · rename_i c el fr hb
    split at h
    · cases h
    · rename_i hs
      exact ⟨c, el, fr, hb, by simpa using hs, h⟩
  · cases h

theorem reads_slice {t e : TypeId} {α : Type} {f : α → AV} {good : α → Prop} {c : Nat} (he : Reads P w e f good) (ht : P.underlying t = some (.slice e)) (hc : P.cellsOf e = c) (hpos : 0 < c) (hc1 : P.cellsOf t = 1) :
    Reads P w t (fun l : List α => .sl c (l.map f)) (fun l => ∀ a ∈ l, good a) := fun H enc base sp held fuel cs x h => by
  rcases DataW.trod_slice ht h with ⟨rfl, _⟩ | ⟨a, len, cap, elems, rest, n, _, rfl, _, hb, hl, hm, hlen, hel, _, _⟩
  · exact ⟨[], [.sl c []], (fun a h => by simp at h), rfl, rfl, by simp [hc1], rfl, rel_one (.sl0 _ _ _)⟩
  · have each : ∀ i, i < len → ∃ x, ∃ es ys, good x ∧ w.cells? base (a.add (i * c)) c = some es ∧ (f x).cells? = some ys ∧ ys.length = c ∧ ys.all (·.single) = true ∧ ∀ (j : Nat) y v, ys[j]? = some y → es[j]? = some v → PRel (heapI w) y v := fun i hi => by
      have h1 := hel i hi
      rw [hc, List.getElem?_eq_getElem (by omega), Option.bind_eq_some_iff] at h1
      obtain ⟨es, h2, h3⟩ := h1
      obtain ⟨x, ys, g1, g2, g3, g4, g5, g6⟩ := he H enc base sp held n es _ h3
      exact ⟨x, es, ys, g1, h2, g2, by rw [g3, g4, hc], g5, g6⟩
    obtain ⟨l, h1, h2⟩ := listOf len each
    refine ⟨l, [.sl c (l.map f)], fun x hx => ?_, rfl, rfl, by simp [hc1], rfl, rel_one ?_⟩
    · obtain ⟨i, hi⟩ := List.getElem?_of_mem hx
      obtain ⟨es, ys, g, _⟩ := h2 i x hi
      exact g
    · by_cases h0 : len = 0
      · subst h0
        have : l = [] := List.length_eq_zero_iff.1 h1
        subst this
        exact .sl0 _ _ _
      · have cellAt : ∀ i, i < len → ∀ j, j < c → ∃ v, w.cell? ((a.add (i * c)).add j) = some v := fun i hi j hj => by
          obtain ⟨es, ys, _, h3, _⟩ := h2 i l[i] (List.getElem?_eq_getElem (by omega))
          obtain ⟨_, h4, h5⟩ := World.cells?_some h3
          exact ⟨es[j], by rw [h5 j hj, List.getElem?_eq_getElem (by omega)]⟩
        obtain ⟨v0, hv0⟩ := cellAt 0 (by omega) 0 hpos
        have ea : (a.add (0 * c)).add 0 = a := by simp [Addr.add]
        rw [ea] at hv0
        obtain ⟨car, el, fr, hcar, hspot, _⟩ := cell_block hv0
        have inCar : ∀ i j v, w.cell? ((a.add (i * c)).add j) = some v → car[a.off + (i * c + j)]? = some v := fun i j v hv => by
          obtain ⟨car', el', fr', k1, _, k3⟩ := cell_block hv
          rw [addOffs.2, addOffs.2, hcar] at k1
          cases k1
          rw [addOffs.1, addOffs.1, Nat.add_assoc] at k3
          exact k3
        refine .sl c _ a len cap car el fr (fun hnil => h0 (by rw [← h1]; simpa using congrArg List.length hnil)) (by simp [h1]) hl hspot hcar ?_ (fun i y hy => ?_) (fun i y ds j u v hy hds hu hv => ?_)
        · obtain ⟨v, hv⟩ := cellAt (len - 1) (by omega) (c - 1) (by omega)
          have := inCar _ _ _ hv
          have hlt := (Array.getElem?_eq_some_iff.1 this).1
          have e1 : (len - 1) * c + (c - 1) + 1 = len * c := by
            obtain ⟨k, rfl⟩ : ∃ k, len = k + 1 := ⟨len - 1, by omega⟩
            rw [Nat.add_sub_cancel, Nat.succ_mul]; omega
          omega
        · simp only [List.getElem?_map, Option.map_eq_some_iff] at hy
          obtain ⟨z, hz, rfl⟩ := hy
          obtain ⟨es, ys, _, _, h4, h5, h6, _⟩ := h2 i z hz
          exact ⟨ys, h4, h5, h6⟩
        · simp only [List.getElem?_map, Option.map_eq_some_iff] at hy
          obtain ⟨z, hz, rfl⟩ := hy
          obtain ⟨es, ys, _, h3, h4, h5, h6, h7⟩ := h2 i z hz
          rw [h4] at hds; cases hds
          have hj : j < c := by have := (List.getElem?_eq_some_iff.1 hu).1; omega
          obtain ⟨_, k4, k5⟩ := World.cells?_some h3
          have hi : i < len := by have := (List.getElem?_eq_some_iff.1 hz).1; omega
          obtain ⟨v', hv'⟩ := cellAt i hi j hj
          have := inCar _ _ _ hv'
          rw [hv] at this; cases this
          exact h7 j u v hu (by rw [← k5 j hj]; exact hv')

theorem single_cells {y : AV} (h : y.single = true) : y.cells? = some [y] := by cases y <;> first | rfl | (simp [AV.single] at h)

/-- A struct of three fields, one cell each. -/
theorem reads_struct3 {t : TypeId} {f0 f1 f2 : Field} (ht : P.underlying t = some (.struct #[f0, f1, f2])) (hc : P.cellsOf t = 3) (o0 : f0.offset = 0) (o1 : f1.offset = 1) (o2 : f2.offset = 2)
    (s0 : P.cellsOf f0.type = 1) (s1 : P.cellsOf f1.type = 1) (s2 : P.cellsOf f2.type = 1) {α β γ δ : Type} {e0 : α → AV} {e1 : β → AV} {e2 : γ → AV} {g0 : α → Prop} {g1 : β → Prop} {g2 : γ → Prop}
    (r0 : Reads P w f0.type e0 g0) (r1 : Reads P w f1.type e1 g1) (r2 : Reads P w f2.type e2 g2) (n0 : ∀ a, (e0 a).single = true) (n1 : ∀ a, (e1 a).single = true) (n2 : ∀ a, (e2 a).single = true)
    (mk : α → β → γ → δ) (F : δ → AV) (G : δ → Prop) (hF : ∀ a b c, F (mk a b c) = .agg [e0 a, e1 b, e2 c]) (hG : ∀ a b c, g0 a → g1 b → g2 c → G (mk a b c)) : Reads P w t F G := fun H enc base sp held fuel cs x h => by
  obtain ⟨y0, y1, y2, n, _, hl, h0, h1, h2⟩ := Go.Deep.trod_struct3 ht h
  rw [hc] at hl
  match cs, hl with
  | [c0, c1, c2], _ =>
    rw [o0, s0] at h0
    rw [o1, s1] at h1
    rw [o2, s2] at h2
    obtain ⟨a, ys0, k0, k1, k2, _, _, k5⟩ := r0 H enc base sp held n _ _ h0
    obtain ⟨b, ys1, l0, l1, l2, _, _, l5⟩ := r1 H enc base sp held n _ _ h1
    obtain ⟨c, ys2, m0, m1, m2, _, _, m5⟩ := r2 H enc base sp held n _ _ h2
    rw [single_cells (n0 a)] at k1
    rw [single_cells (n1 b)] at l1
    rw [single_cells (n2 c)] at m1
    cases k1; cases l1; cases m1
    refine ⟨mk a b c, _, hG a b c k0 l0 m0, by rw [hF]; rfl, rfl, by simp [hc], by simp [n0, n1, n2], fun j y v hy hv => ?_⟩
    match j with
    | 0 => simp at hy hv; subst hy; subst hv; exact k5 0 _ _ rfl rfl
    | 1 => simp at hy hv; subst hy; subst hv; exact l5 0 _ _ rfl rfl
    | 2 => simp at hy hv; subst hy; subst hv; exact m5 0 _ _ rfl rfl
    | j + 3 => simp at hy

/-- An argument of one cell. -/
theorem reads_arg {H : Type} {enc : TypeId × Value → H} {base : Nat} {sp : Nat → Bool} {held : Bool} {t : TypeId} {α : Type} {f : α → AV} {good : α → Prop} (hr : Reads P w t f good) (hn : ∀ a, (f a).single = true) {v : Value} {d : DataW H} {ps : List MemPlace}
    (hv : v.cells = #[v]) (h : DataW.Trod enc P w base sp held t v d ps) : ∃ a, good a ∧ PRel (heapI w) (f a) v := by
  obtain ⟨fuel, h⟩ := h
  obtain ⟨a, ys, g1, g2, g3, g4, g5, g6⟩ := hr H enc base sp held fuel _ _ h
  rw [single_cells (hn a)] at g2
  cases g2
  exact ⟨a, g1, g6 0 _ _ rfl (by rw [hv]; rfl)⟩
end
end Go.Ab

set_option linter.unusedVariables false
set_option linter.unusedSimpArgs false
set_option maxRecDepth 10000
namespace Go.Ab
open Go.ChangeShapes Go.WideShapes Go.ChangeAt Go.RowKit

theorem post_below {H : Type} {enc : TypeId × Value → H} {P : Program} {f : Func} {s : ChangeSpec} {apart fresh handsOn again : Bool} {W W' : World} {args : Array Value} {v : Value} {ds gs : List (DataW H)} {before pa pv : List MemPlace}
    (hW : DataW.Whole enc P f.params.toList s.vars apart W args.toList ds gs before)
    (hres : ∀ (b : Nat) (sp : Nat → Bool) (hd : Bool), DataW.TrodAll enc P W' b sp hd f.resultTypes.toList (v.resultList f.resultTypes.size) (s.fn H (ds ++ gs)).results [])
    (hargs : ∀ sp : Nat → Bool, (∀ p ∈ before, sp p.block = true) → DataW.TrodAll enc P W' 0 sp true f.params.toList args.toList (s.fn H (ds ++ gs)).args pa)
    (hvars : ∀ sp : Nat → Bool, (∀ p ∈ before, sp p.block = true) → DataW.TrodVars enc P W' sp s.vars (s.fn H (ds ++ gs)).vars pv)
    (hps : before = pa ++ pv) (hb : Below W.heap.size W W')
    (hok : ∀ (j : Nat) (t : TypeId) (r : Value), f.resultTypes[j]? = some t → (v.resultList f.resultTypes.size)[j]? = some r → Value.okWide P W' .any 0 t r) :
    s.post enc P f apart fresh handsOn again W args v W' := by
  have hlt := hW.lt
  have hold : ∀ p ∈ before, (fun b => decide (b < W.heap.size)) p.block = true := fun p hp => by simpa using hW.lt p hp
  refine ⟨ds, gs, before, [], pa, pv, hW, hres _ _ _, hargs _ hold, hvars _ hold, World.keptBut_mono (fun p hp => ⟨hp, ?_⟩) (hb.frame (· ∈ before)), fun _ => ?_⟩
  · rw [hps, List.mem_append] at hp
    exact Or.inr hp
  · obtain ⟨_, _, _, _, _, hz, hn⟩ := hW
    refine ⟨hok, _, _, ([] ++ pa) ++ pv, ⟨[] ++ pa, pv, trodAll_append (hargs _ (fun _ _ => rfl)) (hres _ _ _), hvars _ (fun _ _ => rfl), rfl, ?_, ?_⟩, ?_⟩
    · intro b off hp
      have hp' : MemPlace.cell b off ∈ before := by rw [hps]; simpa using hp
      rw [hb.frozen (hlt _ hp')]
      exact hz b off hp'
    · intro ha
      have := hn ha
      rw [hps] at this
      simpa using this
    · intro p hp _
      rw [hps]
      simpa using hp

theorem cellsOf_eq {P : Program} {t n : Nat} (h : tsize P t = some n) : P.cellsOf t = n := by
  unfold Program.cellsOf
  unfold tsize at h
  rw [h]; rfl

/-- An argument that was only read. -/
theorem arg_kept {H : Type} {enc : TypeId × Value → H} {P : Program} {t : TypeId} {W W' : World} {v : Value} {d : DataW H} {ps : List MemPlace} (hl : laidOutB P = true) (hr : P.readableRec t = true) (hrow : t < P.types.size)
    (h : DataW.Trod enc P W 0 (fun _ => true) true t v d ps) (hb : Below W.heap.size W W') (hlt : ∀ x ∈ ps, x.block < W.heap.size) (sp : Nat → Bool) (hs : ∀ x ∈ ps, sp x.block = true) : DataW.Trod enc P W' 0 sp true t v d ps :=
  WideElems.Trod_stays hl hr hrow h (fun x hx => hb.same (hlt x hx)) hs
end Go.Ab

set_option linter.unusedVariables false
set_option linter.unusedSimpArgs false
set_option maxRecDepth 10000
namespace Go.Ab
open Go.RowKit

section
variable {P : Program} {I : Imm} {M : Mp} {h : Heap} {n : Nat} {w : World}

/-- A variable's value, behind a pointer. -/
theorem load_res {t : TypeId} {x : AV} {v : Value} (H : HRel I M h n w) (hx : VRel I M x v) {out : Out} (ha : aload P h t x = some (.out out)) :
    ∃ u, (do loadVar t (← asAddr v)).run P w = .ok u w ∧ VRel I M out.v u := by
  unfold aload at ha
  cases hg : tagg P t with
  | none => simp [hg] at ha
  | some g =>
  cases hk : tsize P t with
  | none => simp [hg, hk] at ha
  | some k =>
  simp only [hg, hk] at ha
  have fin : ∀ (A : Addr) (cs : List AV) (y : AV), v = .pointer (some A) → getAs g k cs = some y → A.spot = none → (∀ c el fr, w.heap[A.block]? = some (.cells c el fr) → A.off + cs.length ≤ c.size) → (∃ c el fr, w.heap[A.block]? = some (.cells c el fr) ∧ ∀ (j : Nat) y v, cs[j]? = some y → c[A.off + j]? = some v → VRel I M y v) →
      ∃ u, (do loadVar t (← asAddr v)).run P w = .ok u w ∧ VRel I M y u := by
    intro A cs y hρ hgv hsp hle hex
    obtain ⟨c, el, fr, hc, hv⟩ := hex
    obtain ⟨u, hu, hr⟩ := run_loadVar hg hk hgv hsp hc (hle c el fr hc) hv
    refine ⟨u, ?_, hr⟩
    subst hρ
    simp [asAddr, hu]
  cases hav : x with
  | pp cs =>
    rw [hav] at ha hx
    simp only at ha
    cases hgv : getAs g k cs with
    | none => simp [hgv] at ha
    | some y =>
      simp only [hgv, Option.bind_some, pureOut, Option.some.injEq, Did.out.injEq] at ha
      subst ha
      cases hx.pp_inv with
      | pp _ A c el fr h1 h2 h3 h4 h5 =>
        refine fin A cs y rfl hgv h1 (fun c' el' fr' hc' => ?_) ⟨c, el, fr, H.imm _ _ h2, fun j y v hy hv => .pure _ _ (h5 j y v hy hv)⟩
        rw [H.imm _ _ h2] at hc'
        cases hc'
        exact h3
  | ptr b off =>
    rw [hav] at ha hx
    simp only at ha
    cases hb : h b with
    | none => simp [hb] at ha
    | some blk =>
      simp only [hb] at ha
      split at ha
      case isFalse => cases ha
      rename_i hoff
      cases hgv : getAs g k (blk.drop off) with
      | none => simp [hgv] at ha
      | some y =>
        simp only [hgv, Option.bind_some, Option.some.injEq, Did.out.injEq] at ha
        subst ha
        obtain ⟨A0, hρ, hsp, hm | ⟨A, sz, hm, rfl⟩⟩ := hx.ptr_inv
        · have := H.no b (fun A sz h => by rw [hm] at h; cases h)
          rw [hb] at this; cases this
        · obtain ⟨g1, g2, blk', c, el, g3, g4, g5, g6, g7, g8⟩ := H.live b A sz hm
          have g5' : c.size = sz.1 := congrArg Prod.fst g5
          rw [hb] at g3
          cases g3
          refine fin ⟨A.block, A.off + off, none⟩ (blk.drop off) y hρ hgv rfl (fun c' el' fr' hc' => ?_) ⟨c, el, (0, 0), g4, fun j y v hy hv => ?_⟩
          · rw [g4] at hc'
            cases hc'
            simp only [List.length_drop]
            omega
          · rw [List.getElem?_drop] at hy
            exact g8 (off + j) y v hy (by simpa [Nat.add_assoc] using hv)
  | _ => simp [hav] at ha
end

theorem stepF_monoQ {P : Program} {pa : List Tmp} {Q Q' : ASt → Prop} (hQ : ∀ st, Q st → Q' st) {X : List Item → ASt → Prop} : ∀ (k : List Item) (st : ASt), stepF P pa Q X k st → stepF P pa Q' X k st := by
  intro k st h
  unfold stepF at *
  split at h <;> first
    | exact hQ _ h
    | exact h
theorem AW_mono {P : Program} {pa : List Tmp} {Q Q' : ASt → Prop} (hQ : ∀ st, Q st → Q' st) {k : List Item} {st : ASt} (h : AW P pa Q k st) : AW P pa Q' k st :=
  fun S hS => h S fun k st hk => hS k st (stepF_monoQ hQ k st hk)

/-- What a result variable holds. -/
def resA (P : Program) (st : ASt) : ResultVar → Option AV
  | .tmp t => some (st.τ t)
  | .cell a t => match aload P st.h t (st.τ a) with
    | some (.out o) => some o.v
    | _ => none
def resAll (P : Program) (st : ASt) : List ResultVar → Option (List AV)
  | [] => some []
  | r :: rs => match resA P st r, resAll P st rs with
    | some x, some xs => some (x :: xs)
    | _, _ => none
def resR (P : Program) (st : ASt) (rs : List ResultVar) : Option AV := (resAll P st rs).map fun
  | [x] => x
  | xs => .tup xs

section
variable {P : Program}
theorem resAll_run {st : ASt} {I : Imm} {M : Mp} {w : World} {tmps : Array Value} (hτ : ∀ t, VRel I M (st.τ t) (tmps.getD t undef)) (H : HRel I M st.h st.n w) (g : ResultVar → Sem Value)
    (hg1 : ∀ t, g (.tmp t) = pure (tmps.getD t undef)) (hg2 : ∀ a t, g (.cell a t) = (do loadVar t (← asAddr (tmps.getD a undef)))) :
    ∀ (rs : List ResultVar) (xs : List AV), resAll P st rs = some xs → ∃ us : List Value, (rs.mapM g).run P w = .ok us w ∧ us.length = xs.length ∧ ∀ (i : Nat) x u, xs[i]? = some x → us[i]? = some u → VRel I M x u
  | [], xs, h => by
    simp only [resAll, Option.some.injEq] at h
    subst h
    exact ⟨[], by simp, rfl, fun i x u hx => by simp at hx⟩
  | r :: rs, xs, h => by
    simp only [resAll] at h
    split at h
    · rename_i x ys h1 h2
      simp only [Option.some.injEq] at h
      subst h
      obtain ⟨us, k1, k2, k3⟩ := resAll_run hτ H g hg1 hg2 rs ys h2
      have one : ∃ u, (g r).run P w = .ok u w ∧ VRel I M x u := by
        cases r with
        | tmp t =>
          simp only [resA, Option.some.injEq] at h1
          subst h1
          exact ⟨_, by rw [hg1, Sem.run_pure], hτ t⟩
        | cell a t =>
          simp only [resA] at h1
          split at h1
          · rename_i o ho
            simp only [Option.some.injEq] at h1
            subst h1
            rw [hg2]
            exact load_res H (hτ a) ho
          · cases h1
      obtain ⟨u, u1, u2⟩ := one
      refine ⟨u :: us, ?_, by simp [k2], fun i y v hy hv => ?_⟩
      · rw [List.mapM_cons, Sem.run_bind, u1]
        simp only [Result.andThen_ok, Sem.run_bind, k1, Sem.run_pure]
      · cases i with
        | zero => simp at hy hv; subst hy; subst hv; exact u2
        | succ i => simp at hy hv; exact k3 i y v hy hv
    · cases h

def tupV : List Value → Value
  | [u] => u
  | us => .tuple us.toArray

theorem results_runR {fn : Func} {rs : List ResultVar} (h : fn.results = rs.toArray) {st : ASt} {I : Imm} {M : Mp} {w : World} {tmps : Array Value} (hτ : ∀ t, VRel I M (st.τ t) (tmps.getD t undef)) (H : HRel I M st.h st.n w) {v : AV} (hv : resR P st rs = some v) :
    ∃ cv, (results fn tmps).run P w = .ok cv w ∧ VRel I M v cv := by
  unfold resR at hv
  simp only [Option.map_eq_some_iff] at hv
  obtain ⟨xs, hx, rfl⟩ := hv
  let g0 : ResultVar → Sem Value := fun r => match r with
    | .tmp t => pure (tmps.getD t undef)
    | .cell a t => do loadVar t (← asAddr (tmps.getD a undef))
  obtain ⟨us, k1, k2, k3⟩ := resAll_run hτ H g0 (fun _ => rfl) (fun _ _ => rfl) rs xs hx
  have key : ∀ (g : ResultVar → Sem Value), (∀ t, g (.tmp t) = pure (tmps.getD t undef)) → (∀ a t, g (.cell a t) = (do loadVar t (← asAddr (tmps.getD a undef)))) → rs.toArray.mapM g = (List.toArray <$> rs.mapM g0) := fun g h1 h2 => by
    rw [List.mapM_toArray, show g = g0 from funext fun r => by cases r; exact h1 _; exact h2 _ _]
  have tupv : ∀ us : List Value, (if h : us.toArray.size = 1 then us.toArray[0] else Value.tuple us.toArray) = tupV us := fun us => by
    match us with
    | [] => rfl
    | [u] => rfl
    | u :: v :: r => simp [tupV]
  have hr : (results fn tmps).run P w = .ok (tupV us) w := by
    unfold results
    rw [h, key _ (fun _ => rfl) (fun _ _ => rfl), ← tupv us]
    simp only [bind_map_left, Sem.run_bind, k1, Result.andThen_ok, Sem.run_pure]
  refine ⟨_, hr, ?_⟩
  match xs, us, k2, k3 with
  | [], [], _, k3 => exact .tup _ _ rfl (fun i x v hx => by simp at hx)
  | [x], [u], _, k3 => exact k3 0 x u rfl rfl
  | x :: y :: r, u :: v :: s, k2, k3 => exact .tup _ _ (by simp at k2 ⊢; omega) (fun i x v hx hv => k3 i x v hx (by simpa using hv))

/-- A run, as a call. -/
theorem calls_of_AWR {pa : List Tmp} {f : FuncId} {fn : Func} {c : Code} {rs : List ResultVar} {Q : ASt → Prop} (hm : P.follows .mixedOrders = true) (hf : P.funcs[f]? = some fn) (hb : fn.body = some c) (hr : fn.results = rs.toArray) (hok : codeOk fn.ntmps c = true)
    {args : List AV} (hl : args.length ≤ fn.ntmps) {I : Imm} {M : Mp} {h : Heap} {n : Nat} (h0 : AW P pa (fun st => ∃ v, resR P st rs = some v ∧ Q st) [.code c] (st0 args h n)) {w : World} {cargs : Array Value} (H : HRel I M h n w) (ha : AllRel I M args cargs) :
    Calls P f cargs w fun e w' => ∃ cv v st I' M', e = .returned cv ∧ resR P st rs = some v ∧ Q st ∧ VRel I' M' v cv ∧ HRel I' M' st.h st.n w' ∧ Ext I M w I' M' w' ∧ n ≤ st.n ∧ (∀ j, j < n → M j = MS.fresh → M' j = MS.fresh) := by
  intro cs
  let b : Frame := { (default : Frame) with fn := f, kind := .normal }
  have henter : Frame.enter P f cargs .normal = b.at { tmps := cargs ++ Array.replicate (fn.ntmps - cargs.size) undef, defers := [] } [.code c] := by
    simp [Frame.enter, Frame.at, hf, hb, b]
  have F := enter_rel (nt := fn.ntmps) H ha hl
  obtain ⟨todo, a', w', st', I', M', s1, ⟨v, s0, s2⟩, s3, s4, s5, s6⟩ := AW_sound (nt := fn.ntmps) hm h0 (fun x hx => by simp at hx; subst hx; exact hok) I M _ w F b cs
  rw [← henter] at s1
  obtain ⟨cv, r1, r2⟩ := results_runR hr s3.tmps s3.heap s0
  refine ⟨.returned _, w', _, ⟨cv, v, st', I', M', rfl, s0, s2, r2, s3.heap, s4, s5, s6⟩, s1, rfl, rfl, s3.defers, rfl, fn, hf, r1⟩

/-- What a run must answer. -/
def RetR (P : Program) (rs : List ResultVar) (v : AV) (st : ASt) : Prop := ∃ u, resR P st rs = some u ∧ (frz st.h u).le v
theorem RetR.mk {rs : List ResultVar} {v : AV} {st : ASt} (h : (resR P st rs).map (frz st.h) = some v) : RetR P rs v st := by
  simp only [Option.map_eq_some_iff] at h
  obtain ⟨u, h1, h2⟩ := h
  exact ⟨u, h1, AV.le_of_eq h2⟩
theorem RetR.mk_le {rs : List ResultVar} {u v : AV} {st : ASt} (h : (resR P st rs).map (frz st.h) = some u) (hle : u.le v) : RetR P rs v st := by
  simp only [Option.map_eq_some_iff] at h
  obtain ⟨u', h1, rfl⟩ := h
  exact ⟨u', h1, hle⟩
theorem Ret.mk_le {ts : List Tmp} {u v : AV} {st : ASt} (h : frz st.h (resV ts st.τ) = u) (hle : u.le v) : Ret ts v st := by
  subst h; exact hle

/-- What a run on own blocks must come to. -/
def HRet (P : Program) (rs : List ResultVar) (post : AV → Heap → Nat → Prop) (st : ASt) : Prop := ∃ u, resR P st rs = some u ∧ post u st.h st.n
theorem HRet.mk {rs : List ResultVar} {post : AV → Heap → Nat → Prop} {st : ASt} (u : AV) (h : resR P st rs = some u) (hp : post u st.h st.n) : HRet P rs post st := ⟨u, h, hp⟩

theorem hcalls_of_AWR {pa : List Tmp} {f : FuncId} {fn : Func} {c : Code} {rs : List ResultVar} (hm : P.follows .mixedOrders = true) (hf : P.funcs[f]? = some fn) (hb : fn.body = some c) (hr : fn.results = rs.toArray) (hnm : (fn.name == "runtime.NumGoroutine") = false) (hok : codeOk fn.ntmps c = true)
    {args : List AV} (hl : args.length ≤ fn.ntmps) {h : Heap} {n : Nat} {post : AV → Heap → Nat → Prop} (h0 : AW P pa (HRet P rs post) [.code c] (st0 args h n)) : HCalls P f args h n post :=
  ⟨⟨fn, c, hf, hb, hnm⟩, fun I M w cargs H ha => (calls_of_AWR (Q := fun st => ∀ v, resR P st rs = some v → post v st.h st.n) hm hf hb hr hok hl (by
    refine AW_mono (fun st ⟨u, h1, h2⟩ => ⟨u, h1, fun v hv => ?_⟩) h0
    rw [h1] at hv; cases hv; exact h2) H ha).mono fun e w' ⟨cv, v, st, I', M', he, hv0, hq, hv, hh, hx, hn, hfr⟩ => ⟨cv, v, I', M', st.h, st.n, he, hq v hv0, hv, hh, hx, hn, hfr⟩⟩

theorem pcalls_of_AWR {pa : List Tmp} {f : FuncId} {fn : Func} {c : Code} {rs : List ResultVar} (hm : P.follows .mixedOrders = true) (hf : P.funcs[f]? = some fn) (hb : fn.body = some c) (hr : fn.results = rs.toArray) (hnm : (fn.name == "runtime.NumGoroutine") = false) (hok : codeOk fn.ntmps c = true)
    {args : List AV} (hl : args.length ≤ fn.ntmps) {v : AV} (h0 : AW P pa (RetR P rs v) [.code c] (st0 args (fun _ => none) 0)) : PCalls P f args v :=
  ⟨⟨fn, c, hf, hb, hnm⟩, fun I w cargs himm ha => (calls_of_AWR (Q := fun st => ∀ u, resR P st rs = some u → (frz st.h u).le v) hm hf hb hr hok hl (by
    refine AW_mono (fun st ⟨u, h1, h2⟩ => ⟨u, h1, fun v hv => ?_⟩) h0
    rw [h1] at hv; cases hv; exact h2) (.zero himm) ha).mono fun e w' ⟨cv, u, st, I', M', he, hu, hq, hv, hh, hx, hn, hfr⟩ => by
    obtain ⟨J, j1, j2, j3, j4⟩ := frz_all hh
    have hnl : ∀ b, ¬ Live M0 b := fun b ⟨i, A, sz, hm, _⟩ => by cases hm
    refine ⟨cv, J, he, hx.imm.trans j1, j2, hq u hu J cv (j4 hv), ⟨hx.os, hx.tape, hx.output, hx.size, fun b hb' => hx.keep b hb' (hnl b)⟩, fun b hb' hI => ?_⟩
    rw [j3 b fun hl => (hx.newL b hl).elim (hnl b) fun h' => by omega]
    exact hx.newI b hb' hI (hnl b)⟩
end

section
variable {P : Program}
/-- A contract on own blocks, with arguments that are values alone, as one on values. -/
theorem PCalls.of_h {f : FuncId} {args : List AV} {post : AV → Heap → Nat → Prop} {u : AV} (h : HCalls P f args (fun _ => none) 0 post) (hu : ∀ v h' n', post v h' n' → (frz h' v).le u) : PCalls P f args u :=
  ⟨h.1, fun I w cargs himm ha => (h.2 I M0 w cargs (.zero himm) ha).mono fun e w' ⟨cv, v, I', M', h', n', he, hq, hv, hh, hx, hn, hfr⟩ => by
    obtain ⟨J, j1, j2, j3, j4⟩ := frz_all hh
    have hnl : ∀ b, ¬ Live M0 b := fun b ⟨i, A, sz, hm, _⟩ => by cases hm
    refine ⟨cv, J, he, hx.imm.trans j1, j2, hu v h' n' hq J cv (j4 hv), ⟨hx.os, hx.tape, hx.output, hx.size, fun b hb' => hx.keep b hb' (hnl b)⟩, fun b hb' hI => ?_⟩
    rw [j3 b fun hl => (hx.newL b hl).elim (hnl b) fun h' => by omega]
    exact hx.newI b hb' hI (hnl b)⟩
end

attribute [go_sem] resR resAll resA
end Go.Ab

set_option linter.unusedVariables false
set_option linter.unusedSimpArgs false
set_option maxRecDepth 10000
namespace Go.Ab
open Go.ChangeShapes Go.WideShapes Go.ChangeAt Go.RowKit

/-- What can be read at type 't': its cells are good ones. -/
def ReadsC (P : Program) (w : World) (t : TypeId) (Q : List AV → Prop) : Prop :=
  ∀ (H : Type) (enc : TypeId × Value → H) (base : Nat) (sp : Nat → Bool) (held : Bool) (fuel : Nat) (cs : List Value) (x : DataW H × List MemPlace), DataW.trod enc P w base sp held fuel t cs = some x →
    ∃ ys, Q ys ∧ ys.length = cs.length ∧ cs.length = P.cellsOf t ∧ ys.all (·.single) = true ∧ ∀ (j : Nat) y v, ys[j]? = some y → cs[j]? = some v → PRel (heapI w) y v

section
variable {P : Program} {w : World}
theorem Reads.toC {t : TypeId} {α : Type} {f : α → AV} {good : α → Prop} (h : Reads P w t f good) : ReadsC P w t (fun ys => ∃ a, good a ∧ (f a).cells? = some ys) := fun H enc base sp held fuel cs x hx => by
  obtain ⟨a, ys, g1, g2, g3⟩ := h H enc base sp held fuel cs x hx
  exact ⟨ys, ⟨a, g1, g2⟩, g3⟩
theorem ReadsC.toReads {t : TypeId} {Q : List AV → Prop} (h : ReadsC P w t Q) {α : Type} (f : α → AV) (good : α → Prop) (hq : ∀ ys, Q ys → ∃ a, good a ∧ (f a).cells? = some ys) : Reads P w t f good := fun H enc base sp held fuel cs x hx => by
  obtain ⟨ys, g1, g3⟩ := h H enc base sp held fuel cs x hx
  obtain ⟨a, g1, g2⟩ := hq ys g1
  exact ⟨a, ys, g1, g2, g3⟩
theorem reads_bool {t : TypeId} (ht : P.underlying t = some .bool) (hc : P.cellsOf t = 1) : Reads P w t (fun b : Bool => .bool b) (fun _ => True) := fun H enc base sp held fuel cs x h => by
  obtain ⟨b, rfl, _⟩ := DataW.trod_bool ht h
  exact ⟨b, [.bool b], trivial, rfl, rfl, by simp [hc], rfl, rel_one (.bool b)⟩
theorem reads_string {t : TypeId} (ht : P.underlying t = some .string) (hc : P.cellsOf t = 1) : Reads P w t (fun s : ByteArray => .str s) (fun s => s.size ≤ maxLen) := fun H enc base sp held fuel cs x h => by
  obtain ⟨s, rfl, _, hs⟩ := DataW.trod_string ht h
  exact ⟨s, [.str s], hs, rfl, rfl, by simp [hc], rfl, rel_one (.str s)⟩

def Flat : List (List AV → Prop) → List AV → Prop
  | [], ys => ys = []
  | Q :: Qs, ys => ∃ a b, ys = a ++ b ∧ Q a ∧ Flat Qs b

/-- Parts that lie one behind the other. -/
def contB (P : Program) (n : Nat) : Nat → List (TypeId × Nat) → Bool
  | o, [] => o == n
  | o, (t, o') :: r => o' == o && contB P n (o + P.cellsOf t) r
theorem contB_le {P : Program} {n : Nat} : ∀ {o : Nat} {l : List (TypeId × Nat)}, contB P n o l = true → o ≤ n
  | o, [], h => by simp [contB] at h; omega
  | o, (t, o') :: r, h => by
    simp only [contB, Bool.and_eq_true] at h
    have := contB_le h.2; omega

theorem parts_read {H : Type} {enc : TypeId × Value → H} {base : Nat} {sp : Nat → Bool} {held : Bool} {fuel : Nat} {cs : List Value} : ∀ (l : List (TypeId × Nat)) (Qs : List (List AV → Prop)) (o : Nat), contB P cs.length o l = true → l.length = Qs.length →
    (∀ (i : Nat) p Q, l[i]? = some p → Qs[i]? = some Q → ReadsC P w p.1 Q) → (∀ p ∈ l, ∃ y, DataW.trod enc P w base sp held fuel p.1 ((cs.drop p.2).take (P.cellsOf p.1)) = some y) →
    ∃ ys, Flat Qs ys ∧ o + ys.length = cs.length ∧ ys.all (·.single) = true ∧ ∀ (j : Nat) y v, ys[j]? = some y → cs[o + j]? = some v → PRel (heapI w) y v
  | [], Qs, o, hc, hl, _, _ => by
    cases Qs with
    | nil => simp [contB] at hc; exact ⟨[], rfl, by simp [hc], rfl, fun j y v h => by simp at h⟩
    | cons => simp at hl
  | (t, o') :: l, Qs, o, hc, hl, hq, ht => by
    cases Qs with
    | nil => simp at hl
    | cons Q Qs =>
      simp only [contB, Bool.and_eq_true, beq_iff_eq] at hc
      obtain ⟨rfl, hc⟩ := hc
      obtain ⟨y, hy⟩ := ht (t, o') (by simp)
      obtain ⟨a, a1, a2, a3, a4, a5⟩ := hq 0 (t, o') Q rfl rfl H enc base sp held fuel _ _ hy
      obtain ⟨b, b1, b2, b3, b4⟩ := parts_read l Qs _ hc (by simpa using hl) (fun i p Q h1 h2 => hq (i + 1) p Q (by simpa using h1) (by simpa using h2)) (fun p hp => ht p (by simp [hp]))
      have hle := contB_le hc
      refine ⟨a ++ b, ⟨a, b, rfl, a1, b1⟩, by rw [List.length_append, a2, a3]; show o' + (P.cellsOf t + b.length) = _; omega, by simp [a4, b3], fun j y v hy hv => ?_⟩
      have ha : a.length = P.cellsOf t := by rw [a2, a3]
      by_cases hj : j < a.length
      · rw [List.getElem?_append_left hj] at hy
        refine a5 j y v hy ?_
        rw [List.getElem?_take_of_lt (by omega), List.getElem?_drop]; exact hv
      · rw [List.getElem?_append_right (by omega)] at hy
        exact b4 (j - a.length) y v hy (by rw [← hv]; congr 1; omega)

theorem readsC_struct {t : TypeId} {fs : Array Field} (ht : P.underlying t = some (.struct fs)) (Qs : List (List AV → Prop)) (hl : fs.size = Qs.length) (hc : contB P (P.cellsOf t) 0 (fs.toList.map fun f => (f.type, f.offset)) = true)
    (hq : ∀ (i : Nat) f Q, fs[i]? = some f → Qs[i]? = some Q → ReadsC P w f.type Q) : ReadsC P w t (Flat Qs) := fun H enc base sp held fuel cs x h => by
  obtain ⟨xs, n, _, _, hlen, hx, hf⟩ := DataW.trod_struct ht h
  obtain ⟨ys, y1, y2, y3, y4⟩ := parts_read (w := w) (enc := enc) (base := base) (sp := sp) (held := held) (fuel := n) (cs := cs) (fs.toList.map fun f => (f.type, f.offset)) Qs 0 (by rw [hlen]; exact hc) (by simpa using hl) (fun i p Q h1 h2 => by
    simp only [List.getElem?_map, Option.map_eq_some_iff] at h1
    obtain ⟨f, hf1, rfl⟩ := h1
    exact hq i f Q (by simpa using hf1) h2) (fun p hp => by
    obtain ⟨f, hf1, rfl⟩ := List.mem_map.1 hp
    obtain ⟨i, hi⟩ := List.getElem?_of_mem hf1
    have hi' : fs[i]? = some f := by simpa using hi
    have := hf i f hi'
    have hlt : i < xs.length := by rw [hx]; exact (Array.getElem?_eq_some_iff.1 hi').1
    exact ⟨xs[i], by rw [this, List.getElem?_eq_getElem hlt]⟩)
  exact ⟨ys, y1, by omega, hlen, y3, fun j y v h1 h2 => y4 j y v h1 (by rw [Nat.zero_add]; exact h2)⟩

def AllQ (P : Program) (w : World) : List TypeId → List (List AV → Prop) → Prop
  | [], [] => True
  | t :: ts, Q :: Qs => ReadsC P w t Q ∧ AllQ P w ts Qs
  | _, _ => False
theorem allQ_get : ∀ {ts : List TypeId} {Qs : List (List AV → Prop)}, AllQ P w ts Qs → ts.length = Qs.length ∧ ∀ (i : Nat) t Q, ts[i]? = some t → Qs[i]? = some Q → ReadsC P w t Q
  | [], [], _ => ⟨rfl, fun i t Q h => by simp at h⟩
  | t :: ts, Q :: Qs, h => by
    obtain ⟨h1, h2⟩ := allQ_get h.2
    refine ⟨by simp [h1], fun i t' Q' ht hQ => ?_⟩
    cases i with
    | zero => simp at ht hQ; subst ht; subst hQ; exact h.1
    | succ i => exact h2 i t' Q' (by simpa using ht) (by simpa using hQ)
  | [], _ :: _, h => h.elim
  | _ :: _, [], h => h.elim
/-- As 'readsC_struct', the parts in a row. -/
theorem readsC_st {t : TypeId} {fs : Array Field} (ht : P.underlying t = some (.struct fs)) (hc : contB P (P.cellsOf t) 0 (fs.toList.map fun f => (f.type, f.offset)) = true) {Qs : List (List AV → Prop)}
    (hq : AllQ P w (fs.toList.map (·.type)) Qs) : ReadsC P w t (Flat Qs) := by
  obtain ⟨h1, h2⟩ := allQ_get hq
  exact readsC_struct ht Qs (by simpa using h1) hc fun i f Q hf hQ => h2 i f.type Q (by simp [hf]) hQ
/-- Cells of a good value. -/
def QR {α : Type} (f : α → AV) (good : α → Prop) (ys : List AV) : Prop := ∃ a, good a ∧ (f a).cells? = some ys

theorem readsC_array {t e : TypeId} {n : Nat} (ht : P.underlying t = some (.array n e)) (Q : List AV → Prop) (hc : contB P (P.cellsOf t) 0 ((List.range n).map fun i => (e, i * P.cellsOf e)) = true)
    (hq : ReadsC P w e Q) : ReadsC P w t (Flat (List.replicate n Q)) := fun H enc base sp held fuel cs x h => by
  obtain ⟨xs, m, _, _, hlen, hx, hf⟩ := DataW.trod_array ht h
  obtain ⟨ys, y1, y2, y3, y4⟩ := parts_read (w := w) (enc := enc) (base := base) (sp := sp) (held := held) (fuel := m) (cs := cs) ((List.range n).map fun i => (e, i * P.cellsOf e)) (List.replicate n Q) 0 (by rw [hlen]; exact hc) (by simp) (fun i p Q' h1 h2 => by
    simp only [List.getElem?_map, Option.map_eq_some_iff] at h1
    obtain ⟨f, hf1, rfl⟩ := h1
    rw [List.getElem?_replicate] at h2
    split at h2
    · cases h2; exact hq
    · cases h2) (fun p hp => by
    obtain ⟨i, hi, rfl⟩ := List.mem_map.1 hp
    have hi := List.mem_range.1 hi
    exact ⟨xs[i], by rw [hf i hi, List.getElem?_eq_getElem (by omega)]⟩)
  exact ⟨ys, y1, by omega, hlen, y3, fun j y v h1 h2 => y4 j y v h1 (by rw [Nat.zero_add]; exact h2)⟩

/-- An argument of several cells. -/
theorem arg_agg {H : Type} {enc : TypeId × Value → H} {base : Nat} {sp : Nat → Bool} {held : Bool} {t : TypeId} {Q : List AV → Prop} (hr : ReadsC P w t Q) {cs : Array Value} {d : DataW H} {ps : List MemPlace}
    (h : DataW.Trod enc P w base sp held t (.agg cs) d ps) : ∃ ys, Q ys ∧ PRel (heapI w) (.agg ys) (.agg cs) := by
  obtain ⟨fuel, h⟩ := h
  obtain ⟨ys, g1, g2, g3, g4, g5⟩ := hr H enc base sp held fuel _ _ h
  exact ⟨ys, g1, .agg _ _ (by rw [g2]; rfl) (fun i y u hy hu => g5 i y u hy (by simpa [Value.cells] using hu))⟩

theorem okWide_array {n : Nat} {e : TypeId} {r : Reach} {base : Nat} {t : TypeId} {v : Value} (ht : P.underlying t = some (.array n e)) (h : Value.okWide P w r base t v) : ∃ cs, v = .agg cs := by
  simp only [Value.okWide, ht] at h
  obtain ⟨cs, h1, _⟩ := h
  exact ⟨cs, h1⟩
end

/-- Arguments that were only read. -/
theorem trodAll_kept {H : Type} {enc : TypeId × Value → H} {P : Program} {W W' : World} (hl : laidOutB P = true) (hb : Below W.heap.size W W') (sp : Nat → Bool) : ∀ {ts : List TypeId} {vs : List Value} {ds : List (DataW H)} {ps : List MemPlace},
    ts.all (fun t => P.readableRec t && decide (t < P.types.size)) = true → DataW.TrodAll enc P W 0 (fun _ => true) true ts vs ds ps → (∀ x ∈ ps, x.block < W.heap.size) → (∀ x ∈ ps, sp x.block = true) → DataW.TrodAll enc P W' 0 sp true ts vs ds ps
  | [], vs, ds, ps, _, h, _, _ => by
    obtain ⟨rfl, rfl, rfl⟩ := trodAll_nil h
    exact trodAll_mk0
  | t :: ts, vs, ds, ps, hr, h, hlt, hs => by
    obtain ⟨v, vs', d, ds', p, q, rfl, rfl, rfl, hd, hrest⟩ := trodAll_cons h
    simp only [List.all_cons, Bool.and_eq_true, decide_eq_true_eq] at hr
    exact trodAll_cons_mk (arg_kept hl hr.1.1 hr.1.2 hd hb (fun x hx => hlt x (by simp [hx])) sp (fun x hx => hs x (by simp [hx])))
      (trodAll_kept hl hb sp hr.2 hrest (fun x hx => hlt x (by simp [hx])) (fun x hx => hs x (by simp [hx])))
end Go.Ab

set_option linter.unusedVariables false
set_option linter.unusedSimpArgs false
set_option maxRecDepth 10000
namespace Go.Num

def B : Nat := 4294967296
theorem B_pos : 0 < B := by decide
def val : List Nat → Nat
  | [] => 0
  | w :: r => w + B * val r
/-- Words alone. -/
def Wd (a : List Nat) : Prop := ∀ w ∈ a, w < B
theorem Wd.nil : Wd [] := fun w h => by simp at h
theorem Wd.cons {w : Nat} {a : List Nat} (h : w < B) (ha : Wd a) : Wd (w :: a) := fun x hx => by rcases List.mem_cons.1 hx with rfl | hx; exact h; exact ha x hx
theorem Wd.append {a b : List Nat} (ha : Wd a) (hb : Wd b) : Wd (a ++ b) := fun x hx => (List.mem_append.1 hx).elim (ha x) (hb x)
theorem Wd.take {a : List Nat} (h : Wd a) (n : Nat) : Wd (a.take n) := fun x hx => h x (List.mem_of_mem_take hx)
theorem Wd.drop {a : List Nat} (h : Wd a) (n : Nat) : Wd (a.drop n) := fun x hx => h x (List.mem_of_mem_drop hx)
theorem Wd.tail {w : Nat} {a : List Nat} (h : Wd (w :: a)) : Wd a := fun x hx => h x (by simp [hx])
theorem Wd.getD {a : List Nat} (h : Wd a) (i : Nat) : a.getD i 0 < B := by
  by_cases hi : i < a.length
  · simp only [List.getD, List.getElem?_eq_getElem hi, Option.getD_some]; exact h _ (List.getElem_mem hi)
  · simp only [List.getD, List.getElem?_eq_none (Nat.le_of_not_lt hi), Option.getD_none]; exact B_pos

theorem val_append (a b : List Nat) : val (a ++ b) = val a + B ^ a.length * val b := by
  induction a with
  | nil => simp [val]
  | cons w a ih =>
    simp only [List.cons_append, val, ih, List.length_cons, Nat.pow_succ, Nat.mul_add]
    rw [← Nat.mul_assoc, Nat.mul_comm B (B ^ a.length)]; omega
theorem val_lt {a : List Nat} (h : Wd a) : val a < B ^ a.length := by
  induction a with
  | nil => simp [val]
  | cons w a ih =>
    have h1 := ih h.tail
    have h2 := h w (by simp)
    simp only [val, List.length_cons, Nat.pow_succ]
    have h3 : B * (val a + 1) ≤ B * B ^ a.length := Nat.mul_le_mul_left _ h1
    rw [Nat.mul_comm (B ^ a.length)]
    rw [Nat.mul_add, Nat.mul_one] at h3
    omega
theorem val_take_succ (a : List Nat) (j : Nat) : val (a.take (j + 1)) = val (a.take j) + B ^ j * a.getD j 0 := by
  by_cases hj : j < a.length
  · rw [List.take_succ_eq_append_getElem hj, val_append]
    simp [val, List.getD, hj, Nat.min_eq_left (Nat.le_of_lt hj)]
  · rw [List.take_of_length_le (by omega), List.take_of_length_le (by omega)]
    simp [List.getD, List.getElem?_eq_none (Nat.le_of_not_lt hj)]
theorem val_take_ge (a : List Nat) {j : Nat} (h : a.length ≤ j) : val (a.take j) = val a := by rw [List.take_of_length_le h]
theorem val_take_lt {a : List Nat} (h : Wd a) (j : Nat) : val (a.take j) < B ^ j := by
  have := val_lt (h.take j)
  exact Nat.lt_of_lt_of_le this (Nat.pow_le_pow_right B_pos (by simp; omega))

/-- Words that are alike from a place on. -/
theorem val_lt_of {a b : List Nat} (ha : Wd a) (j : Nat) (hlt : a.getD j 0 < b.getD j 0) (n : Nat) (hn : j + 1 ≤ n) (h : ∀ k, j < k → k < n → a.getD k 0 = b.getD k 0) : val (a.take n) < val (b.take n) := by
  induction hn with
  | refl =>
    rw [val_take_succ, val_take_succ]
    have h1 := val_take_lt ha j
    have h2 : B ^ j * (a.getD j 0 + 1) ≤ B ^ j * b.getD j 0 := Nat.mul_le_mul_left _ hlt
    rw [Nat.mul_add, Nat.mul_one] at h2
    omega
  | @step n hn ih =>
    have hn : j + 1 ≤ n := hn
    rw [val_take_succ, val_take_succ, h n (by omega) (by omega)]
    have := ih fun k h1 h2 => h k h1 (by omega)
    omega
theorem val_eq_of {a b : List Nat} (n : Nat) (h : ∀ k, k < n → a.getD k 0 = b.getD k 0) : val (a.take n) = val (b.take n) := by
  induction n with
  | zero => simp
  | succ n ih => rw [val_take_succ, val_take_succ, h n (by omega), ih fun k hk => h k (by omega)]

/-- Which of two is the greater one. -/
def cmpN (x y : Nat) : Int := if x < y then -1 else if y < x then 1 else 0
theorem cmpN_lt {x y : Nat} (h : x < y) : cmpN x y = -1 := if_pos h
theorem cmpN_gt {x y : Nat} (h : y < x) : cmpN x y = 1 := by unfold cmpN; rw [if_neg (by omega), if_pos h]
theorem cmpN_eq {x y : Nat} (h : x = y) : cmpN x y = 0 := by unfold cmpN; rw [if_neg (by omega), if_neg (by omega)]
theorem cmpN_zero {x y : Nat} : cmpN x y = 0 ↔ x = y := by unfold cmpN; split <;> (try split) <;> omega

/-- A list without the noughts at its end. -/
def trim (a : List Nat) : List Nat := (a.reverse.dropWhile (· == 0)).reverse
theorem trim_nil : trim [] = [] := rfl
theorem trim_snoc0 (a : List Nat) : trim (a ++ [0]) = trim a := by simp [trim]
theorem trim_snoc (a : List Nat) {w : Nat} (h : w ≠ 0) : trim (a ++ [w]) = a ++ [w] := by simp [trim, List.dropWhile_cons, h]
theorem snoc_cases (a : List Nat) : a = [] ∨ ∃ b w, a = b ++ [w] := by
  rcases List.eq_nil_or_concat a with h | ⟨b, w, h⟩
  · exact .inl h
  · exact .inr ⟨b, w, by simpa using h⟩
theorem trim_take (a : List Nat) : ∃ n, n ≤ a.length ∧ trim a = a.take n ∧ (∀ k, n ≤ k → a.getD k 0 = 0) ∧ (0 < n → a.getD (n - 1) 0 ≠ 0) := by
  induction hn : a.length generalizing a with
  | zero => rw [List.length_eq_zero_iff] at hn; subst hn; exact ⟨0, by simp, rfl, by simp, by simp⟩
  | succ n ih =>
    rcases snoc_cases a with rfl | ⟨b, w, rfl⟩
    · simp at hn
    · simp at hn
      by_cases hw : w = 0
      · subst hw
        obtain ⟨m, h1, h2, h3, h4⟩ := ih b hn
        refine ⟨m, by omega, ?_, ?_, ?_⟩
        · rw [trim_snoc0, h2, List.take_append_of_le_length (by omega)]
        · intro k hk
          by_cases hb : k < b.length
          · have := h3 k hk
            simp only [List.getD, List.getElem?_append_left hb] at this ⊢; exact this
          · simp only [List.getD, List.getElem?_append_right (Nat.le_of_not_lt hb)]
            cases k - b.length <;> simp
        · intro h0
          have := h4 h0
          simp only [List.getD, List.getElem?_append_left (show m - 1 < b.length by omega)] at this ⊢; exact this
      · refine ⟨n + 1, by omega, ?_, ?_, ?_⟩
        · rw [trim_snoc _ hw, List.take_of_length_le (by simp; omega)]
        · intro k hk
          simp only [List.getD]
          rw [List.getElem?_eq_none (by simp; omega)]; rfl
        · intro _
          simp only [List.getD, Nat.add_sub_cancel]
          rw [List.getElem?_append_right (by omega), hn]; simpa using hw
theorem val_trim (a : List Nat) : val (trim a) = val a := by
  obtain ⟨n, h1, h2, h3, h4⟩ := trim_take a
  rw [h2]
  have key : ∀ m, n ≤ m → val (a.take m) = val (a.take n) := fun m hm => by
    induction hm with
    | refl => rfl
    | @step m hm ih => rw [val_take_succ, h3 m hm, ih]; simp
  rw [← key a.length h1, List.take_length]
theorem Wd.trim {a : List Nat} (h : Wd a) : Wd (trim a) := by
  obtain ⟨n, h1, h2, _⟩ := trim_take a
  rw [h2]; exact h.take n

/-- Words without noughts at the end. -/
def Nrm (a : List Nat) : Prop := Wd a ∧ (a ≠ [] → a.getD (a.length - 1) 0 ≠ 0)
theorem nrm_trim {a : List Nat} (h : Wd a) : Nrm (Num.trim a) := by
  refine ⟨h.trim, fun hne => ?_⟩
  obtain ⟨n, h1, h2, h3, h4⟩ := trim_take a
  rw [h2] at hne ⊢
  have hl : (a.take n).length = n := by simp; omega
  have hn : 0 < n := by rcases n with _ | n; simp at hne; omega
  rw [hl]
  have := h4 hn
  simp only [List.getD] at this ⊢
  rw [List.getElem?_take_of_lt (by omega)]; exact this
theorem nrm_ge {a : List Nat} (h : Nrm a) (hne : a ≠ []) : B ^ (a.length - 1) ≤ val a := by
  have h1 := h.2 hne
  have hl : 0 < a.length := List.length_pos_iff.2 hne
  have h2 := val_take_succ a (a.length - 1)
  rw [show a.length - 1 + 1 = a.length by omega, List.take_length] at h2
  rw [h2]
  have : B ^ (a.length - 1) * 1 ≤ B ^ (a.length - 1) * a.getD (a.length - 1) 0 := Nat.mul_le_mul_left _ (by omega)
  omega
theorem nrm_lt {a b : List Nat} (ha : Nrm a) (hb : Nrm b) (h : a.length < b.length) : val a < val b := by
  have h1 := val_lt ha.1
  have h2 := nrm_ge hb (by intro h0; rw [h0] at h; simp at h)
  have h3 : B ^ a.length ≤ B ^ (b.length - 1) := Nat.pow_le_pow_right B_pos (by omega)
  omega
theorem wd_inj {a b : List Nat} (ha : Wd a) (hb : Wd b) (hl : a.length = b.length) (h : val a = val b) : a = b := by
  induction a generalizing b with
  | nil => cases b with | nil => rfl | cons => simp at hl
  | cons w a ih =>
    cases b with
    | nil => simp at hl
    | cons x b =>
      simp only [val] at h
      have h1 := ha w (by simp)
      have h2 := hb x (by simp)
      have e1 : (w + B * val a) % B = w := by rw [Nat.add_mul_mod_self_left, Nat.mod_eq_of_lt h1]
      have e2 : (x + B * val b) % B = x := by rw [Nat.add_mul_mod_self_left, Nat.mod_eq_of_lt h2]
      have hx : w = x := by rw [← e1, ← e2, h]
      subst hx
      have : B * val a = B * val b := by omega
      rw [ih ha.tail hb.tail (by simpa using hl) (Nat.eq_of_mul_eq_mul_left B_pos this)]
theorem nrm_inj {a b : List Nat} (ha : Nrm a) (hb : Nrm b) (h : val a = val b) : a = b := by
  rcases Nat.lt_trichotomy a.length b.length with hl | hl | hl
  · have := nrm_lt ha hb hl; omega
  · exact wd_inj ha.1 hb.1 hl h
  · have := nrm_lt hb ha hl; omega
end Go.Num

set_option linter.unusedVariables false
set_option linter.unusedSimpArgs false
set_option maxRecDepth 10000
namespace Go.Num

theorem B_eq : B = 4294967296 := rfl
theorem B_two : 2 ≤ B := by decide

/-- The right words of a number. -/
def dig (n : Nat) : List Nat := if h : n = 0 then [] else n % B :: dig (n / B)
termination_by n
decreasing_by exact Nat.div_lt_self (by omega) B_two

theorem dig_zero : dig 0 = [] := by rw [dig, dif_pos rfl]
theorem dig_pos {n : Nat} (h : n ≠ 0) : dig n = n % B :: dig (n / B) := by rw [dig, dif_neg h]
theorem val_nil : val [] = 0 := rfl
theorem val_cons (w : Nat) (a : List Nat) : val (w :: a) = w + B * val a := rfl
theorem val_dig (n : Nat) : val (dig n) = n := by
  induction n using Nat.strongRecOn with
  | _ n ih =>
    by_cases h : n = 0
    · subst h; rw [dig_zero]; rfl
    · rw [dig_pos h, val_cons, ih _ (Nat.div_lt_self (by omega) B_two), Nat.mod_add_div]
theorem wd_dig (n : Nat) : Wd (dig n) := by
  induction n using Nat.strongRecOn with
  | _ n ih =>
    by_cases h : n = 0
    · subst h; rw [dig_zero]; exact .nil
    · rw [dig_pos h]; exact .cons (Nat.mod_lt _ B_pos) (ih _ (Nat.div_lt_self (by omega) B_two))
theorem nrm_nil : Nrm [] := ⟨.nil, fun h => absurd rfl h⟩
theorem nrm_dig (n : Nat) : Nrm (dig n) := by
  refine ⟨wd_dig n, ?_⟩
  induction n using Nat.strongRecOn with
  | _ n ih =>
    by_cases h : n = 0
    · subst h; rw [dig_zero]; intro h; exact absurd rfl h
    · rw [dig_pos h]
      intro _
      by_cases hq : n / B = 0
      · rw [hq, dig_zero]
        have : n % B = n := Nat.mod_eq_of_lt (by rcases Nat.lt_or_ge n B with h1 | h1; exact h1; have := Nat.div_pos h1 B_pos; omega)
        simpa [this] using h
      · have h1 := ih _ (Nat.div_lt_self (by omega) B_two) (by rw [dig_pos hq]; simp)
        have hl : 0 < (dig (n / B)).length := by rw [dig_pos hq]; simp
        rw [List.length_cons, Nat.add_sub_cancel]
        obtain ⟨k, hk⟩ : ∃ k, (dig (n / B)).length = k + 1 := ⟨(dig (n / B)).length - 1, by omega⟩
        rw [hk] at h1 ⊢
        simpa using h1
theorem dig_val {a : List Nat} (h : Nrm a) : dig (val a) = a := nrm_inj (nrm_dig _) h (val_dig _)
theorem trim_dig {a : List Nat} (h : Wd a) : trim a = dig (val a) := by rw [← val_trim a]; exact (dig_val (nrm_trim h)).symm
theorem trim_of_dig (n : Nat) : trim (dig n) = dig n := by rw [trim_dig (wd_dig n), val_dig]
theorem dig_nil {n : Nat} : dig n = [] ↔ n = 0 := ⟨fun h => by have := val_dig n; rw [h] at this; exact this.symm, fun h => by rw [h, dig_zero]⟩
theorem dig_len0 {n : Nat} : (dig n).length = 0 ↔ n = 0 := by rw [List.length_eq_zero_iff, dig_nil]
theorem lt_dig (n : Nat) : n < B ^ (dig n).length := by have := val_lt (wd_dig n); rwa [val_dig] at this
theorem dig_ge {n : Nat} (h : n ≠ 0) : B ^ ((dig n).length - 1) ≤ n := by
  have := nrm_ge (nrm_dig n) (by rw [Ne, dig_nil]; exact h); rwa [val_dig] at this
theorem dig_len_le {n k : Nat} : (dig n).length ≤ k ↔ n < B ^ k := by
  constructor
  · intro h; exact Nat.lt_of_lt_of_le (lt_dig n) (Nat.pow_le_pow_right B_pos h)
  · intro h
    by_cases h0 : n = 0
    · subst h0; rw [dig_zero]; simp
    · have h1 := dig_ge h0
      rcases Nat.lt_or_ge k (dig n).length with h2 | h2
      · have : B ^ k ≤ B ^ ((dig n).length - 1) := Nat.pow_le_pow_right B_pos (by omega)
        omega
      · exact h2
theorem dig_len_mono {m n : Nat} (h : m ≤ n) : (dig m).length ≤ (dig n).length := dig_len_le.2 (Nat.lt_of_le_of_lt h (lt_dig n))
theorem dig_len_val {a : List Nat} (h : Wd a) : (dig (val a)).length ≤ a.length := dig_len_le.2 (val_lt h)
theorem dig_one {n : Nat} (h0 : n ≠ 0) (h : n < B) : dig n = [n] := by
  rw [dig_pos h0, Nat.mod_eq_of_lt h, Nat.div_eq_of_lt h, dig_zero]
theorem dig_inj {m n : Nat} (h : dig m = dig n) : m = n := by rw [← val_dig m, h, val_dig]
theorem dig_add_len (m n : Nat) : (dig (m + n)).length ≤ max (dig m).length (dig n).length + 1 := by
  apply dig_len_le.2
  have h1 : m < B ^ max (dig m).length (dig n).length := Nat.lt_of_lt_of_le (lt_dig m) (Nat.pow_le_pow_right B_pos (by omega))
  have h2 : n < B ^ max (dig m).length (dig n).length := Nat.lt_of_lt_of_le (lt_dig n) (Nat.pow_le_pow_right B_pos (by omega))
  rw [Nat.pow_succ]
  have : B ^ max (dig m).length (dig n).length * 2 ≤ B ^ max (dig m).length (dig n).length * B := Nat.mul_le_mul_left _ B_two
  omega
theorem dig_mul_len (m n : Nat) : (dig (m * n)).length ≤ (dig m).length + (dig n).length := by
  apply dig_len_le.2
  rw [Nat.pow_add]
  exact Nat.mul_lt_mul'' (lt_dig m) (lt_dig n)

/-! ### Words written into a list -/
theorem take_set_ge {a : List Nat} {i j v : Nat} (h : j ≤ i) : (a.set i v).take j = a.take j := by
  apply List.ext_getElem?
  intro k
  by_cases hk : k < j
  · rw [List.getElem?_take_of_lt hk, List.getElem?_take_of_lt hk, List.getElem?_set_ne (by omega)]
  · rw [List.getElem?_eq_none (by simp; omega), List.getElem?_eq_none (by simp; omega)]
theorem val_take_set {a : List Nat} {i v : Nat} (h : i < a.length) : val ((a.set i v).take (i + 1)) = val (a.take i) + B ^ i * v := by
  rw [val_take_succ, take_set_ge (Nat.le_refl i)]
  simp [List.getD, h]
theorem Wd.set {a : List Nat} (h : Wd a) (i : Nat) {v : Nat} (hv : v < B) : Wd (a.set i v) := fun x hx => by
  rcases List.mem_or_eq_of_mem_set hx with h1 | h1
  · exact h x h1
  · omega
theorem Wd.replicate (n : Nat) {v : Nat} (hv : v < B) : Wd (List.replicate n v) := fun x hx => by rw [List.eq_of_mem_replicate hx]; exact hv
theorem val_replicate (n : Nat) : val (List.replicate n 0) = 0 := by
  induction n with
  | zero => rfl
  | succ n ih => rw [List.replicate_succ, val_cons, ih]; simp
theorem rep0 (n k : Nat) : (List.replicate n 0).getD k 0 = 0 := by
  simp only [List.getD, List.getElem?_replicate]; split <;> rfl
theorem getD_of_lt {a : List Nat} {i : Nat} (h : i < a.length) : a.getD i 0 = a[i] := by simp [List.getD, h]
theorem getD_of_ge {a : List Nat} {i : Nat} (h : a.length ≤ i) : a.getD i 0 = 0 := by simp [List.getD, List.getElem?_eq_none h]
theorem Wd.get {a : List Nat} (h : Wd a) {i : Nat} (hi : i < a.length) : a[i] < B := h _ (List.getElem_mem hi)
theorem val_set (a : List Nat) {i v : Nat} (h : i < a.length) : val (a.set i v) + B ^ i * a[i] = val a + B ^ i * v := by
  induction a generalizing i with
  | nil => simp at h
  | cons w a ih =>
    cases i with
    | zero => simp [val]; omega
    | succ i =>
      have := ih (i := i) (by simpa using h)
      simp only [List.set_cons_succ, val_cons, List.getElem_cons_succ, Nat.pow_succ]
      have e1 : B ^ i * B * a[i]'(by simpa using h) = B * (B ^ i * a[i]'(by simpa using h)) := by rw [Nat.mul_comm (B ^ i), Nat.mul_assoc]
      have e2 : B ^ i * B * v = B * (B ^ i * v) := by rw [Nat.mul_comm (B ^ i), Nat.mul_assoc]
      rw [e1, e2]
      have := congrArg (B * ·) this
      simp only [Nat.mul_add] at this
      omega

/-! ### Bits -/
def blen (n : Nat) : Nat := if n = 0 then 0 else Nat.log2 n + 1
theorem blen_le {n k : Nat} : blen n ≤ k ↔ n < 2 ^ k := by
  unfold blen
  split
  · rename_i h; subst h; simp [Nat.pow_pos]
  · rename_i h; rw [Nat.succ_le_iff, Nat.log2_lt h]
theorem lt_blen (n : Nat) : n < 2 ^ blen n := blen_le.1 (Nat.le_refl _)
theorem blen_ge {n k : Nat} (h : 2 ^ k ≤ n) : k < blen n := by
  rcases Nat.lt_or_ge k (blen n) with h1 | h1
  · exact h1
  · have := blen_le.1 h1; omega
theorem blen_eq {n k : Nat} (h1 : 2 ^ k ≤ n) (h2 : n < 2 ^ (k + 1)) : blen n = k + 1 := Nat.le_antisymm (blen_le.2 h2) (blen_ge h1)
theorem blen_mono {m n : Nat} (h : m ≤ n) : blen m ≤ blen n := blen_le.2 (Nat.lt_of_le_of_lt h (lt_blen n))
theorem blen_zero : blen 0 = 0 := rfl
theorem blen_pos {n : Nat} (h : n ≠ 0) : 0 < blen n := by unfold blen; rw [if_neg h]; omega
theorem blen_low {n : Nat} (h : n ≠ 0) : 2 ^ (blen n - 1) ≤ n := by
  unfold blen; rw [if_neg h, Nat.add_sub_cancel]; exact Nat.log2_self_le h
theorem blen_shift {m : Nat} (hm : m ≠ 0) (k r : Nat) (hr : r < 2 ^ k) : blen (m * 2 ^ k + r) = blen m + k := by
  have h1 := blen_low hm
  have h2 := lt_blen m
  have h0 := blen_pos hm
  have e1 : 2 ^ (blen m - 1) * 2 ^ k ≤ m * 2 ^ k := Nat.mul_le_mul_right _ h1
  have e2 : (m + 1) * 2 ^ k ≤ 2 ^ blen m * 2 ^ k := Nat.mul_le_mul_right _ h2
  rw [← Nat.pow_add] at e1 e2
  rw [Nat.add_mul, Nat.one_mul] at e2
  have : blen (m * 2 ^ k + r) = (blen m - 1 + k) + 1 := blen_eq (by omega) (by rw [show blen m - 1 + k + 1 = blen m + k by omega]; omega)
  omega
theorem B_pow2 : B = 2 ^ 32 := by decide
theorem Bpow (k : Nat) : B ^ k = 2 ^ (32 * k) := by rw [B_pow2, ← Nat.pow_mul]
theorem dig_len_blen (n : Nat) : 32 * (dig n).length ≤ blen n + 31 := by
  by_cases h : n = 0
  · subst h; rw [dig_zero]; simp
  · have h1 := dig_ge h
    rw [Bpow] at h1
    have := blen_ge h1
    have h2 : 0 < (dig n).length := by rcases Nat.eq_zero_or_pos (dig n).length with h3 | h3; exact absurd (dig_len0.1 h3) h; exact h3
    omega
theorem blen_dig_len (n : Nat) : blen n ≤ 32 * (dig n).length := blen_le.2 (by rw [← Bpow]; exact lt_dig n)
theorem blen_add (m n : Nat) : blen (m + n) ≤ max (blen m) (blen n) + 1 := by
  apply blen_le.2
  have h1 : m < 2 ^ max (blen m) (blen n) := Nat.lt_of_lt_of_le (lt_blen m) (Nat.pow_le_pow_right (by omega) (by omega))
  have h2 : n < 2 ^ max (blen m) (blen n) := Nat.lt_of_lt_of_le (lt_blen n) (Nat.pow_le_pow_right (by omega) (by omega))
  rw [Nat.pow_succ]; omega
theorem blen_mul (m n : Nat) : blen (m * n) ≤ blen m + blen n := by
  apply blen_le.2
  rw [Nat.pow_add]
  exact Nat.mul_lt_mul'' (lt_blen m) (lt_blen n)
theorem row_step {A Q x ai q d lo hi Vp Vq Vo T c : Nat} (hv : Vp + A * Q * d = Vo + A * (x * T + c)) (e1 : Vq + A * Q * q = Vp + A * Q * lo) (e2 : lo + 4294967296 * hi = x * ai + (q + d)) : Vq + A * Q * B * hi = Vo + A * (x * (T + Q * ai) + c) := by
  have e3 := congrArg (A * Q * ·) e2
  simp only [Nat.mul_add] at e3
  have e4 : A * Q * B * hi = A * Q * (4294967296 * hi) := by rw [Nat.mul_assoc]; rfl
  have e5 : A * (x * (T + Q * ai) + c) = A * (x * T + c) + A * Q * (x * ai) := by
    rw [Nat.mul_add x, Nat.mul_left_comm x Q, Nat.add_right_comm, Nat.mul_add A (x * T + c), Nat.mul_assoc A Q]
  rw [e4, e5]
  omega
theorem val_drop (a : List Nat) (i : Nat) : val (a.drop i) = a.getD i 0 + B * val (a.drop (i + 1)) := by
  by_cases h : i < a.length
  · rw [List.drop_eq_getElem_cons h, val_cons, getD_of_lt h]
  · rw [List.drop_eq_nil_of_le (by omega), List.drop_eq_nil_of_le (by omega), getD_of_ge (by omega)]; rfl
theorem val_split (a : List Nat) (i : Nat) : val a = val (a.take i) + B ^ i * val (a.drop i) := by
  by_cases h : i ≤ a.length
  · conv => lhs; rw [← List.take_append_drop i a]
    rw [val_append, List.length_take, Nat.min_eq_left h]
  · rw [List.take_of_length_le (by omega), List.drop_eq_nil_of_le (by omega)]; simp [val]
theorem val_drop_div {a : List Nat} (h : Wd a) (i : Nat) : val (a.drop i) = val a / B ^ i := by
  have h1 := val_split a i
  rw [h1, Nat.add_mul_div_left _ _ (Nat.pow_pos B_pos), Nat.div_eq_of_lt (val_take_lt h i), Nat.zero_add]
end Go.Num

set_option linter.unusedVariables false
set_option linter.unusedSimpArgs false
set_option maxRecDepth 10000
namespace Go.Ab
open Go.Num

theorem wu32 (n : Nat) : IntKind.u32.wrap (n : Int) = ((n % 4294967296 : Nat) : Int) := by
  unfold IntKind.wrap
  simp only [show IntKind.u32.bits = 32 from rfl, show IntKind.u32.signed = false from rfl, Bool.false_and, Bool.false_eq_true, if_false]
  omega
theorem wu64 (n : Nat) : IntKind.u64.wrap (n : Int) = ((n % 18446744073709551616 : Nat) : Int) := by
  unfold IntKind.wrap
  simp only [show IntKind.u64.bits = 64 from rfl, show IntKind.u64.signed = false from rfl, Bool.false_and, Bool.false_eq_true, if_false]
  omega
theorem wi64 {n : Nat} (h : n < 9223372036854775808) : IntKind.i64.wrap (n : Int) = (n : Int) := wrap64_id (by omega) (by omega)
theorem wu32_add (x y : Nat) : IntKind.u32.wrap ((x : Int) + (y : Int)) = (((x + y) % 4294967296 : Nat) : Int) := by rw [← wu32]; rfl
theorem wu32_sub {x y : Nat} (h : y ≤ x) : IntKind.u32.wrap ((x : Int) - (y : Int)) = (((x - y) % 4294967296 : Nat) : Int) := by rw [← wu32]; congr 1; omega
theorem wu32_sub' {x y : Nat} (h : x < y) (hx : x < 4294967296) (hy : y < 4294967296) : IntKind.u32.wrap ((x : Int) - (y : Int)) = ((x + 4294967296 - y : Nat) : Int) := by
  unfold IntKind.wrap
  simp only [show IntKind.u32.bits = 32 from rfl, show IntKind.u32.signed = false from rfl, Bool.false_and, Bool.false_eq_true, if_false]
  omega
theorem wu64_add (x y : Nat) : IntKind.u64.wrap ((x : Int) + (y : Int)) = (((x + y) % 18446744073709551616 : Nat) : Int) := by rw [← wu64]; rfl
theorem wu64_mul (x y : Nat) : IntKind.u64.wrap ((x : Int) * (y : Int)) = (((x * y) % 18446744073709551616 : Nat) : Int) := by rw [← wu64]; rfl
theorem shr_nat (x k : Nat) : (x : Int).fdiv ((2 : Int) ^ k) = ((x / 2 ^ k : Nat) : Int) := by
  rw [show ((2 : Int) ^ k) = ((2 ^ k : Nat) : Int) by simp]
  rw [Int.fdiv_eq_ediv_of_nonneg _ (Int.natCast_nonneg _), ← Int.natCast_ediv]
theorem shr32 (x : Nat) : (x : Int).fdiv 4294967296 = ((x / 4294967296 : Nat) : Int) := shr_nat x 32
theorem mul32 (x : Nat) : (x : Int) * 4294967296 = ((x * 4294967296 : Nat) : Int) := by omega
theorem tdiv_nat (x y : Nat) : (x : Int).tdiv (y : Int) = ((x / y : Nat) : Int) := by
  rw [Int.tdiv_eq_ediv_of_nonneg (Int.natCast_nonneg _), ← Int.natCast_ediv]
theorem tmod_nat (x y : Nat) : (x : Int).tmod (y : Int) = ((x % y : Nat) : Int) := by
  rw [Int.tmod_eq_emod_of_nonneg (Int.natCast_nonneg _), ← Int.natCast_emod]
theorem or_u64' {x y : Nat} (hx : x < 18446744073709551616) (hy : y < 18446744073709551616) : (BitVec.ofInt 64 (x : Int) ||| BitVec.ofInt 64 (y : Int)).toNat = (x ||| y) := by
  rw [BitVec.ofInt_natCast, BitVec.ofInt_natCast]
  simp only [BitVec.toNat_or, BitVec.toNat_ofNat]
  rw [show (2 : Nat) ^ 64 = 18446744073709551616 from rfl, Nat.mod_eq_of_lt hx, Nat.mod_eq_of_lt hy]
theorem or_u64 {x y : Nat} (hx : x < 18446744073709551616) (hy : y < 18446744073709551616) : orI .u64 (x : Int) (y : Int) = ((x ||| y : Nat) : Int) := by
  show IntKind.u64.wrap ((BitVec.ofInt 64 (x : Int) ||| BitVec.ofInt 64 (y : Int)).toNat : Int) = _
  rw [or_u64' hx hy, wu64, Nat.mod_eq_of_lt (Nat.or_lt_two_pow (n := 64) hx hy)]
theorem or_hi (x : Nat) {y : Nat} (k : Nat) (hy : y < 2 ^ k) : (x * 2 ^ k ||| y) = x * 2 ^ k + y := by
  rw [← Nat.shiftLeft_eq, Nat.shiftLeft_add_eq_or_of_lt hy]
theorem beq_nat (a b : Nat) : (((a : Nat) : Int) == ((b : Nat) : Int)) = decide (a = b) := by
  by_cases h : a = b
  · simp [h]
  · have : ((a : Nat) : Int) ≠ (b : Nat) := by omega
    rw [decide_eq_false h]; simpa using this
theorem bne_nat (a b : Nat) : (((a : Nat) : Int) != ((b : Nat) : Int)) = !decide (a = b) := by rw [bne, beq_nat]
theorem dlt_nat (a b : Nat) : decide (((a : Nat) : Int) < ((b : Nat) : Int)) = decide (a < b) := by
  by_cases h : a < b
  · rw [decide_eq_true h, decide_eq_true (show ((a : Nat) : Int) < (b : Nat) by omega)]
  · rw [decide_eq_false h, decide_eq_false (show ¬ ((a : Nat) : Int) < (b : Nat) by omega)]
theorem dlt0_nat (b : Nat) : decide ((0 : Int) < ((b : Nat) : Int)) = decide (0 < b) := dlt_nat 0 b
theorem dle_nat (a b : Nat) : decide (((a : Nat) : Int) ≤ ((b : Nat) : Int)) = decide (a ≤ b) := by
  by_cases h : a ≤ b
  · rw [decide_eq_true h, decide_eq_true (show ((a : Nat) : Int) ≤ (b : Nat) by omega)]
  · rw [decide_eq_false h, decide_eq_false (show ¬ ((a : Nat) : Int) ≤ (b : Nat) by omega)]

/-- Limb by limb. -/
theorem ashift_eq (op : BinOp) (k : IntKind) (x y : Int) : ashift op k x y = if y < 0 then none else match op with
  | .shl => some (.int k (k.wrap (x * 2 ^ (min y.toNat k.bits))))
  | .shr => some (.int k (x.fdiv (2 ^ (min y.toNat k.bits))))
  | _ => none := rfl
attribute [go_sem] ashift_eq
theorem min32_64 : min (32 : Nat) 64 = 32 := rfl
theorem toNat32 : (32 : Int).toNat = 32 := rfl

/-- Words, as values. -/
def wv (a : List Nat) : List AV := a.map fun x : Nat => .int .u32 (x : Int)
theorem wv_length (a : List Nat) : (wv a).length = a.length := by simp [wv]
theorem wv_append (a b : List Nat) : wv (a ++ b) = wv a ++ wv b := by simp [wv]
theorem wv_flat (a : List Nat) : (wv a).all (·.flat1) = true := by simp [wv, AV.flat1]
theorem wv_take (a : List Nat) (n : Nat) : (wv a).take n = wv (a.take n) := by simp [wv, List.map_take]
theorem wv_drop (a : List Nat) (n : Nat) : (wv a).drop n = wv (a.drop n) := by simp [wv, List.map_drop]
theorem wv_head {a : List Nat} {i : Nat} (h : i < a.length) : ((wv a).drop i).head? = some (.int .u32 (a.getD i 0 : Nat)) := by
  rw [List.head?_drop]; simp [wv, List.getD, h]
theorem wv_lay {a : List Nat} {i v : Nat} (h : i < a.length) : (wv a).take i ++ [.int .u32 (v : Int)] ++ (wv a).drop (i + 1) = wv (a.set i v) := by
  rw [List.set_eq_take_append_cons_drop, if_pos h]; simp [wv]
theorem wv_rep (n : Nat) : repCells n [.int .u32 0] = wv (List.replicate n 0) := by
  induction n with
  | zero => rfl
  | succ n ih => simp only [repCells, ih, List.replicate_succ]; rfl
theorem wv_cells (a : List Nat) : (a.map fun x : Nat => AV.int .u32 (x : Int)).flatMap cellsD = wv a := by
  induction a with
  | nil => rfl
  | cons x a ih => simp only [List.map_cons, List.flatMap_cons, ih]; rfl
theorem wv_chunk (a : List Nat) : chunk 1 a.length (wv a) = wv a := by
  induction a with
  | nil => rfl
  | cons x a ih => simp only [wv, List.map_cons, List.length_cons, chunk, if_true, List.headD_cons, List.drop_succ_cons, List.drop_zero] at ih ⊢; rw [ih]
theorem getD_wv {a : List Nat} {i : Nat} (h : i < a.length) (d : AV) : (wv a).getD i d = .int .u32 (a.getD i 0 : Nat) := by simp [wv, List.getD, h]
/-- What an own slice of words is, as a value. -/
theorem frz1_wv {h : Heap} {b off len : Nat} {a : List Nat} (hb : h b = some (wv a)) (hl : off + len ≤ a.length) : frz1 h (.own b off len 1) = .sl 1 (wv ((a.drop off).take len)) := by
  have hc : cut (wv a) off (len * 1) = wv ((a.drop off).take len) := by unfold cut; rw [wv_drop, wv_take, Nat.mul_one]
  simp only [frz1, hb, hc, wv_length]
  rw [if_pos ⟨by omega, by omega, wv_flat _⟩]
  have := wv_chunk ((a.drop off).take len)
  have hl2 : ((a.drop off).take len).length = len := by simp; omega
  rw [hl2] at this; rw [this]
theorem frz1_wv0 {h : Heap} {b len : Nat} {a : List Nat} (hb : h b = some (wv a)) (hl : len = a.length) : frz1 h (.own b 0 len 1) = .sl 1 (wv a) := by
  subst hl; rw [frz1_wv hb (by omega)]; simp
end Go.Ab

set_option linter.unusedVariables false
set_option linter.unusedSimpArgs false
set_option maxRecDepth 10000
namespace Go.Ab

theorem dec_true {p : Prop} [Decidable p] (h : p) : decide p = true := by simp [h]
theorem dec_false {p : Prop} [Decidable p] (h : ¬ p) : decide p = false := by simp [h]
theorem beq_false_of {a b : Int} (h : a ≠ b) : (a == b) = false := by simp [h]
theorem ne_false (b : Bool) : (b != false) = b := by cases b <;> rfl
theorem bne_int (a b : Int) : (a != b) = !decide (a = b) := by by_cases h : a = b <;> simp [h]
theorem beq_int (a b : Int) : (a == b) = decide (a = b) := by by_cases h : a = b <;> simp [h]
theorem drop_cons {α : Type} {l : List α} {i : Nat} (h : i < l.length) : l.drop i = l[i] :: l.drop (i + 1) := List.drop_eq_getElem_cons h
theorem w01 : IntKind.i64.wrap (0 + 1) = 1 := by decide
theorem w12 : IntKind.i64.wrap (1 + 1) = 2 := by decide
theorem w10 : IntKind.i64.wrap (1 - 1) = 0 := by decide
theorem w21 : IntKind.i64.wrap (2 - 1) = 1 := by decide
theorem w0m : IntKind.i64.wrap (0 - 1) = -1 := by decide
theorem w11 : IntKind.i64.wrap (1 - 1) = 0 := by decide
theorem u01 : IntKind.u32.wrap (0 + 1) = 1 := by decide
theorem u11 : IntKind.u32.wrap (1 + 1) = 2 := by decide
theorem cast3 : ((3 : Nat) : Int) = 3 := rfl
def encW (a : List Nat) : AV := .sl 1 (a.map fun x : Nat => .int .u32 (x : Int))
theorem encW_wv (a : List Nat) : encW a = .sl 1 (wv a) := rfl
theorem getD_w {a : List Nat} {i : Nat} (h : i < a.length) (d : AV) : (a.map fun x : Nat => AV.int .u32 (x : Int)).getD i d = .int .u32 (a.getD i 0 : Nat) := by simp [List.getD, h]

theorem Ret.words {st : ASt} {t b len : Nat} {a : List Nat} (h1 : st.τ t = .own b 0 len 1) (h2 : st.h b = some (wv a)) (hl : len = a.length) : Ret [t] (encW a) st :=
  .mk (by simp only [resV, h1, frz_own]; exact frz1_wv0 h2 hl)

theorem args_words {h : Heap} {b len : Nat} {a : List Nat} (h2 : h b = some (wv a)) (hl : len = a.length) : [AV.own b 0 len 1].map (frz2 h) = [encW a] := congrArg (fun x => [x]) (frz1_wv0 h2 hl)

theorem args_wi {h : Heap} {b len : Nat} {a : List Nat} {k : IntKind} {i : Int} (h2 : h b = some (wv a)) (hl : len = a.length) : [AV.own b 0 len 1, .int k i].map (frz2 h) = [encW a, .int k i] := congrArg (fun x => [x, AV.int k i]) (frz1_wv0 h2 hl)
theorem Acc.frz {α : Type} {e : Nat} {enc : α → AV} (he : Elt e enc) {st : ASt} {v : AV} {l : List α} (h : Acc e enc st v l) : (frz1 st.h v).le (.sl e (l.map enc)) := by
  rcases h with ⟨rfl, rfl⟩ | ⟨b, rfl, h2, _⟩
  · exact AV.le_nil e
  · exact AV.le_of_eq (frz1_flatC he h2)
theorem Acc.keep {α : Type} {e : Nat} {enc : α → AV} {st st' : ASt} {v : AV} {l : List α} (h : Acc e enc st v l) (hn : st.n ≤ st'.n) (hh : ∀ b o n e, v = .own b o n e → b < st.n → st'.h b = st.h b) : Acc e enc st' v l := by
  rcases h with h | ⟨b, h1, h2, h3⟩
  · exact .inl h
  · exact .inr ⟨b, h1, by rw [hh _ _ _ _ h1 h3, h2], by omega⟩
end Go.Ab

set_option linter.unusedVariables false
set_option linter.unusedSimpArgs false
set_option maxRecDepth 10000
namespace Go.Ab

def noRet : Code → Bool
  | .ret => false
  | .seq a b => noRet a && noRet b
  | .cond _ a b => noRet a && noRet b
  | .block _ c => noRet c
  | .loop c => noRet c
  | .scope c => noRet c
  | _ => true
def noRetI : Item → Bool
  | .code c => noRet c
  | .inLoop c => noRet c
  | _ => true

theorem exitTo_app {id : Nat} {k : List Item} : ∀ {l l' : List Item}, exitTo id l = some l' → exitTo id (l ++ k) = some (l' ++ k) ∧ ∀ x ∈ l', x ∈ l
  | [], l', h => by simp [exitTo] at h
  | x :: l, l', h => by
    have step : (∀ id', x ≠ .inBlock id') → exitTo id (x :: l) = exitTo id l ∧ exitTo id (x :: l ++ k) = exitTo id (l ++ k) := fun hx => by
      cases x <;> first | exact ⟨rfl, rfl⟩ | exact absurd rfl (hx _)
    by_cases hx : ∃ id', x = .inBlock id'
    · obtain ⟨id', rfl⟩ := hx
      simp only [exitTo, List.cons_append] at h ⊢
      by_cases hi : (id' == id) = true
      · rw [if_pos hi] at h ⊢
        cases h
        exact ⟨rfl, fun x hx => by simp [hx]⟩
      · rw [if_neg hi] at h ⊢
        obtain ⟨h1, h2⟩ := exitTo_app h
        exact ⟨h1, fun x hx => by simp [h2 x hx]⟩
    · obtain ⟨s1, s2⟩ := step fun id' e => hx ⟨id', e⟩
      rw [s1] at h
      rw [s2]
      obtain ⟨h1, h2⟩ := exitTo_app h
      exact ⟨h1, fun x hx => by simp [h2 x hx]⟩

section
variable {P : Program} {pa : List Tmp} {Q J : ASt → Prop} {k : List Item}
theorem AW_app {l : List Item} {st : ASt} (h : AW P pa J l st) (hl : ∀ x ∈ l, noRetI x = true) (h2 : ∀ st', J st' → AW P pa Q k st') : AW P pa Q (l ++ k) st := by
  refine h (fun l st => (∀ x ∈ l, noRetI x = true) → AW P pa Q (l ++ k) st) ?_ hl
  clear h hl
  intro l st h hl
  have tl : ∀ {x : Item} {r : List Item}, l = x :: r → ∀ y ∈ r, noRetI y = true := fun e y hy => hl y (by rw [e]; exact List.mem_cons_of_mem _ hy)
  have hd : ∀ {x : Item} {r : List Item}, l = x :: r → noRetI x = true := fun e => hl _ (by rw [e]; exact List.mem_cons_self ..)
  unfold stepF at h
  split at h
  · exact h2 _ h
  · rw [List.cons_append, AW_skip]; exact h (tl rfl)
  · rw [List.cons_append, AW_seq]
    have := hd rfl
    simp only [noRetI, noRet, Bool.and_eq_true] at this
    exact h (fun y hy => by
      simp only [List.mem_cons] at hy
      rcases hy with rfl | rfl | hy
      · exact this.1
      · exact this.2
      · exact tl rfl y hy)
  · rename_i c a b r _
    rw [List.cons_append, AW_cond]
    have := hd rfl
    simp only [noRetI, noRet, Bool.and_eq_true] at this
    split at h
    · exact ⟨fun e => h.1 e (fun y hy => by
        simp only [List.mem_cons] at hy
        rcases hy with rfl | hy
        · exact this.1
        · exact tl rfl y hy), fun e => h.2 e (fun y hy => by
        simp only [List.mem_cons] at hy
        rcases hy with rfl | hy
        · exact this.2
        · exact tl rfl y hy)⟩
    · exact h.elim
  · rw [List.cons_append, AW_block]
    have := hd rfl
    simp only [noRetI, noRet] at this
    exact h (fun y hy => by
      simp only [List.mem_cons] at hy
      rcases hy with rfl | rfl | hy
      · exact this
      · rfl
      · exact tl rfl y hy)
  · rw [List.cons_append, AW_loop]
    have := hd rfl
    simp only [noRetI, noRet] at this
    exact h (fun y hy => by
      simp only [List.mem_cons] at hy
      rcases hy with rfl | rfl | hy
      · exact this
      · exact this
      · exact tl rfl y hy)
  · rw [List.cons_append, AW_exit]
    split at h
    · rename_i k' hk
      obtain ⟨h3, h4⟩ := exitTo_app (k := k) hk
      rw [h3]
      exact h (fun y hy => tl rfl y (h4 y hy))
    · exact h.elim
  · have := hd rfl
    simp [noRetI, noRet] at this
  · rw [List.cons_append, AW_region]
    exact ARegion_mono (fun st hs => hs (tl rfl)) h
  · rw [List.cons_append, AW_inBlock]; exact h (tl rfl)
  · rw [List.cons_append, AW_inLoop]
    have := hd rfl
    simp only [noRetI] at this
    exact h (fun y hy => by
      simp only [List.mem_cons] at hy
      rcases hy with rfl | rfl | hy
      · exact this
      · exact this
      · exact tl rfl y hy)
  · rw [List.cons_append, AW_scope]
    have := hd rfl
    simp only [noRetI, noRet] at this
    exact h (fun y hy => by
      simp only [List.mem_cons] at hy
      rcases hy with rfl | rfl | hy
      · exact this
      · rfl
      · exact tl rfl y hy)
  · rw [List.cons_append, AW_label]; exact h (tl rfl)
  · rw [List.cons_append, AW_inScope]; exact h (tl rfl)
  · exact h.elim

/-- One statement first; then, from what holds behind it, the rest. -/
theorem AW_cut (J : ASt → Prop) {c : Code} {st : ASt} (hc : noRet c = true) (h1 : AW P pa J [.code c] st) (h2 : ∀ st', J st' → AW P pa Q k st') : AW P pa Q (.code c :: k) st :=
  AW_app (l := [.code c]) h1 (fun x hx => by simp at hx; subst hx; exact hc) h2
end
end Go.Ab

set_option linter.unusedVariables false
set_option linter.unusedSimpArgs false
set_option maxRecDepth 10000
namespace Go.Proofs.YtopmghclhgihfaaGreatDoor
open Go Go.Ab Go.Num


theorem c_ladd (x y c : Nat) (hx : x < 4294967296) (hy : y < 4294967296) (hc : c < 4294967296) : PCalls Tryz.prog 142 [.int .u32 (x : Int), .int .u32 (y : Int), .int .u32 (c : Int)] (.tup [.int .u32 ((x + (y + c)) % 4294967296 : Nat), .int .u32 ((x + (y + c)) / 4294967296 : Nat)]) := by
  refine pcalls_of_AW (pa := []) (fn := Tryz.f142) (ts := [6, 7]) follows_mixed Tryz.func142 rfl rfl (by kernel_rfl) (by kernel_rfl) (by rw [Tryz.ntmps142]; simp) ?_
  simp only [go_sem, ↓reduceIte, wu32_add, dlt_nat]
  have e1 : ((x + y) % 4294967296 + c) % 4294967296 = (x + (y + c)) % 4294967296 := by omega
  by_cases h1 : (x + y) % 4294967296 < x
  · simp only [go_sem, ↓reduceIte, wu32_add, dlt_nat, dec_true h1, e1, u01]
    by_cases h2 : (x + (y + c)) % 4294967296 < c
    · have e2 : (x + (y + c)) / 4294967296 = 2 := by omega
      simp only [go_sem, ↓reduceIte, wu32_add, dlt_nat, dec_true h2, u11]
      exact .mk (by simp only [go_sem, ↓reduceIte, e2] <;> rfl)
    · have e2 : (x + (y + c)) / 4294967296 = 1 := by omega
      simp only [go_sem, ↓reduceIte, wu32_add, dlt_nat, dec_false h2]
      exact .mk (by simp only [go_sem, ↓reduceIte, e2] <;> rfl)
  · simp only [go_sem, ↓reduceIte, wu32_add, dlt_nat, dec_false h1, e1]
    by_cases h2 : (x + (y + c)) % 4294967296 < c
    · have e2 : (x + (y + c)) / 4294967296 = 1 := by omega
      simp only [go_sem, ↓reduceIte, wu32_add, dlt_nat, dec_true h2, u01]
      exact .mk (by simp only [go_sem, ↓reduceIte, e2] <;> rfl)
    · have e2 : (x + (y + c)) / 4294967296 = 0 := by omega
      simp only [go_sem, ↓reduceIte, wu32_add, dlt_nat, dec_false h2]
      exact .mk (by simp only [go_sem, ↓reduceIte, e2] <;> rfl)

/-- A word less two: the word, and how often 2^32 is owed. -/
def subW (x y b : Nat) : Nat := (x + 8589934592 - y - b) % 4294967296
def subO (x y b : Nat) : Nat := 2 - (x + 8589934592 - y - b) / 4294967296
theorem subW_eq {x y b : Nat} (hx : x < 4294967296) (hy : y < 4294967296) (hb : b < 4294967296) : subW x y b + y + b = x + 4294967296 * subO x y b ∧ subW x y b < 4294967296 := by unfold subW subO; omega
theorem subO_le {x y b : Nat} (hx : x < 4294967296) (hy : y < 4294967296) (hb : b < 4294967296) : subO x y b ≤ 2 := by unfold subO; omega
theorem subO_le1 {x y b : Nat} (hx : x < 4294967296) (hy : y < 4294967296) (hb : b ≤ 1) : subO x y b ≤ 1 := by unfold subO; omega

theorem c_lsub (x y b : Nat) (hx : x < 4294967296) (hy : y < 4294967296) (hb : b < 4294967296) : PCalls Tryz.prog 143 [.int .u32 (x : Int), .int .u32 (y : Int), .int .u32 (b : Int)] (.tup [.int .u32 (subW x y b : Nat), .int .u32 (subO x y b : Nat)]) := by
  refine pcalls_of_AW (pa := []) (fn := Tryz.f143) (ts := [6, 7]) follows_mixed Tryz.func143 rfl rfl (by kernel_rfl) (by kernel_rfl) (by rw [Tryz.ntmps143]; simp) ?_
  simp only [go_sem, ↓reduceIte, dlt_nat]
  have hd : ∃ d : Nat, IntKind.u32.wrap ((x : Int) - (y : Int)) = (d : Int) ∧ d < 4294967296 ∧ (y ≤ x → d = x - y) ∧ (x < y → d = x + 4294967296 - y) := by
    by_cases h : y ≤ x
    · exact ⟨x - y, by rw [wu32_sub h, Nat.mod_eq_of_lt (by omega)], by omega, fun _ => rfl, fun _ => by omega⟩
    · exact ⟨x + 4294967296 - y, wu32_sub' (by omega) hx hy, by omega, fun _ => by omega, fun _ => rfl⟩
  obtain ⟨d, hd, hd1, hd2, hd3⟩ := hd
  have he : ∃ e : Nat, IntKind.u32.wrap ((d : Int) - (b : Int)) = (e : Int) ∧ e = subW x y b := by
    by_cases h : b ≤ d
    · exact ⟨d - b, by rw [wu32_sub h, Nat.mod_eq_of_lt (by omega)], by unfold subW; omega⟩
    · exact ⟨d + 4294967296 - b, wu32_sub' (by omega) hd1 hb, by unfold subW; omega⟩
  obtain ⟨e, he, rfl⟩ := he
  by_cases h1 : x < y
  · simp only [go_sem, ↓reduceIte, dec_true h1, hd, dlt_nat, u01]
    by_cases h2 : d < b
    · have e2 : subO x y b = 2 := by unfold subO; omega
      simp only [go_sem, ↓reduceIte, dec_true h2, hd, he, dlt_nat, u11]
      exact .mk (by simp only [go_sem, ↓reduceIte, e2] <;> rfl)
    · have e2 : subO x y b = 1 := by unfold subO; omega
      simp only [go_sem, ↓reduceIte, dec_false h2, hd, he, dlt_nat]
      exact .mk (by simp only [go_sem, ↓reduceIte, e2] <;> rfl)
  · simp only [go_sem, ↓reduceIte, dec_false h1, hd, dlt_nat]
    by_cases h2 : d < b
    · have e2 : subO x y b = 1 := by unfold subO; omega
      simp only [go_sem, ↓reduceIte, dec_true h2, hd, he, dlt_nat, u01]
      exact .mk (by simp only [go_sem, ↓reduceIte, e2] <;> rfl)
    · have e2 : subO x y b = 0 := by unfold subO; omega
      simp only [go_sem, ↓reduceIte, dec_false h2, hd, he, dlt_nat]
      exact .mk (by simp only [go_sem, ↓reduceIte, e2] <;> rfl)

theorem c_lmul (x y c d : Nat) (hx : x < 4294967296) (hy : y < 4294967296) (hc : c < 4294967296) (hd : d < 4294967296) :
    PCalls Tryz.prog 121 [.int .u32 (x : Int), .int .u32 (y : Int), .int .u32 (c : Int), .int .u32 (d : Int)] (.tup [.int .u32 ((x * y + (c + d)) / 4294967296 : Nat), .int .u32 ((x * y + (c + d)) % 4294967296 : Nat)]) := by
  refine pcalls_of_AW (pa := []) (fn := Tryz.f121) (ts := [8, 9]) follows_mixed Tryz.func121 rfl rfl (by kernel_rfl) (by kernel_rfl) (by rw [Tryz.ntmps121]; simp) ?_
  have hm : x * y ≤ 4294967295 * 4294967295 := Nat.mul_le_mul (by omega) (by omega)
  have m1 : x % 18446744073709551616 = x := Nat.mod_eq_of_lt (by omega)
  have m2 : y % 18446744073709551616 = y := Nat.mod_eq_of_lt (by omega)
  have m3 : c % 18446744073709551616 = c := Nat.mod_eq_of_lt (by omega)
  have m4 : d % 18446744073709551616 = d := Nat.mod_eq_of_lt (by omega)
  have m5 : x * y % 18446744073709551616 = x * y := Nat.mod_eq_of_lt (by omega)
  have m6 : (x * y + c) % 18446744073709551616 = x * y + c := Nat.mod_eq_of_lt (by omega)
  have m7 : (x * y + (c + d)) % 18446744073709551616 = x * y + (c + d) := Nat.mod_eq_of_lt (by omega)
  have m8 : (x * y + (c + d)) / 4294967296 % 4294967296 = (x * y + (c + d)) / 4294967296 := Nat.mod_eq_of_lt (by omega)
  simp only [go_sem, ↓reduceIte, wu64, wu64_mul, wu64_add, m1, m2, m3, m4, m5, m6, m7, toNat32, min32_64, shr32, wu32, m8]
  exact .mk (by simp only [go_sem, ↓reduceIte])

theorem c_ldiv (hi lo y : Nat) (hh : hi < y) (hl : lo < 4294967296) (hy : y < 4294967296) :
    PCalls Tryz.prog 130 [.int .u32 (hi : Int), .int .u32 (lo : Int), .int .u32 (y : Int)] (.tup [.int .u32 ((hi * 4294967296 + lo) / y : Nat), .int .u32 ((hi * 4294967296 + lo) % y : Nat), .bool true]) := by
  refine pcalls_of_AW (pa := []) (fn := Tryz.f130) (ts := [6, 7, 8]) follows_mixed Tryz.func130 rfl rfl (by kernel_rfl) (by kernel_rfl) (by rw [Tryz.ntmps130]; simp) ?_
  have m1 : hi % 18446744073709551616 = hi := Nat.mod_eq_of_lt (by omega)
  have m2 : y % 18446744073709551616 = y := Nat.mod_eq_of_lt (by omega)
  have m3 : lo % 18446744073709551616 = lo := Nat.mod_eq_of_lt (by omega)
  have m4 : hi * 4294967296 % 18446744073709551616 = hi * 4294967296 := Nat.mod_eq_of_lt (by omega)
  have m5 : (hi * 4294967296 ||| lo) = hi * 4294967296 + lo := or_hi hi 32 hl
  have m9 : (hi * 4294967296 + lo) % 18446744073709551616 = hi * 4294967296 + lo := Nat.mod_eq_of_lt (by omega)
  have hq : (hi * 4294967296 + lo) / y < 4294967296 := by
    rw [Nat.div_lt_iff_lt_mul (by omega)]
    have : hi * 4294967296 + 4294967296 ≤ y * 4294967296 := by omega
    omega
  have hr : (hi * 4294967296 + lo) % y < 4294967296 := Nat.lt_trans (Nat.mod_lt _ (by omega)) hy
  have m6 : (hi * 4294967296 + lo) / y % 18446744073709551616 = (hi * 4294967296 + lo) / y := Nat.mod_eq_of_lt (by omega)
  have m7 : (hi * 4294967296 + lo) / y % 4294967296 = (hi * 4294967296 + lo) / y := Nat.mod_eq_of_lt hq
  have m8 : (hi * 4294967296 + lo) % y % 4294967296 = (hi * 4294967296 + lo) % y := Nat.mod_eq_of_lt hr
  have h0 := dec_false (show ¬ y ≤ hi by omega)
  have hz : ((y : Nat) : Int) ≠ 0 := by omega
  have hz' : (((y : Nat) : Int) = 0) = False := eq_false hz
  simp only [go_sem, ↓reduceIte, dle_nat, h0, wu64, m1, m2, m3, toNat32, min32_64, mul32, m4, or_u64 (show hi * 4294967296 < 18446744073709551616 by omega) (show lo < 18446744073709551616 by omega), m5, m9, tdiv_nat, tmod_nat, hz', m6, wu32, m7, m8]
  exact .mk (by simp only [go_sem, ↓reduceIte])

theorem c_ldiv0 (hi lo y : Nat) (hh : y ≤ hi) :
    PCalls Tryz.prog 130 [.int .u32 (hi : Int), .int .u32 (lo : Int), .int .u32 (y : Int)] (.tup [.int .u32 0, .int .u32 0, .bool false]) := by
  refine pcalls_of_AW (pa := []) (fn := Tryz.f130) (ts := [6, 7, 8]) follows_mixed Tryz.func130 rfl rfl (by kernel_rfl) (by kernel_rfl) (by rw [Tryz.ntmps130]; simp) ?_
  simp only [go_sem, ↓reduceIte, dle_nat, dec_true hh]
  exact .mk (by simp only [go_sem, ↓reduceIte])

theorem blen_div {y s : Nat} (h : y / 2 ^ s ≠ 0) : blen y = blen (y / 2 ^ s) + s := by
  have := blen_shift h s (y % 2 ^ s) (Nat.mod_lt _ (Nat.pow_pos (by omega)))
  rw [Nat.mul_comm, Nat.div_add_mod] at this; exact this
theorem blen_small {y : Nat} (h : y < 2) : blen y = y := by
  have : y = 0 ∨ y = 1 := by omega
  rcases this with rfl | rfl <;> rfl
theorem sh16 (x : Nat) : (x : Int).fdiv 65536 = ((x / 65536 : Nat) : Int) := shr_nat x 16
theorem mn16 : min (16 : Nat) 32 = 16 := rfl
theorem sh8 (x : Nat) : (x : Int).fdiv 256 = ((x / 256 : Nat) : Int) := shr_nat x 8
theorem mn8 : min (8 : Nat) 32 = 8 := rfl
theorem sh4 (x : Nat) : (x : Int).fdiv 16 = ((x / 16 : Nat) : Int) := shr_nat x 4
theorem mn4 : min (4 : Nat) 32 = 4 := rfl
theorem sh2 (x : Nat) : (x : Int).fdiv 4 = ((x / 4 : Nat) : Int) := shr_nat x 2
theorem mn2 : min (2 : Nat) 32 = 2 := rfl
theorem sh1 (x : Nat) : (x : Int).fdiv 2 = ((x / 2 : Nat) : Int) := shr_nat x 1
theorem mn1 : min (1 : Nat) 32 = 1 := rfl

set_option maxHeartbeats 1000000 in
theorem c_llen (x : Nat) (hx : x < 4294967296) : PCalls Tryz.prog 124 [.int .u32 (x : Int)] (.int .i64 (blen x : Nat)) := by
  refine pcalls_of_AW (pa := []) (fn := Tryz.f124) (ts := [2]) follows_mixed Tryz.func124 rfl rfl (by kernel_rfl) (by kernel_rfl) (by rw [Tryz.ntmps124]; simp) ?_
  have hb : blen x ≤ 32 := blen_le.2 hx
  simp only [go_sem, ↓reduceIte]
  refine AW_while (fun m st => ∃ y c : Nat, (m = 16 ∧ y < 4294967296 ∨ m = 8 ∧ y < 65536 ∨ m = 4 ∧ y < 256 ∨ m = 2 ∧ y < 16 ∨ m = 1 ∧ y < 4 ∨ m = 0 ∧ y < 2) ∧ c + blen y = blen x ∧ st.τ 0 = .int .u32 (y : Int) ∧ st.τ 3 = .int .i64 (c : Int) ∧ st.τ 4 = .int .i64 (m : Int)) 16 ?_ ?_
  · exact ⟨x, 0, .inl ⟨rfl, hx⟩, by omega, by simp only [go_sem, ↓reduceIte], by simp only [go_sem, ↓reduceIte] <;> rfl, by simp only [go_sem, ↓reduceIte] <;> rfl⟩
  · rintro m st ⟨y, c, hy, hbl, h0, h3, h4⟩ next
    rcases hy with ⟨rfl, hy⟩ | ⟨rfl, hy⟩ | ⟨rfl, hy⟩ | ⟨rfl, hy⟩ | ⟨rfl, hy⟩ | ⟨rfl, hy⟩
    · have ht : (16 : Int).tdiv 2 = 8 := rfl
      have w : IntKind.i64.wrap 8 = 8 := wrap64_id (by omega) (by omega)
      by_cases hz : y / 65536 = 0
      · simp only [go_sem, ↓reduceIte, h0, h3, h4, show ((16 : Nat) : Int) = 16 from rfl, mn16, sh16, hz, show ((0 : Nat) : Int) = 0 from rfl, ht, w]
        refine next 8 _ (by omega) ⟨y, c, .inr (.inl ⟨rfl, by omega⟩), hbl, by simp only [go_sem, ↓reduceIte, h0], by simp only [go_sem, ↓reduceIte, h3], by simp only [go_sem, ↓reduceIte] <;> rfl⟩
      · have hz' : ((((y / 65536 : Nat) : Int)) != 0) = true := by simp; omega
        have hd := blen_div (y := y) (s := 16) hz
        rw [show (2 : Nat) ^ 16 = 65536 from rfl] at hd
        have w2 : IntKind.i64.wrap ((c : Int) + 16) = ((c + 16 : Nat) : Int) := by rw [wrap64_id (by omega) (by omega)]; rfl
        simp only [go_sem, ↓reduceIte, h0, h3, h4, show ((16 : Nat) : Int) = 16 from rfl, mn16, sh16, hz', ht, w, w2]
        refine next 8 _ (by omega) ⟨y / 65536, c + 16, .inr (.inl ⟨rfl, by omega⟩), by omega, by simp only [go_sem, ↓reduceIte, h0], by simp only [go_sem, ↓reduceIte, h3], by simp only [go_sem, ↓reduceIte] <;> rfl⟩
    · have ht : (8 : Int).tdiv 2 = 4 := rfl
      have w : IntKind.i64.wrap 4 = 4 := wrap64_id (by omega) (by omega)
      by_cases hz : y / 256 = 0
      · simp only [go_sem, ↓reduceIte, h0, h3, h4, show ((8 : Nat) : Int) = 8 from rfl, mn8, sh8, hz, show ((0 : Nat) : Int) = 0 from rfl, ht, w]
        refine next 4 _ (by omega) ⟨y, c, .inr (.inr (.inl ⟨rfl, by omega⟩)), hbl, by simp only [go_sem, ↓reduceIte, h0], by simp only [go_sem, ↓reduceIte, h3], by simp only [go_sem, ↓reduceIte] <;> rfl⟩
      · have hz' : ((((y / 256 : Nat) : Int)) != 0) = true := by simp; omega
        have hd := blen_div (y := y) (s := 8) hz
        rw [show (2 : Nat) ^ 8 = 256 from rfl] at hd
        have w2 : IntKind.i64.wrap ((c : Int) + 8) = ((c + 8 : Nat) : Int) := by rw [wrap64_id (by omega) (by omega)]; rfl
        simp only [go_sem, ↓reduceIte, h0, h3, h4, show ((8 : Nat) : Int) = 8 from rfl, mn8, sh8, hz', ht, w, w2]
        refine next 4 _ (by omega) ⟨y / 256, c + 8, .inr (.inr (.inl ⟨rfl, by omega⟩)), by omega, by simp only [go_sem, ↓reduceIte, h0], by simp only [go_sem, ↓reduceIte, h3], by simp only [go_sem, ↓reduceIte] <;> rfl⟩
    · have ht : (4 : Int).tdiv 2 = 2 := rfl
      have w : IntKind.i64.wrap 2 = 2 := wrap64_id (by omega) (by omega)
      by_cases hz : y / 16 = 0
      · simp only [go_sem, ↓reduceIte, h0, h3, h4, show ((4 : Nat) : Int) = 4 from rfl, mn4, sh4, hz, show ((0 : Nat) : Int) = 0 from rfl, ht, w]
        refine next 2 _ (by omega) ⟨y, c, .inr (.inr (.inr (.inl ⟨rfl, by omega⟩))), hbl, by simp only [go_sem, ↓reduceIte, h0], by simp only [go_sem, ↓reduceIte, h3], by simp only [go_sem, ↓reduceIte] <;> rfl⟩
      · have hz' : ((((y / 16 : Nat) : Int)) != 0) = true := by simp; omega
        have hd := blen_div (y := y) (s := 4) hz
        rw [show (2 : Nat) ^ 4 = 16 from rfl] at hd
        have w2 : IntKind.i64.wrap ((c : Int) + 4) = ((c + 4 : Nat) : Int) := by rw [wrap64_id (by omega) (by omega)]; rfl
        simp only [go_sem, ↓reduceIte, h0, h3, h4, show ((4 : Nat) : Int) = 4 from rfl, mn4, sh4, hz', ht, w, w2]
        refine next 2 _ (by omega) ⟨y / 16, c + 4, .inr (.inr (.inr (.inl ⟨rfl, by omega⟩))), by omega, by simp only [go_sem, ↓reduceIte, h0], by simp only [go_sem, ↓reduceIte, h3], by simp only [go_sem, ↓reduceIte] <;> rfl⟩
    · have ht : (2 : Int).tdiv 2 = 1 := rfl
      have w : IntKind.i64.wrap 1 = 1 := wrap64_id (by omega) (by omega)
      by_cases hz : y / 4 = 0
      · simp only [go_sem, ↓reduceIte, h0, h3, h4, show ((2 : Nat) : Int) = 2 from rfl, mn2, sh2, hz, show ((0 : Nat) : Int) = 0 from rfl, ht, w]
        refine next 1 _ (by omega) ⟨y, c, .inr (.inr (.inr (.inr (.inl ⟨rfl, by omega⟩)))), hbl, by simp only [go_sem, ↓reduceIte, h0], by simp only [go_sem, ↓reduceIte, h3], by simp only [go_sem, ↓reduceIte] <;> rfl⟩
      · have hz' : ((((y / 4 : Nat) : Int)) != 0) = true := by simp; omega
        have hd := blen_div (y := y) (s := 2) hz
        rw [show (2 : Nat) ^ 2 = 4 from rfl] at hd
        have w2 : IntKind.i64.wrap ((c : Int) + 2) = ((c + 2 : Nat) : Int) := by rw [wrap64_id (by omega) (by omega)]; rfl
        simp only [go_sem, ↓reduceIte, h0, h3, h4, show ((2 : Nat) : Int) = 2 from rfl, mn2, sh2, hz', ht, w, w2]
        refine next 1 _ (by omega) ⟨y / 4, c + 2, .inr (.inr (.inr (.inr (.inl ⟨rfl, by omega⟩)))), by omega, by simp only [go_sem, ↓reduceIte, h0], by simp only [go_sem, ↓reduceIte, h3], by simp only [go_sem, ↓reduceIte] <;> rfl⟩
    · have ht : (1 : Int).tdiv 2 = 0 := rfl
      have w : IntKind.i64.wrap 0 = 0 := wrap64_id (by omega) (by omega)
      by_cases hz : y / 2 = 0
      · simp only [go_sem, ↓reduceIte, h0, h3, h4, show ((1 : Nat) : Int) = 1 from rfl, mn1, sh1, hz, show ((0 : Nat) : Int) = 0 from rfl, ht, w]
        refine next 0 _ (by omega) ⟨y, c, .inr (.inr (.inr (.inr (.inr (⟨rfl, by omega⟩))))), hbl, by simp only [go_sem, ↓reduceIte, h0], by simp only [go_sem, ↓reduceIte, h3], by simp only [go_sem, ↓reduceIte] <;> rfl⟩
      · have hz' : ((((y / 2 : Nat) : Int)) != 0) = true := by simp; omega
        have hd := blen_div (y := y) (s := 1) hz
        rw [show (2 : Nat) ^ 1 = 2 from rfl] at hd
        have w2 : IntKind.i64.wrap ((c : Int) + 1) = ((c + 1 : Nat) : Int) := by rw [wrap64_id (by omega) (by omega)]; rfl
        simp only [go_sem, ↓reduceIte, h0, h3, h4, show ((1 : Nat) : Int) = 1 from rfl, mn1, sh1, hz', ht, w, w2]
        refine next 0 _ (by omega) ⟨y / 2, c + 1, .inr (.inr (.inr (.inr (.inr (⟨rfl, by omega⟩))))), by omega, by simp only [go_sem, ↓reduceIte, h0], by simp only [go_sem, ↓reduceIte, h3], by simp only [go_sem, ↓reduceIte] <;> rfl⟩
    · have w2 : IntKind.i64.wrap ((c : Int) + (y : Int)) = ((blen x : Nat) : Int) := by rw [wrap64_id (by omega) (by omega)]; rw [blen_small hy] at hbl; omega
      have w3 : IntKind.i64.wrap (y : Int) = (y : Int) := wrap64_id (by omega) (by omega)
      simp only [go_sem, ↓reduceIte, h0, h3, h4, show ((0 : Nat) : Int) = 0 from rfl, w3, w2]
      exact .mk (by simp only [go_sem, ↓reduceIte])

end Go.Proofs.YtopmghclhgihfaaGreatDoor

set_option linter.unusedVariables false
set_option linter.unusedSimpArgs false
set_option maxRecDepth 10000
namespace Go.Proofs.YtopmghclhgihfaaGreatDoor
open Go Go.Ab Go.Num

theorem trim_take_of {a : List Nat} {n : Nat} (hn : n ≤ a.length) (hz : ∀ k, n ≤ k → a.getD k 0 = 0) (h0 : 0 < n → a.getD (n - 1) 0 ≠ 0) : trim a = a.take n := by
  obtain ⟨m, h1, h2, h3, h4⟩ := trim_take a
  have : m = n := by
    rcases Nat.lt_trichotomy m n with h | h | h
    · exact absurd (h3 (n - 1) (by omega)) (h0 (by omega))
    · exact h
    · exact absurd (hz (m - 1) (by omega)) (h4 (by omega))
  rw [h2, this]

set_option maxHeartbeats 1000000 in
theorem c_trim (a : List Nat) (hl : a.length < 1000000) : PCalls Tryz.prog 86 [encW a] (encW (trim a)) := by
  refine pcalls_of_AW (pa := []) (fn := Tryz.f86) (ts := [2]) follows_mixed Tryz.func86 rfl rfl (by kernel_rfl) (by kernel_rfl) (by rw [Tryz.ntmps86]; simp) ?_
  simp only [go_sem, ↓reduceIte, encW]
  refine AW_while (fun m st => m ≤ a.length ∧ (∀ k, m ≤ k → a.getD k 0 = 0) ∧ st.τ 0 = encW a ∧ st.τ 3 = .int .i64 m) a.length ?_ ?_
  · exact ⟨by omega, fun k hk => by simp [List.getD, List.getElem?_eq_none hk], by simp only [go_sem, ↓reduceIte, encW], by simp only [go_sem, ↓reduceIte]⟩
  · rintro m st ⟨hm, hz, h0, h3⟩ next
    by_cases hp : 0 < m
    · have hp' : ((0 : Int) < (m : Int)) := by omega
      have w1 : IntKind.i64.wrap ((m : Int) - 1) = ((m - 1 : Nat) : Int) := by rw [wrap64_id (by omega) (by omega)]; omega
      have hlt : ((m - 1 : Nat) : Int) < (a.length : Nat) := by omega
      have hg := getD_w (a := a) (i := m - 1) (by omega) .undef
      by_cases hw : a.getD (m - 1) 0 = 0
      · rw [hw] at hg
        simp only [go_sem, ↓reduceIte, h0, h3, hp', encW, w1, hlt, hg, cast0]
        refine next (m - 1) _ (by omega) ⟨by omega, fun k hk => ?_, by simp only [go_sem, ↓reduceIte, h0, encW], by simp only [go_sem, ↓reduceIte, w1]⟩
        by_cases hkm : k = m - 1
        · rw [hkm]; exact hw
        · exact hz k (by omega)
      · have hne := beq_false_of (show ((a.getD (m - 1) 0 : Nat) : Int) ≠ 0 by omega)
        have hle : ((m : Nat) : Int) ≤ (a.length : Nat) := by omega
        simp only [go_sem, ↓reduceIte, h0, h3, hp', encW, w1, hlt, hg, hne, hle]
        exact .mk (by simp only [go_sem, ↓reduceIte, trim_take_of hm hz (fun _ => hw), List.map_take])
    · have hm0 : m = 0 := by omega
      subst hm0
      simp only [go_sem, ↓reduceIte, h0, h3, cast0, encW, Int.natCast_nonneg]
      exact .mk (by simp only [go_sem, ↓reduceIte, trim_take_of hm hz (fun h => absurd h hp), List.map_take])

set_option maxHeartbeats 1000000 in
theorem c_ncmp (a b : List Nat) (ha : Wd a) (hb : Wd b) (hla : a.length < 1000000) (hlb : b.length < 1000000) : PCalls Tryz.prog 89 [encW a, encW b] (.int .i64 (cmpN (val a) (val b))) := by
  rw [← val_trim a, ← val_trim b]
  refine pcalls_of_AW (pa := []) (fn := Tryz.f89) (ts := [4]) follows_mixed Tryz.func89 rfl rfl (by kernel_rfl) (by kernel_rfl) (by rw [Tryz.ntmps89]; simp) ?_
  simp only [go_sem, ↓reduceIte]
  refine callS_p (c_trim a hla) ?_
  simp only [go_sem, ↓reduceIte]
  refine callS_p (c_trim b hlb) ?_
  have hxa : (trim a).length < 1000000 := by obtain ⟨n, h1, h2, _⟩ := trim_take a; rw [h2]; simp; omega
  have hxb : (trim b).length < 1000000 := by obtain ⟨n, h1, h2, _⟩ := trim_take b; rw [h2]; simp; omega
  have na := nrm_trim ha
  have nb := nrm_trim hb
  generalize trim a = x at *
  generalize trim b = y at *
  rcases Nat.lt_trichotomy x.length y.length with hl | hl | hl
  · have h1 := dec_true (show ((x.length : Nat) : Int) < (y.length : Nat) by omega)
    simp only [go_sem, ↓reduceIte, encW, h1]
    exact .mk (by simp only [go_sem, ↓reduceIte, cmpN_lt (nrm_lt na nb hl)])
  · have h1 := dec_false (show ¬ ((x.length : Nat) : Int) < (y.length : Nat) by omega)
    have h2 := dec_false (show ¬ ((y.length : Nat) : Int) < (x.length : Nat) by omega)
    have w1 : IntKind.i64.wrap ((x.length : Int) - 1) = (x.length : Int) - 1 := wrap64_id (by omega) (by omega)
    simp only [go_sem, ↓reduceIte, encW, h1, h2, w1]
    refine AW_while (fun m st => m ≤ x.length ∧ (∀ k, m ≤ k → x.getD k 0 = y.getD k 0) ∧ st.τ 0 = encW x ∧ st.τ 1 = encW y ∧ st.τ 5 = .int .i64 ((m : Int) - 1)) x.length ?_ ?_
    · refine ⟨by omega, fun k hk => ?_, by simp only [go_sem, ↓reduceIte, encW], by simp only [go_sem, ↓reduceIte, encW], by simp only [go_sem, ↓reduceIte]⟩
      simp [List.getD, List.getElem?_eq_none hk, List.getElem?_eq_none (show y.length ≤ k by omega)]
    · rintro m st ⟨hm, hz, h0, h1, h5⟩ next
      by_cases hp : 0 < m
      · have hp' : ((0 : Int) ≤ (m : Int) - 1) := by omega
        have e1 : ((m : Int) - 1) = ((m - 1 : Nat) : Int) := by omega
        have hltx : ((m - 1 : Nat) : Int) < (x.length : Nat) := by omega
        have hlty : ((m - 1 : Nat) : Int) < (y.length : Nat) := by omega
        have hgx := getD_w (a := x) (i := m - 1) (by omega) .undef
        have hgy := getD_w (a := y) (i := m - 1) (by omega) .undef
        have tail : ∀ k, m - 1 < k → x.getD k 0 = y.getD k 0 := fun k hk => hz k (by omega)
        rw [e1] at h5
        rcases Nat.lt_trichotomy (x.getD (m - 1) 0) (y.getD (m - 1) 0) with hc | hc | hc
        · have g1 := dec_true (show ((x.getD (m - 1) 0 : Nat) : Int) < (y.getD (m - 1) 0 : Nat) by omega)
          have hlt := val_lt_of na.1 (m - 1) hc x.length (by omega) fun k hk _ => tail k hk
          rw [List.take_length, List.take_of_length_le (by omega)] at hlt
          simp only [go_sem, ↓reduceIte, h0, h1, h5, encW, hltx, hlty, hgx, hgy, g1]
          exact .mk (by simp only [go_sem, ↓reduceIte, cmpN_lt hlt])
        · have g1 := dec_false (show ¬ ((x.getD (m - 1) 0 : Nat) : Int) < (y.getD (m - 1) 0 : Nat) by omega)
          have g2 := dec_false (show ¬ ((y.getD (m - 1) 0 : Nat) : Int) < (x.getD (m - 1) 0 : Nat) by omega)
          simp only [go_sem, ↓reduceIte, h0, h1, h5, encW, hltx, hlty, hgx, hgy, g1, g2]
          refine next (m - 1) _ (by omega) ⟨by omega, fun k hk => ?_, by simp only [go_sem, ↓reduceIte, h0, encW], by simp only [go_sem, ↓reduceIte, h1, encW], by simp only [go_sem, ↓reduceIte]; rw [wrap64_id (by omega) (by omega)]⟩
          by_cases hk2 : k = m - 1
          · rw [hk2]; exact hc
          · exact tail k (by omega)
        · have g1 := dec_false (show ¬ ((x.getD (m - 1) 0 : Nat) : Int) < (y.getD (m - 1) 0 : Nat) by omega)
          have g2 := dec_true (show ((y.getD (m - 1) 0 : Nat) : Int) < (x.getD (m - 1) 0 : Nat) by omega)
          have hlt := val_lt_of nb.1 (m - 1) hc x.length (by omega) fun k hk _ => (tail k hk).symm
          rw [List.take_length, List.take_of_length_le (by omega)] at hlt
          simp only [go_sem, ↓reduceIte, h0, h1, h5, encW, hltx, hlty, hgx, hgy, g1, g2]
          exact .mk (by simp only [go_sem, ↓reduceIte, cmpN_gt hlt])
      · have hm0 : m = 0 := by omega
        subst hm0
        have g0 := dec_false (show ¬ (0 : Int) ≤ ((0 : Nat) : Int) - 1 by omega)
        have hv := val_eq_of (a := x) (b := y) x.length fun k _ => hz k (by omega)
        rw [List.take_length, List.take_of_length_le (by omega)] at hv
        simp only [go_sem, ↓reduceIte, h0, h1, h5, g0]
        exact .mk (by simp only [go_sem, ↓reduceIte, cmpN_eq hv])
  · have h1 := dec_false (show ¬ ((x.length : Nat) : Int) < (y.length : Nat) by omega)
    have h2 := dec_true (show ((y.length : Nat) : Int) < (x.length : Nat) by omega)
    simp only [go_sem, ↓reduceIte, encW, h1, h2]
    exact .mk (by simp only [go_sem, ↓reduceIte, cmpN_gt (nrm_lt nb na hl)])

end Go.Proofs.YtopmghclhgihfaaGreatDoor

set_option linter.unusedVariables false
set_option linter.unusedSimpArgs false
set_option maxRecDepth 10000
namespace Go.Proofs.YtopmghclhgihfaaGreatDoor
open Go Go.Ab Go.Num

/-- What a call gives that makes a list of words of its own. -/
def NewW (h : Heap) (n : Nat) (a : List Nat) (v : AV) (h' : Heap) (n' : Nat) : Prop :=
  ∃ b, v = .own b 0 a.length 1 ∧ n ≤ b ∧ b < n' ∧ h' b = some (wv a) ∧ ∀ j, j < n → h' j = h j

theorem c_fresh (a : List Nat) (more : Nat) (h : Heap) (n : Nat) (hl : a.length + more < 1000000) : HCalls Tryz.prog 122 [encW a, .int .i64 (more : Int)] h n (NewW h n (a ++ List.replicate more 0)) := by
  refine hcalls_of_AWR (pa := []) (fn := Tryz.f122) (rs := [.tmp 4]) follows_mixed Tryz.func122 rfl rfl (by kernel_rfl) (by kernel_rfl) (by rw [Tryz.ntmps122]; simp) ?_
  have w1 : IntKind.i64.wrap ((a.length : Int) + (more : Int)) = ((a.length + more : Nat) : Int) := by rw [wrap64_id (by omega) (by omega)]; rfl
  have hle : ((a.length + more : Nat) : Int) ≤ 1099511627776 := by omega
  have hmin : min a.length (a.length + more) = a.length := by omega
  have hrep : (List.replicate (a.length + more) 0).drop a.length = List.replicate more (0 : Nat) := by rw [List.drop_replicate]; congr 1; omega
  simp only [go_sem, ↓reduceIte, encW, w1, hle, wv_rep, wv_cells, wv_length, wv_take, wv_drop, hmin, List.take_length, List.length_replicate, hrep]
  exact .mk (.own (n + 5) 0 (a.length + more) 1) (by simp only [go_sem, ↓reduceIte]) ⟨n + 5, by rw [List.length_append, List.length_replicate], by omega, by simp only [go_sem, ↓reduceIte] <;> omega, by simp only [go_sem, ↓reduceIte, wv_append] <;> rfl, fun j hj => by simp only [go_sem, ↓reduceIte, upd1_old _ _ _ _ _ hj]⟩

theorem encW_dig {a : List Nat} (h : Wd a) : encW (trim a) = encW (dig (val a)) := by rw [trim_dig h]

theorem NewW.ex {h h' : Heap} {n n' : Nat} {a : List Nat} {v : AV} (H : NewW h n a v h' n') : ∃ b, v = .own b 0 a.length 1 ∧ n ≤ b ∧ b < n' ∧ h' b = some (wv a) ∧ ∀ j, j < n → h' j = h j := H
theorem NewW.frz {h h' : Heap} {n n' : Nat} {a : List Nat} {v : AV} (H : NewW h n a v h' n') : (frz h' v).le (encW a) := by
  obtain ⟨b, rfl, _, _, hb, _⟩ := H
  exact AV.le_of_eq (by rw [frz_own]; exact frz1_wv0 hb rfl)

theorem c_norm_h (a : List Nat) (h : Heap) (n : Nat) (ha : Wd a) (hl : a.length < 1000000) : HCalls Tryz.prog 99 [encW a] h n (NewW h n (dig (val a))) := by
  have hlt := dig_len_val ha
  refine hcalls_of_AWR (pa := []) (fn := Tryz.f99) (rs := [.tmp 2]) follows_mixed Tryz.func99 rfl rfl (by kernel_rfl) (by kernel_rfl) (by rw [Tryz.ntmps99]; simp) ?_
  simp only [go_sem, ↓reduceIte]
  refine callS_p (c_trim a hl) ?_
  rw [encW_dig ha]
  simp only [go_sem, ↓reduceIte, encW]
  refine callS_h (c_fresh (dig (val a)) 0 _ _ (by omega)) ?_
  rintro v h' n' hn ⟨b, rfl, hb1, hb2, hb, hkeep⟩
  rw [List.replicate_zero, List.append_nil] at hb ⊢
  simp only at hn hb1 hkeep
  simp only [go_sem, ↓reduceIte]
  exact .mk (.own b 0 (dig (val a)).length 1) (by simp only [go_sem, ↓reduceIte]) ⟨b, rfl, by omega, by simp only [go_sem, ↓reduceIte] <;> omega, by simp only [go_sem, ↓reduceIte, hb], fun j hj => by simp only [go_sem, ↓reduceIte]; rw [hkeep j (by omega)]⟩
theorem c_norm (a : List Nat) (ha : Wd a) (hl : a.length < 1000000) : PCalls Tryz.prog 99 [encW a] (encW (dig (val a))) := .of_h (c_norm_h a _ _ ha hl) fun _ _ _ => NewW.frz

/-- Likewise, of a list of the caller's, which is no more read. -/
theorem c_norm_own (a : List Nat) (b : Nat) (h : Heap) (n : Nat) (ha : Wd a) (hl : a.length < 1000000) (hb : h b = some (wv a)) (hbn : b < n) : HCalls Tryz.prog 99 [.own b 0 a.length 1] h n (fun v h' n' => ∃ b', v = .own b' 0 (dig (val a)).length 1 ∧ n ≤ b' ∧ b' < n' ∧ h' b' = some (wv (dig (val a))) ∧ ∀ j, j < n → j ≠ b → h' j = h j) := by
  have hlt := dig_len_val ha
  refine hcalls_of_AWR (pa := []) (fn := Tryz.f99) (rs := [.tmp 2]) follows_mixed Tryz.func99 rfl rfl (by kernel_rfl) (by kernel_rfl) (by rw [Tryz.ntmps99]; simp) ?_
  simp only [go_sem, ↓reduceIte]
  refine callS_q (c_trim a hl) (args_words hb rfl) rfl ?_
  rw [encW_dig ha]
  simp only [go_sem, ↓reduceIte, encW]
  refine callS_h (c_fresh (dig (val a)) 0 _ _ (by omega)) ?_
  rintro v h' n' hn ⟨b1, rfl, hb1, hb2, hb', hkeep⟩
  rw [List.replicate_zero, List.append_nil] at hb' ⊢
  simp only at hn hb1 hkeep
  simp only [go_sem, ↓reduceIte]
  exact .mk (.own b1 0 (dig (val a)).length 1) (by simp only [go_sem, ↓reduceIte]) ⟨b1, rfl, by omega, by simp only [go_sem, ↓reduceIte] <;> omega, by simp only [go_sem, ↓reduceIte, hb'], fun j hj hjb => by simp only [go_sem, ↓reduceIte]; rw [hkeep j (by omega)]; simp only [go_sem, ↓reduceIte, hjb]⟩

theorem c_of (x : Nat) (hx : x < 18446744073709551616) : PCalls Tryz.prog 59 [.int .u64 (x : Int)] (encW (dig x)) := by
  refine pcalls_of_AW (pa := []) (fn := Tryz.f59) (ts := [2]) follows_mixed Tryz.func59 rfl rfl (by kernel_rfl) (by kernel_rfl) (by rw [Tryz.ntmps59]; simp) ?_
  have hw : Wd [x % 4294967296, x / 4294967296] := .cons (Nat.mod_lt _ (by omega)) (.cons (by show _ < 4294967296; omega) .nil)
  have hv : val [x % 4294967296, x / 4294967296] = x := by simp only [val_cons, val_nil, B_eq]; omega
  have hm : x / 4294967296 % 4294967296 = x / 4294967296 := Nat.mod_eq_of_lt (by omega)
  simp only [go_sem, ↓reduceIte, wu32, toNat32, min32_64, shr32, hm]
  refine callS_p (c_trim [x % 4294967296, x / 4294967296] (by simp)) ?_
  rw [encW_dig hw, hv]
  simp only [go_sem, ↓reduceIte]
  exact .mk (by simp only [go_sem, ↓reduceIte, encW])

theorem c_zero (a : List Nat) (ha : Wd a) (hl : a.length < 1000000) : PCalls Tryz.prog 87 [encW a] (.bool (decide (val a = 0))) := by
  refine pcalls_of_AW (pa := []) (fn := Tryz.f87) (ts := [2]) follows_mixed Tryz.func87 rfl rfl (by kernel_rfl) (by kernel_rfl) (by rw [Tryz.ntmps87]; simp) ?_
  simp only [go_sem, ↓reduceIte]
  refine callS_p (c_trim a hl) ?_
  rw [encW_dig ha]
  have hd : (((dig (val a)).length : Nat) : Int) = 0 ↔ val a = 0 := by rw [← dig_len0 (n := val a)]; omega
  simp only [go_sem, ↓reduceIte, encW, beq_int, hd]
  exact .mk (by simp only [go_sem, ↓reduceIte])

theorem getD_le {a : List Nat} {i : Nat} (h : a.length ≤ i) : a.getD i 0 = 0 := getD_of_ge h

set_option maxHeartbeats 1000000 in
theorem c_plus (a b : List Nat) (ha : Wd a) (hb : Wd b) (hla : a.length < 100000) (hlb : b.length < 100000) : PCalls Tryz.prog 119 [encW a, encW b] (encW (dig (val a + val b))) := by
  refine pcalls_of_AW (pa := []) (fn := Tryz.f119) (ts := [4]) follows_mixed Tryz.func119 rfl rfl (by kernel_rfl) (by kernel_rfl) (by rw [Tryz.ntmps119]; simp) ?_
  simp only [go_sem, ↓reduceIte, encW]
  refine AW_cut (fun st => ∃ x y, y.length ≤ x.length ∧ x.length < 100000 ∧ Wd x ∧ Wd y ∧ val x + val y = val a + val b ∧ st.τ 0 = encW x ∧ st.τ 1 = encW y) rfl ?_ ?_
  · refine AW_ite rfl (fun hc => ?_) (fun hc => ?_)
    · simp only [decide_eq_true_eq] at hc
      simp only [go_sem, ↓reduceIte]
      exact ⟨b, a, by omega, hlb, hb, ha, by omega, by simp only [go_sem, ↓reduceIte, encW], by simp only [go_sem, ↓reduceIte, encW]⟩
    · simp only [decide_eq_false_iff_not] at hc
      simp only [go_sem, ↓reduceIte]
      exact ⟨a, b, by omega, hla, ha, hb, rfl, by simp only [go_sem, ↓reduceIte, encW], by simp only [go_sem, ↓reduceIte, encW]⟩
  · rintro st ⟨x, y, hxy, hlx, hx, hy, hval, h0, h1⟩
    rw [← hval]
    clear hval ha hb hla hlb
    clear a b
    simp only [go_sem, ↓reduceIte, h0, h1, encW]
    refine callS_h (c_fresh x 1 _ _ (by omega)) ?_
    rintro v h' n' hn ⟨b, rfl, hb1, hb2, hb, hkeep⟩
    have hlen : (x ++ List.replicate 1 0).length = x.length + 1 := by simp
    rw [hlen]
    simp only [go_sem, ↓reduceIte, h0, h1, encW]
    refine AW_while (fun m st => ∃ i o c, i + m = x.length ∧ st.τ 0 = encW x ∧ st.τ 1 = encW y ∧ st.τ 5 = .own b 0 (x.length + 1) 1 ∧ st.τ 6 = .int .u32 (c : Nat) ∧ st.τ 18 = encW x ∧ st.τ 19 = .int .i64 x.length ∧ st.τ 20 = .int .i64 (i : Nat) ∧
      st.h b = some (wv o) ∧ b < st.n ∧ o.length = x.length + 1 ∧ Wd o ∧ c ≤ 1 ∧ val (o.take i) + B ^ i * c = val (x.take i) + val (y.take i)) x.length ?_ ?_
    · exact ⟨0, x ++ List.replicate 1 0, 0, by omega, by simp only [go_sem, ↓reduceIte, h0, encW], by simp only [go_sem, ↓reduceIte, h1, encW], by simp only [go_sem, ↓reduceIte], by simp only [go_sem, ↓reduceIte] <;> rfl, by simp only [go_sem, ↓reduceIte, encW], by simp only [go_sem, ↓reduceIte], by simp only [go_sem, ↓reduceIte] <;> rfl, by simp only [go_sem, ↓reduceIte, hb], by simp only [go_sem, ↓reduceIte] <;> omega, hlen, hx.append (.replicate 1 (by decide)), by omega, by simp [val]⟩
    · clear h0 h1 hb hkeep hlen hn hb1 hb2
      clear st
      rintro m st ⟨i, o, c, hi, h0, h1, h5, h6, h18, h19, h20, hb, hbn, hlo, ho, hc, hv⟩ next
      by_cases hlt : i < x.length
      · have hlt' : ((i : Nat) : Int) < (x.length : Nat) := by omega
        have hxi := hx.getD i
        have hyi := hy.getD i
        rw [B_eq] at hxi hyi
        have hgx := getD_w (a := x) (i := i) hlt .undef
        have hio : ((i : Nat) : Int) < ((x.length + 1 : Nat) : Int) := by omega
        have hil : i < o.length := by omega
        have hil' : i + 1 ≤ o.length := hil
        have hile : i ≤ o.length := by omega
        by_cases hiy : i < y.length
        case' pos =>
          have hadd := c_ladd _ _ _ hxi hyi (show c < 4294967296 by omega)
          have hiy' : ((i : Nat) : Int) < (y.length : Nat) := by omega
          have hgy := getD_w (a := y) (i := i) hiy .undef
          simp only [go_sem, ↓reduceIte, h0, h1, h5, h6, h18, h19, h20, hb, hlt', hiy', hgx, hgy, encW]
        case' neg =>
          have hiy' := dec_false (show ¬ ((i : Nat) : Int) < (y.length : Nat) by omega)
          have hgy : (0 : Int) = ((y.getD i 0 : Nat) : Int) := by rw [getD_le (by omega)]; rfl
          simp only [go_sem, ↓reduceIte, h0, h1, h5, h6, h18, h19, h20, hb, hlt', hiy', hgx, encW]
          have hadd := c_ladd _ _ _ hxi hyi (show c < 4294967296 by omega)
          rw [← hgy] at hadd
        all_goals
          refine callS_p hadd ?_
          simp only [go_sem, ↓reduceIte, h0, h1, h5, h6, h18, h19, h20, hb, hio, hile, hil', wv_length, wv_lay hil]
          refine next (m - 1) _ (by omega) ⟨i + 1, o.set i ((x.getD i 0 + (y.getD i 0 + c)) % 4294967296), (x.getD i 0 + (y.getD i 0 + c)) / 4294967296, by omega, by simp only [go_sem, ↓reduceIte, h0], by simp only [go_sem, ↓reduceIte, h1], by simp only [go_sem, ↓reduceIte, h5], by simp only [go_sem, ↓reduceIte], by simp only [go_sem, ↓reduceIte, h18], by simp only [go_sem, ↓reduceIte, h19], by simp only [go_sem, ↓reduceIte]; rw [wrap64_id (by omega) (by omega)]; rfl, by simp only [go_sem, ↓reduceIte], by simp only [go_sem, ↓reduceIte] <;> omega, by simp [hlo], ho.set i (by show _ < 4294967296; omega), by omega, ?_⟩
          rw [val_take_set hil, val_take_succ, val_take_succ, Nat.pow_succ]
          have hm := Nat.mod_add_div (x.getD i 0 + (y.getD i 0 + c)) 4294967296
          have hm2 := congrArg (B ^ i * ·) hm
          simp only [Nat.mul_add, B_eq] at hm2 hv ⊢
          rw [Nat.mul_assoc]
          omega
      · have hlt' := dec_false (show ¬ ((i : Nat) : Int) < (x.length : Nat) by omega)
        have hie : i = x.length := by omega
        subst hie
        have hlx : ((x.length : Nat) : Int) < ((x.length + 1 : Nat) : Int) := by omega
        have hil : x.length < o.length := by omega
        have hil' : x.length + 1 ≤ o.length := hil
        have hile : x.length ≤ o.length := by omega
        simp only [go_sem, ↓reduceIte, h0, h1, h5, h6, h18, h19, h20, hb, hlt', encW, hlx, hil', hile, wv_length, wv_lay hil]
        have hlo2 : (o.set x.length c).length = x.length + 1 := by simp [hlo]
        have hw2 : Wd (o.set x.length c) := ho.set _ (by show c < 4294967296; omega)
        refine callS_q (c_trim (o.set x.length c) (by omega)) (args_words (by simp only [go_sem, ↓reduceIte]) (by omega)) rfl ?_
        rw [encW_dig hw2]
        have hvv : val (o.set x.length c) = val x + val y := by
          have := val_take_set (v := c) hil
          rw [List.take_of_length_le (by omega)] at this
          rw [this, hv, List.take_of_length_le (by omega), List.take_of_length_le (by omega)]
        rw [hvv]
        simp only [go_sem, ↓reduceIte]
        exact .mk (by simp only [go_sem, ↓reduceIte, encW])

end Go.Proofs.YtopmghclhgihfaaGreatDoor

set_option linter.unusedVariables false
set_option linter.unusedSimpArgs false
set_option maxRecDepth 10000
namespace Go.Proofs.YtopmghclhgihfaaGreatDoor
open Go Go.Ab Go.Num

def sumV (l : List (List Nat)) : Nat := l.foldl (fun s a => s + val a) 0
theorem sumV_snoc (l : List (List Nat)) (a : List Nat) : sumV (l ++ [a]) = sumV l + val a := by simp [sumV]

theorem elt_w : Elt 1 encW := ⟨by omega, fun c => ⟨[encW c], rfl, rfl, rfl, rfl⟩⟩

set_option maxHeartbeats 1000000 in
theorem c_nadd (l : List (List Nat)) (hw : ∀ a ∈ l, Wd a ∧ a.length < 90000) (hl : l.length < 1000) : PCalls Tryz.prog 96 [.sl 1 (l.map encW)] (encW (dig (sumV l))) := by
  refine pcalls_of_AW (pa := []) (fn := Tryz.f96) (ts := [2]) follows_mixed Tryz.func96 rfl rfl (by kernel_rfl) (by kernel_rfl) (by rw [Tryz.ntmps96]; simp) ?_
  simp only [go_sem, ↓reduceIte]
  have hlen : ∀ i, i ≤ l.length → (dig (sumV (l.take i))).length ≤ 90000 + i := by
    intro i
    induction i with
    | zero => intro _; simp [sumV, dig_zero]
    | succ i ih =>
      intro hi
      have h1 := ih (by omega)
      rw [take_snoc (by omega), sumV_snoc]
      have h2 := hw l[i] (List.getElem_mem _)
      have h3 := dig_len_val h2.1
      have := dig_add_len (sumV (l.take i)) (val l[i])
      omega
  refine AW_while (fun m st => ∃ i u, i + m = l.length ∧ st.τ 6 = .sl 1 (l.map encW) ∧ st.τ 7 = .int .i64 l.length ∧ st.τ 8 = .int .i64 (i : Nat) ∧ st.τ 3 = u ∧ u.le (encW (dig (sumV (l.take i)))) ∧ (u = .nilsl ∨ ∃ w, u = encW w)) l.length ?_ ?_
  · exact ⟨0, .nilsl, by omega, by simp only [go_sem, ↓reduceIte], by simp only [go_sem, ↓reduceIte], by simp only [go_sem, ↓reduceIte] <;> rfl, by simp only [go_sem, ↓reduceIte], by rw [List.take_zero, show sumV [] = 0 from rfl, dig_zero]; exact AV.le_nil 1, .inl rfl⟩
  · rintro m st ⟨i, u, hi, h6, h7, h8, h3, hu, hu2⟩ next
    by_cases hlt : i < l.length
    · have hlt' : ((i : Nat) : Int) < (l.length : Nat) := by omega
      obtain ⟨hwi, hli⟩ := hw l[i] (List.getElem_mem _)
      have hp := c_plus (dig (sumV (l.take i))) (dig (val l[i])) (wd_dig _) (wd_dig _) (by have := hlen i (by omega); omega) (by have := dig_len_val hwi; omega)
      rw [val_dig, val_dig, ← sumV_snoc, ← take_snoc hlt] at hp
      simp only [go_sem, ↓reduceIte, h6, h7, h8, h3, hlt', getD_map_lt _ _ _ _ hlt, encW]
      refine callS_p (c_trim l[i] (by omega)) ?_
      rw [encW_dig hwi]
      rcases hu2 with rfl | ⟨w, rfl⟩
      case' inl => simp only [go_sem, ↓reduceIte, h6, h7, h8, h3, encW]
      case' inr => simp only [go_sem, ↓reduceIte, h6, h7, h8, h3, encW]
      all_goals
        refine callS_p (hp.args_le (.cons hu (.cons (AV.le_refl _) .nil))) ?_
        simp only [go_sem, ↓reduceIte, h6, h7, h8, h3, encW]
        exact next (m - 1) _ (by omega) ⟨i + 1, _, by omega, by simp only [go_sem, ↓reduceIte, h6], by simp only [go_sem, ↓reduceIte, h7], by simp only [go_sem, ↓reduceIte]; rw [wrap64_id (by omega) (by omega)]; rfl, by simp only [go_sem, ↓reduceIte] <;> rfl, AV.le_refl _, .inr ⟨_, rfl⟩⟩
    · have hlt' := dec_false (show ¬ ((i : Nat) : Int) < (l.length : Nat) by omega)
      rw [List.take_of_length_le (by omega)] at hu
      simp only [go_sem, ↓reduceIte, h6, h7, h8, h3, hlt']
      rcases hu2 with rfl | ⟨w, rfl⟩
      · exact .mk_le (u := .nilsl) (by simp only [go_sem, ↓reduceIte, h3]) hu
      · exact .mk_le (u := encW w) (by simp only [go_sem, ↓reduceIte, h3, encW]) hu

set_option maxHeartbeats 1000000 in
theorem c_nsub (a b : List Nat) (ha : Wd a) (hb : Wd b) (hla : a.length < 100000) (hlb : b.length < 100000) (hle : val b ≤ val a) : PCalls Tryz.prog 120 [encW a, encW b] (.tup [encW (dig (val a - val b)), .bool true]) := by
  refine pcalls_of_AW (pa := []) (fn := Tryz.f120) (ts := [4, 5]) follows_mixed Tryz.func120 rfl rfl (by kernel_rfl) (by kernel_rfl) (by rw [Tryz.ntmps120]; simp) ?_
  simp only [go_sem, ↓reduceIte]
  refine callS_p (c_trim a (by omega)) ?_
  simp only [go_sem, ↓reduceIte]
  refine callS_p (c_trim b (by omega)) ?_
  rw [encW_dig ha, encW_dig hb]
  simp only [go_sem, ↓reduceIte, encW]
  have hx := wd_dig (val a)
  have hy := wd_dig (val b)
  have hlx := dig_len_val ha
  have hly := dig_len_val hb
  have hxy := dig_len_mono hle
  have ex : val (dig (val b)) ≤ val (dig (val a)) := by rw [val_dig, val_dig]; exact hle
  rw [show val a - val b = val (dig (val a)) - val (dig (val b)) by rw [val_dig, val_dig]]
  clear hle
  generalize hX : dig (val a) = x at *
  generalize hY : dig (val b) = y at *
  clear hX hY
  have hle := ex
  refine callS_p (c_ncmp x y hx hy (by omega) (by omega)) ?_
  have hcmp := dec_false (show ¬ cmpN (val x) (val y) < 0 by unfold cmpN; rw [if_neg (by omega)]; split <;> omega)
  simp only [go_sem, ↓reduceIte, hcmp, encW]
  have hf := c_fresh x 0
  simp only [List.replicate_zero, List.append_nil] at hf
  refine callS_h (hf _ _ (by omega)) ?_
  rintro v h' n' hn ⟨b, rfl, hb1, hb2, hb, hkeep⟩
  simp only [go_sem, ↓reduceIte, encW]
  refine AW_while (fun m st => ∃ i o c, i + m = x.length ∧ st.τ 0 = encW x ∧ st.τ 1 = encW y ∧ st.τ 6 = .own b 0 x.length 1 ∧ st.τ 7 = .int .u32 (c : Nat) ∧ st.τ 20 = encW x ∧ st.τ 21 = .int .i64 x.length ∧ st.τ 22 = .int .i64 (i : Nat) ∧
    st.h b = some (wv o) ∧ b < st.n ∧ o.length = x.length ∧ Wd o ∧ c ≤ 1 ∧ val (o.take i) + val (y.take i) = val (x.take i) + B ^ i * c) x.length ?_ ?_
  · exact ⟨0, x, 0, by omega, by simp only [go_sem, ↓reduceIte, encW], by simp only [go_sem, ↓reduceIte, encW], by simp only [go_sem, ↓reduceIte], by simp only [go_sem, ↓reduceIte] <;> rfl, by simp only [go_sem, ↓reduceIte, encW], by simp only [go_sem, ↓reduceIte], by simp only [go_sem, ↓reduceIte] <;> rfl, by simp only [go_sem, ↓reduceIte, hb], by simp only [go_sem, ↓reduceIte] <;> omega, rfl, hx, by omega, by simp [val]⟩
  · clear hb hkeep hn hb1 hb2 hf
    rintro m st ⟨i, o, c, hi, h0, h1, h5, h6, h18, h19, h20, hb, hbn, hlo, ho, hc, hv⟩ next
    by_cases hlt : i < x.length
    · have hlt' : ((i : Nat) : Int) < (x.length : Nat) := by omega
      have hxi := hx.getD i
      have hyi := hy.getD i
      rw [B_eq] at hxi hyi
      have hgx := getD_w (a := x) (i := i) hlt .undef
      have hil : i < o.length := by omega
      have hil' : i + 1 ≤ o.length := hil
      have hile : i ≤ o.length := by omega
      by_cases hiy : i < y.length
      case' pos =>
        have hadd := c_lsub _ _ _ hxi hyi (show c < 4294967296 by omega)
        have hiy' : ((i : Nat) : Int) < (y.length : Nat) := by omega
        have hgy := getD_w (a := y) (i := i) hiy .undef
        simp only [go_sem, ↓reduceIte, h0, h1, h5, h6, h18, h19, h20, hb, hlt', hiy', hgx, hgy, encW]
      case' neg =>
        have hiy' := dec_false (show ¬ ((i : Nat) : Int) < (y.length : Nat) by omega)
        have hgy : (0 : Int) = ((y.getD i 0 : Nat) : Int) := by rw [getD_le (by omega)]; rfl
        simp only [go_sem, ↓reduceIte, h0, h1, h5, h6, h18, h19, h20, hb, hlt', hiy', hgx, encW]
        have hadd := c_lsub _ _ _ hxi hyi (show c < 4294967296 by omega)
        rw [← hgy] at hadd
      all_goals
        refine callS_p hadd ?_
        simp only [go_sem, ↓reduceIte, h0, h1, h5, h6, h18, h19, h20, hb, hlt', hile, hil', wv_length, wv_lay hil]
        obtain ⟨hm, hsw⟩ := subW_eq hxi hyi (show c < 4294967296 by omega)
        refine next (m - 1) _ (by omega) ⟨i + 1, o.set i (subW (x.getD i 0) (y.getD i 0) c), subO (x.getD i 0) (y.getD i 0) c, by omega, by simp only [go_sem, ↓reduceIte, h0], by simp only [go_sem, ↓reduceIte, h1], by simp only [go_sem, ↓reduceIte, h5], by simp only [go_sem, ↓reduceIte], by simp only [go_sem, ↓reduceIte, h18], by simp only [go_sem, ↓reduceIte, h19], by simp only [go_sem, ↓reduceIte]; rw [wrap64_id (by omega) (by omega)]; rfl, by simp only [go_sem, ↓reduceIte], by simp only [go_sem, ↓reduceIte] <;> omega, by simp [hlo], ho.set i hsw, subO_le1 hxi hyi hc, ?_⟩
        rw [val_take_set hil, val_take_succ, val_take_succ, Nat.pow_succ]
        have hm2 := congrArg (B ^ i * ·) hm
        simp only [Nat.mul_add, B_eq] at hm2 hv ⊢
        rw [Nat.mul_assoc]
        omega
    · have hlt' := dec_false (show ¬ ((i : Nat) : Int) < (x.length : Nat) by omega)
      have hie : i = x.length := by omega
      subst hie
      simp only [go_sem, ↓reduceIte, h0, h1, h5, h6, h18, h19, h20, hb, hlt']
      refine callS_q (c_trim o (by omega)) (args_words hb (by omega)) rfl ?_
      rw [encW_dig ho]
      rw [List.take_of_length_le (by omega), List.take_of_length_le (by omega), List.take_of_length_le (by omega)] at hv
      have hc0 : c = 0 := by
        rcases Nat.eq_zero_or_pos c with h | h
        · exact h
        · have h1 := val_lt ho
          rw [hlo] at h1
          have : c = 1 := by omega
          subst this
          rw [Nat.mul_one] at hv
          omega
      have hvv : val o = val x - val y := by rw [hc0, Nat.mul_zero] at hv; omega
      rw [hvv]
      simp only [go_sem, ↓reduceIte]
      exact .mk (by simp only [go_sem, ↓reduceIte, encW])

/-- How far two numbers are apart. -/
def gapN (x y : Nat) : Nat := (x - y) + (y - x)
theorem gapN_of_le {x y : Nat} (h : y ≤ x) : gapN x y = x - y := by unfold gapN; omega
theorem gapN_of_lt {x y : Nat} (h : x < y) : gapN x y = y - x := by unfold gapN; omega
theorem cmpN_neg {x y : Nat} : cmpN x y < 0 ↔ x < y := by unfold cmpN; split <;> (try split) <;> omega

theorem c_ngap (a b : List Nat) (ha : Wd a) (hb : Wd b) (hla : a.length < 100000) (hlb : b.length < 100000) : PCalls Tryz.prog 97 [encW a, encW b] (.tup [encW (dig (gapN (val a) (val b))), .int .i64 (cmpN (val a) (val b))]) := by
  refine pcalls_of_AW (pa := []) (fn := Tryz.f97) (ts := [4, 5]) follows_mixed Tryz.func97 rfl rfl (by kernel_rfl) (by kernel_rfl) (by rw [Tryz.ntmps97]; simp) ?_
  simp only [go_sem, ↓reduceIte]
  refine callS_p (c_ncmp a b ha hb (by omega) (by omega)) ?_
  by_cases h : val a < val b
  · have hd := dec_true (cmpN_neg.2 h)
    simp only [go_sem, ↓reduceIte, hd]
    refine callS_p (c_nsub b a hb ha hlb hla (by omega)) ?_
    rw [← gapN_of_lt h]
    simp only [go_sem, ↓reduceIte]
    exact .mk (by simp only [go_sem, ↓reduceIte, encW])
  · have hd := dec_false (fun h' => h (cmpN_neg.1 h'))
    simp only [go_sem, ↓reduceIte, hd]
    refine callS_p (c_nsub a b ha hb hla hlb (by omega)) ?_
    rw [← gapN_of_le (by omega)]
    simp only [go_sem, ↓reduceIte]
    exact .mk (by simp only [go_sem, ↓reduceIte, encW])

end Go.Proofs.YtopmghclhgihfaaGreatDoor

set_option linter.unusedVariables false
set_option linter.unusedSimpArgs false
set_option maxRecDepth 10000
namespace Go.Proofs.YtopmghclhgihfaaGreatDoor
open Go Go.Ab Go.Num

theorem shl_nat (x k : Nat) : ((x : Nat) : Int) * 2 ^ k = ((x * 2 ^ k : Nat) : Int) := by simp
theorem ta (k : Nat) : (((k : Nat) : Int)).tdiv 32 = ((k / 32 : Nat) : Int) := tdiv_nat k 32
theorem tb (k : Nat) : (((k : Nat) : Int)).tmod 32 = ((k % 32 : Nat) : Int) := tmod_nat k 32
theorem min64 {k : Nat} (h : k ≤ 64) : min k 64 = k := Nat.min_eq_left h
theorem or32' {x y : Nat} (hx : x < 4294967296) (hy : y < 4294967296) : (BitVec.ofInt 32 (x : Int) ||| BitVec.ofInt 32 (y : Int)).toNat = (x ||| y) := by
  rw [BitVec.ofInt_natCast, BitVec.ofInt_natCast]
  simp only [BitVec.toNat_or, BitVec.toNat_ofNat]
  rw [show (2 : Nat) ^ 32 = 4294967296 from rfl, Nat.mod_eq_of_lt hx, Nat.mod_eq_of_lt hy]
theorem or_u32 {x y : Nat} (hx : x < 4294967296) (hy : y < 4294967296) : orI .u32 (x : Int) (y : Int) = ((x ||| y : Nat) : Int) := by
  show IntKind.u32.wrap ((BitVec.ofInt 32 (x : Int) ||| BitVec.ofInt 32 (y : Int)).toNat : Int) = _
  rw [or32' hx hy, wu32, Nat.mod_eq_of_lt (Nat.or_lt_two_pow (n := 32) hx hy)]

/-- The highest word tells how many bits there are. -/
theorem blen_top {a : List Nat} (ha : Nrm a) (hne : a ≠ []) : blen (val a) = 32 * (a.length - 1) + blen (a.getD (a.length - 1) 0) := by
  have hl : 0 < a.length := List.length_pos_iff.2 hne
  have h1 := val_take_succ a (a.length - 1)
  rw [show a.length - 1 + 1 = a.length by omega, List.take_length] at h1
  have h2 := val_take_lt ha.1 (a.length - 1)
  rw [Bpow] at h1 h2
  have h3 := blen_shift (ha.2 hne) (32 * (a.length - 1)) _ h2
  rw [h1, Nat.add_comm, Nat.mul_comm, h3]; omega

theorem c_tlen (a : List Nat) (ha : Wd a) (hl : a.length < 1000000) : PCalls Tryz.prog 102 [encW a] (.int .i64 (blen (val a) : Nat)) := by
  refine pcalls_of_AW (pa := []) (fn := Tryz.f102) (ts := [2]) follows_mixed Tryz.func102 rfl rfl (by kernel_rfl) (by kernel_rfl) (by rw [Tryz.ntmps102]; simp) ?_
  simp only [go_sem, ↓reduceIte]
  refine callS_p (c_norm a ha hl) ?_
  have hlx := dig_len_val ha
  have nx := nrm_dig (val a)
  rw [← val_dig (val a)]
  rw [val_dig (val a)]
  generalize hX : dig (val a) = x at *
  have hv : val a = val x := by rw [← hX, val_dig]
  rw [hv]
  clear hX hv
  simp only [go_sem, ↓reduceIte, encW, beq_int]
  by_cases h : x.length = 0
  · have h' := dec_true (show ((x.length : Nat) : Int) = 0 by omega)
    have : x = [] := List.length_eq_zero_iff.1 h
    subst this
    simp only [go_sem, ↓reduceIte, cast0]
    exact .mk (by simp only [go_sem, ↓reduceIte] <;> rfl)
  · have h' := dec_false (show ¬ ((x.length : Nat) : Int) = 0 by omega)
    have w1 : IntKind.i64.wrap ((x.length : Int) - 1) = ((x.length - 1 : Nat) : Int) := by rw [wrap64_id (by omega) (by omega)]; omega
    have w2 : IntKind.i64.wrap (32 * ((x.length - 1 : Nat) : Int)) = ((32 * (x.length - 1) : Nat) : Int) := by rw [wrap64_id (by omega) (by omega)]; omega
    have hlt : ((x.length - 1 : Nat) : Int) < (x.length : Nat) := by omega
    have hg := getD_w (a := x) (i := x.length - 1) (by omega) .undef
    have hxi := nx.1.getD (x.length - 1)
    rw [B_eq] at hxi
    simp only [go_sem, ↓reduceIte, encW, h', w1, w2, hlt, hg]
    refine callS_p (c_llen _ hxi) ?_
    have hbt := blen_top nx (fun e => h (by rw [e]; rfl))
    have hb32 : blen (x.getD (x.length - 1) 0) ≤ 32 := blen_le.2 hxi
    have w3 : IntKind.i64.wrap (((32 * (x.length - 1) : Nat) : Int) + (blen (x.getD (x.length - 1) 0) : Nat)) = (blen (val x) : Nat) := by rw [wrap64_id (by omega) (by omega), hbt]; rfl
    simp only [go_sem, ↓reduceIte, w3]
    exact .mk (by simp only [go_sem, ↓reduceIte])

theorem pow_mod_mul (x k : Nat) (hk : k ≤ 32) : ∃ q, x * 2 ^ k % 4294967296 = q * 2 ^ k := by
  refine ⟨x % 2 ^ (32 - k), ?_⟩
  have e : 4294967296 = 2 ^ (32 - k) * 2 ^ k := by rw [← Nat.pow_add, show 32 - k + k = 32 by omega]
  rw [e, Nat.mul_mod_mul_right]

set_option maxHeartbeats 2000000 in
theorem c_up_h (a : List Nat) (n : Nat) (h : Heap) (k0 : Nat) (ha : Wd a) (hl : a.length < 900000) (hn : n ≤ 4096) : HCalls Tryz.prog 139 [encW a, .int .i64 (n : Nat)] h k0 (NewW h k0 (dig (val a * 2 ^ n))) := by
  refine hcalls_of_AWR (pa := []) (fn := Tryz.f139) (rs := [.tmp 4]) follows_mixed Tryz.func139 rfl rfl (by kernel_rfl) (by kernel_rfl) (by rw [Tryz.ntmps139]; simp) ?_
  have hmax : (if (n : Int) < 0 then (0 : Int) else (n : Int)) = n := if_neg (by omega)
  have hmin : (if (4096 : Int) < (n : Int) then (4096 : Int) else (n : Int)) = n := if_neg (by omega)
  obtain ⟨W, hW⟩ : ∃ W, W = n / 32 := ⟨_, rfl⟩
  obtain ⟨K, hK⟩ : ∃ K, K = n % 32 := ⟨_, rfl⟩
  have hKl : K < 32 := by omega
  have hnWK : n = 32 * W + K := by omega
  have w0 : IntKind.i64.wrap (W : Int) = (W : Int) := wrap64_id (by omega) (by omega)
  have w1 : IntKind.i64.wrap ((W : Int) + (a.length : Nat)) = ((W + a.length : Nat) : Int) := by rw [wrap64_id (by omega) (by omega)]; rfl
  have w2 : IntKind.i64.wrap (((W + a.length : Nat) : Int) + 1) = ((W + (a.length + 1) : Nat) : Int) := by rw [wrap64_id (by omega) (by omega)]; omega
  have hle : ((W + (a.length + 1) : Nat) : Int) ≤ 1099511627776 := by omega
  have hK0 : ((K : Int) < 0) = False := eq_false (by omega)
  have hKm : min K 64 = K := Nat.min_eq_left (by omega)
  simp only [go_sem, ↓reduceIte, encW, hmax, hmin, ta, tb, ← hW, ← hK, w0, w1, w2, hle, wv_rep]
  refine AW_while (fun m st => ∃ i o, i + m = a.length ∧ st.τ 5 = .int .i64 (W : Nat) ∧ st.τ 6 = .int .i64 (K : Nat) ∧ st.τ 7 = .own (k0 + 16) 0 (W + (a.length + 1)) 1 ∧ k0 + 17 ≤ st.n ∧ (∀ j, j < k0 → st.h j = h j) ∧ st.τ 24 = encW a ∧ st.τ 25 = .int .i64 a.length ∧ st.τ 26 = .int .i64 (i : Nat) ∧
    st.h (k0 + 16) = some (wv o) ∧ o.length = W + (a.length + 1) ∧ Wd o ∧ val o = B ^ W * (val (a.take i) * 2 ^ K) ∧ (∀ k, W + i < k → o.getD k 0 = 0) ∧ o.getD (W + i) 0 < 2 ^ K) a.length ?_ ?_
  · exact ⟨0, List.replicate (W + (a.length + 1)) 0, by omega, by simp only [go_sem, ↓reduceIte], by simp only [go_sem, ↓reduceIte], by simp only [go_sem, ↓reduceIte], by simp only [go_sem, ↓reduceIte] <;> omega, fun j hj => by simp only [go_sem, ↓reduceIte, upd1_old _ _ _ _ _ hj], by simp only [go_sem, ↓reduceIte, encW], by simp only [go_sem, ↓reduceIte], by simp only [go_sem, ↓reduceIte] <;> rfl, by simp only [go_sem, ↓reduceIte], by simp, .replicate _ (by decide), by simp [val, val_replicate], fun k _ => rep0 _ k, by rw [rep0]; exact Nat.pow_pos (by omega)⟩
  · rintro m st ⟨i, o, hi, h5, h6, h7, hn0, hfr, h24, h25, h26, hb, hlo, ho, hv, hz, hlow⟩ next
    by_cases hlt : i < a.length
    · have hlt' : ((i : Nat) : Int) < (a.length : Nat) := by omega
      have hxi := ha.getD i
      rw [B_eq] at hxi
      have hgx := getD_w (a := a) (i := i) hlt .undef
      have w3 : IntKind.i64.wrap ((W : Int) + (i : Int)) = ((W + i : Nat) : Int) := by rw [wrap64_id (by omega) (by omega)]; rfl
      have w4 : IntKind.i64.wrap (((W + i : Nat) : Int) + 1) = ((W + (i + 1) : Nat) : Int) := by rw [wrap64_id (by omega) (by omega)]; omega
      have w5 : IntKind.i64.wrap ((i : Int) + 1) = ((i + 1 : Nat) : Int) := by rw [wrap64_id (by omega) (by omega)]; rfl
      have hWi : ((W + i : Nat) : Int) < ((W + (a.length + 1) : Nat) : Int) := by omega
      have hWi1 : ((W + (i + 1) : Nat) : Int) < ((W + (a.length + 1) : Nat) : Int) := by omega
      generalize hx : a.getD i 0 = x at *
      have hoi := ho.getD (W + i)
      rw [B_eq] at hoi
      have hpk : 2 ^ K ≤ 2 ^ 31 := Nat.pow_le_pow_right (by omega) (by omega)
      have hwide : x * 2 ^ K < 18446744073709551616 := by
        have : x * 2 ^ K ≤ 4294967295 * 2 ^ 31 := Nat.mul_le_mul (by omega) hpk
        omega
      have hxm : x % 18446744073709551616 = x := Nat.mod_eq_of_lt (by omega)
      have hwm : x * 2 ^ K % 18446744073709551616 = x * 2 ^ K := Nat.mod_eq_of_lt hwide
      have hhi : x * 2 ^ K / 4294967296 < 2 ^ K := by
        rw [Nat.div_lt_iff_lt_mul (by omega), Nat.mul_comm (2 ^ K)]
        exact Nat.mul_lt_mul_of_pos_right (by omega) (Nat.pow_pos (by omega))
      have hhm : x * 2 ^ K / 4294967296 % 4294967296 = x * 2 ^ K / 4294967296 := Nat.mod_eq_of_lt (by omega)
      have hil : W + i < o.length := by omega
      have hil' : W + (i + 1) ≤ o.length := by omega
      have hile : W + i ≤ o.length := by omega
      have hil1 : W + (i + 1) < o.length := by omega
      have hil2 : W + (i + (1 + 1)) ≤ o.length := by omega
      have hor : (o.getD (W + i) 0 ||| x * 2 ^ K % 4294967296) = o.getD (W + i) 0 + x * 2 ^ K % 4294967296 := by
        obtain ⟨q, hq⟩ := pow_mod_mul x K (by omega)
        rw [hq, Nat.or_comm, or_hi q K hlow, Nat.add_comm]
      have hsum : o.getD (W + i) 0 + x * 2 ^ K % 4294967296 < 4294967296 := by
        rw [← hor]; exact Nat.or_lt_two_pow (n := 32) hoi (Nat.mod_lt _ (by omega))
      have hlay1 := wv_lay (v := o.getD (W + i) 0 + x * 2 ^ K % 4294967296) hil
      have hlay2 := wv_lay (a := o.set (W + i) (o.getD (W + i) 0 + x * 2 ^ K % 4294967296)) (i := W + (i + 1)) (v := x * 2 ^ K / 4294967296) (by simpa using hil1)
      simp only [Nat.add_assoc] at hlay1 hlay2
      simp only [go_sem, ↓reduceIte, h5, h6, h7, h24, h25, h26, hb, hlt', hgx, encW, wu64, hxm, hK0, hKm, shl_nat, hwm, w3, hWi, hile, wv_head hil, wu32, or_u32 hoi (show x * 2 ^ K % 4294967296 < 4294967296 by omega), hor, wv_length, hil', hlay1, List.length_set, w4, hWi1, hil2, toNat32, min32_64, shr32, hhm, hlay2]
      refine next (m - 1) _ (by omega) ⟨i + 1, (o.set (W + i) (o.getD (W + i) 0 + x * 2 ^ K % 4294967296)).set (W + (i + 1)) (x * 2 ^ K / 4294967296), by omega, by simp only [go_sem, ↓reduceIte, h5], by simp only [go_sem, ↓reduceIte, h6], by simp only [go_sem, ↓reduceIte, h7], by simp only [go_sem, ↓reduceIte] <;> omega, (fun j hj => by simp only [go_sem, ↓reduceIte, upd1_old _ _ _ _ _ hj, hfr j hj]), by simp only [go_sem, ↓reduceIte, h24], by simp only [go_sem, ↓reduceIte, h25], by simp only [go_sem, ↓reduceIte, w5], by simp only [go_sem, ↓reduceIte], by simp [hlo], (ho.set _ hsum).set _ (by show _ < 4294967296; omega), ?_, ?_, ?_⟩
      · have e1 := val_set o (v := o.getD (W + i) 0 + x * 2 ^ K % 4294967296) hil
        have e2 := val_set (o.set (W + i) (o.getD (W + i) 0 + x * 2 ^ K % 4294967296)) (i := W + (i + 1)) (v := x * 2 ^ K / 4294967296) (by simpa using hil1)
        have e3 : (o.set (W + i) (o.getD (W + i) 0 + x * 2 ^ K % 4294967296))[W + (i + 1)]'(by simpa using hil1) = 0 := by
          rw [List.getElem_set_ne (by omega)]
          have := hz (W + (i + 1)) (by omega)
          rw [getD_of_lt hil1] at this; exact this
        rw [e3, Nat.mul_zero, Nat.add_zero] at e2
        rw [← getD_of_lt hil, Nat.mul_add] at e1
        rw [e2, val_take_succ, hx]
        have e4 : val (o.set (W + i) (o.getD (W + i) 0 + x * 2 ^ K % 4294967296)) = val o + B ^ (W + i) * (x * 2 ^ K % 4294967296) := by omega
        rw [e4, hv, show W + (i + 1) = W + i + 1 from rfl, Nat.pow_succ, Nat.mul_assoc (B ^ (W + i)), Nat.add_assoc, ← Nat.mul_add, B_eq, Nat.mod_add_div, ← B_eq, Nat.pow_add, Nat.mul_assoc, ← Nat.mul_add, Nat.add_mul]
        rw [Nat.mul_assoc (B ^ i)]
      · intro k hk
        have := hz k (by omega)
        simp only [List.getD] at this ⊢
        rw [List.getElem?_set_ne (by omega), List.getElem?_set_ne (by omega)]; exact this
      · simp only [List.getD]
        rw [List.getElem?_set_self (by simpa using hil1)]; exact hhi
    · have hlt' := dec_false (show ¬ ((i : Nat) : Int) < (a.length : Nat) by omega)
      simp only [go_sem, ↓reduceIte, h5, h6, h7, h24, h25, h26, hb, hlt']
      rw [← hlo]
      refine callS_h (c_norm_own o (k0 + 16) _ _ ho (by omega) (by simp only [go_sem, ↓reduceIte, hb]) (by simp only [go_sem, ↓reduceIte] <;> omega)) ?_
      rw [hv, List.take_of_length_le (by omega), show B ^ W * (val a * 2 ^ K) = val a * 2 ^ n by rw [hnWK, Bpow, Nat.pow_add, Nat.mul_left_comm]]
      rintro v h' n' hn' ⟨b', rfl, hb1, hb2, hb', hkeep⟩
      simp only at hn' hb1 hkeep
      simp only [go_sem, ↓reduceIte]
      exact .mk (.own b' 0 (dig (val a * 2 ^ n)).length 1) (by simp only [go_sem, ↓reduceIte]) ⟨b', rfl, by omega, by simp only [go_sem, ↓reduceIte] <;> omega, by simp only [go_sem, ↓reduceIte, hb'], fun j hj => by simp only [go_sem, ↓reduceIte]; rw [hkeep j (by omega) (by omega), hfr j hj]⟩
theorem c_up (a : List Nat) (n : Nat) (ha : Wd a) (hl : a.length < 900000) (hn : n ≤ 4096) : PCalls Tryz.prog 139 [encW a, .int .i64 (n : Nat)] (encW (dig (val a * 2 ^ n))) := .of_h (c_up_h a n _ _ ha hl hn) fun _ _ _ => NewW.frz

/-- The words of a number over a power of two. -/
theorem down_step (u w V K : Nat) (hK : K ≤ 32) (hu : u < 4294967296) : (u + 4294967296 * (w + 4294967296 * V)) / 2 ^ K = (u + w * 4294967296) / 2 ^ K % 4294967296 + 4294967296 * ((w + 4294967296 * V) / 2 ^ K) := by
  have e : (4294967296 : Nat) = 2 ^ (32 - K) * 2 ^ K := by rw [← Nat.pow_add, show 32 - K + K = 32 by omega]
  have hp : 0 < 2 ^ K := Nat.pow_pos (by omega)
  have e1 : (u + 4294967296 * (w + 4294967296 * V)) / 2 ^ K = (u + w * 4294967296) / 2 ^ K + 4294967296 * (2 ^ (32 - K) * V) := by
    have : u + 4294967296 * (w + 4294967296 * V) = (u + w * 4294967296) + 2 ^ K * (4294967296 * (2 ^ (32 - K) * V)) := by
      have : 2 ^ K * (4294967296 * (2 ^ (32 - K) * V)) = 4294967296 * ((2 ^ (32 - K) * 2 ^ K) * V) := by
        rw [Nat.mul_left_comm, ← Nat.mul_assoc (2 ^ K), Nat.mul_comm (2 ^ K)]
      rw [this, ← e]; omega
    rw [this, Nat.add_mul_div_left _ _ hp]
  have e2 : (w + 4294967296 * V) / 2 ^ K = w / 2 ^ K + 2 ^ (32 - K) * V := by
    have : w + 4294967296 * V = w + 2 ^ K * (2 ^ (32 - K) * V) := by
      rw [← Nat.mul_assoc, Nat.mul_comm (2 ^ K), ← e]
    rw [this, Nat.add_mul_div_left _ _ hp]
  have e3 : (u + w * 4294967296) / 2 ^ K / 4294967296 = w / 2 ^ K := by
    rw [Nat.div_div_eq_div_mul, Nat.mul_comm (2 ^ K), ← Nat.div_div_eq_div_mul]; congr 1; omega
  rw [e1, e2, Nat.mul_add]
  have := Nat.mod_add_div ((u + w * 4294967296) / 2 ^ K) 4294967296
  rw [e3] at this
  omega

set_option maxHeartbeats 2000000 in
theorem c_down (a : List Nat) (n : Nat) (ha : Wd a) (hl : a.length < 900000) (hn : n ≤ 1000000) : PCalls Tryz.prog 141 [encW a, .int .i64 (n : Nat)] (encW (dig (val a / 2 ^ n))) := by
  refine pcalls_of_AW (pa := []) (fn := Tryz.f141) (ts := [4]) follows_mixed Tryz.func141 rfl rfl (by kernel_rfl) (by kernel_rfl) (by rw [Tryz.ntmps141]; simp) ?_
  have hmax : (if (n : Int) < 0 then (0 : Int) else (n : Int)) = n := if_neg (by omega)
  obtain ⟨W, hW⟩ : ∃ W, W = n / 32 := ⟨_, rfl⟩
  obtain ⟨K, hK⟩ : ∃ K, K = n % 32 := ⟨_, rfl⟩
  have hKl : K < 32 := by omega
  have hnWK : n = 32 * W + K := by omega
  have w0 : IntKind.i64.wrap (W : Int) = (W : Int) := wrap64_id (by omega) (by omega)
  have hdiv : val a / 2 ^ n = val (a.drop W) / 2 ^ K := by rw [hnWK, Nat.pow_add, ← Bpow, ← Nat.div_div_eq_div_mul, val_drop_div ha]
  rw [hdiv]
  by_cases hWa : a.length ≤ W
  · have hd := dec_true (show ((a.length : Nat) : Int) ≤ (W : Nat) by omega)
    simp only [go_sem, ↓reduceIte, encW, hmax, ta, tb, ← hW, ← hK, w0, hd]
    rw [List.drop_eq_nil_of_le hWa]
    exact .mk_le (u := .nilsl) (by simp only [go_sem, ↓reduceIte]) (by rw [val_nil, Nat.zero_div, dig_zero]; exact AV.le_nil 1)
  · have hd := dec_false (show ¬ ((a.length : Nat) : Int) ≤ (W : Nat) by omega)
    have w1 : IntKind.i64.wrap ((a.length : Int) - (W : Int)) = ((a.length - W : Nat) : Int) := by rw [wrap64_id (by omega) (by omega)]; omega
    have hle : ((a.length - W : Nat) : Int) ≤ 1099511627776 := by omega
    have hK0 : ((K : Int) < 0) = False := eq_false (by omega)
    have hKm : min K 64 = K := Nat.min_eq_left (by omega)
    simp only [go_sem, ↓reduceIte, encW, hmax, ta, tb, ← hW, ← hK, w0, hd, w1, hle, wv_rep]
    refine AW_while (fun m st => ∃ i o, i + m = a.length - W ∧ st.τ 0 = encW a ∧ st.τ 5 = .int .i64 (W : Nat) ∧ st.τ 6 = .int .i64 (K : Nat) ∧ (∃ b, st.τ 7 = .own b 0 (a.length - W) 1 ∧ st.h b = some (wv o)) ∧ st.τ 26 = .int .i64 (a.length - W : Nat) ∧ st.τ 27 = .int .i64 (i : Nat) ∧
      o.length = a.length - W ∧ Wd o ∧ val (o.take i) + B ^ i * (val (a.drop (W + i)) / 2 ^ K) = val (a.drop W) / 2 ^ K) (a.length - W) ?_ ?_
    · exact ⟨0, List.replicate (a.length - W) 0, by omega, by simp only [go_sem, ↓reduceIte, encW], by simp only [go_sem, ↓reduceIte], by simp only [go_sem, ↓reduceIte], ⟨_, by simp only [go_sem, ↓reduceIte] <;> rfl, by simp only [go_sem, ↓reduceIte]⟩, by simp only [go_sem, ↓reduceIte], by simp only [go_sem, ↓reduceIte] <;> rfl, by simp, .replicate _ (by decide), by simp [val]⟩
    · rintro m st ⟨i, o, hi, h0, h5, h6, ⟨b, h7, hb⟩, h26, h27, hlo, ho, hv⟩ next
      by_cases hlt : i < a.length - W
      · have hlt' : ((i : Nat) : Int) < (a.length - W : Nat) := by omega
        have hxi := ha.getD (W + i)
        have hyi := ha.getD (W + (i + 1))
        rw [B_eq] at hxi hyi
        have hgx := getD_w (a := a) (i := W + i) (by omega) .undef
        have w3 : IntKind.i64.wrap ((W : Int) + (i : Int)) = ((W + i : Nat) : Int) := by rw [wrap64_id (by omega) (by omega)]; rfl
        have w4 : IntKind.i64.wrap (((W + i : Nat) : Int) + 1) = ((W + (i + 1) : Nat) : Int) := by rw [wrap64_id (by omega) (by omega)]; omega
        have w5 : IntKind.i64.wrap ((i : Int) + 1) = ((i + 1 : Nat) : Int) := by rw [wrap64_id (by omega) (by omega)]; rfl
        have hWi : ((W + i : Nat) : Int) < ((a.length : Nat) : Int) := by omega
        have hstep := down_step (a.getD (W + i) 0) (a.getD (W + (i + 1)) 0) (val (a.drop (W + (i + 1) + 1))) K (by omega) hxi
        have hd1 := val_drop a (W + i)
        have hd2 := val_drop a (W + (i + 1))
        rw [show W + i + 1 = W + (i + 1) from rfl, hd2, B_eq] at hd1
        rw [B_eq] at hd2
        generalize hx : a.getD (W + i) 0 = x at *
        generalize hy : a.getD (W + (i + 1)) 0 = y at *
        have hxm : x % 18446744073709551616 = x := Nat.mod_eq_of_lt (by omega)
        have hym : y % 18446744073709551616 = y := Nat.mod_eq_of_lt (by omega)
        have hy2 : y * 4294967296 % 18446744073709551616 = y * 4294967296 := Nat.mod_eq_of_lt (by omega)
        have hor : (x ||| y * 4294967296) = x + y * 4294967296 := by rw [Nat.or_comm, or_hi y 32 hxi, Nat.add_comm]
        have hil : i < o.length := by omega
        have hil' : i + 1 ≤ o.length := hil
        have hile : i ≤ o.length := by omega
        have hlay := wv_lay (v := (x + y * 4294967296) / 2 ^ K % 4294967296) hil
        by_cases hy1 : W + (i + 1) < a.length
        case' pos =>
          have hy1' : ((W + (i + 1) : Nat) : Int) < (a.length : Nat) := by omega
          have hgy := getD_w (a := a) (i := W + (i + 1)) hy1 .undef
          rw [hy] at hgy
          simp only [go_sem, ↓reduceIte, h0, h5, h6, h7, h26, h27, hb, hlt', encW, w3, w4, hWi, hgx, wu64, hxm, hy1', hgy, hym, toNat32, min32_64, mul32, hy2, or_u64 (show x < 18446744073709551616 by omega) (show y * 4294967296 < 18446744073709551616 by omega), hor, hK0, hKm, shr_nat, wu32, wv_length, hil', hlay]
        case' neg =>
          have hy1' := dec_false (show ¬ ((W + (i + 1) : Nat) : Int) < (a.length : Nat) by omega)
          have hy0 : y = 0 := by rw [← hy]; exact getD_of_ge (by omega)
          subst hy0
          rw [Nat.zero_mul, Nat.add_zero] at hlay
          simp only [go_sem, ↓reduceIte, h0, h5, h6, h7, h26, h27, hb, hlt', encW, w3, w4, hWi, hgx, wu64, hxm, hy1', hK0, hKm, shr_nat, wu32, wv_length, hil', hlay]
        all_goals
          refine next (m - 1) _ (by omega) ⟨i + 1, o.set i _, by omega, by simp only [go_sem, ↓reduceIte, h0, encW], by simp only [go_sem, ↓reduceIte, h5], by simp only [go_sem, ↓reduceIte, h6], ⟨b, by simp only [go_sem, ↓reduceIte, h7], by simp only [go_sem, ↓reduceIte] <;> rfl⟩, by simp only [go_sem, ↓reduceIte, h26], by simp only [go_sem, ↓reduceIte, w5], by simp [hlo], ho.set _ (by show _ < 4294967296; exact Nat.mod_lt _ (by omega)), ?_⟩
          rw [val_take_set hil, hd2, ← hv, hd1, Nat.pow_succ, Nat.mul_assoc, B_eq, hstep, Nat.mul_add, Nat.add_assoc]
          try simp only [Nat.zero_mul, Nat.add_zero]
      · have hlt' := dec_false (show ¬ ((i : Nat) : Int) < (a.length - W : Nat) by omega)
        simp only [go_sem, ↓reduceIte, h0, h5, h6, h7, h26, h27, hb, hlt']
        refine callS_q (c_norm o ho (by omega)) (args_words hb (by omega)) rfl ?_
        rw [List.take_of_length_le (by omega), List.drop_eq_nil_of_le (by omega), val_nil, Nat.zero_div, Nat.mul_zero, Nat.add_zero] at hv
        rw [hv]
        simp only [go_sem, ↓reduceIte]
        exact .mk (by simp only [go_sem, ↓reduceIte, encW])

end Go.Proofs.YtopmghclhgihfaaGreatDoor

set_option linter.unusedVariables false
set_option linter.unusedSimpArgs false
set_option maxRecDepth 10000
namespace Go.Proofs.YtopmghclhgihfaaGreatDoor
open Go Go.Ab Go.Num

/-- What a call does that changes one list of words of the caller's. -/
def ChgW (h : Heap) (n b : Nat) (R : List Nat → Prop) (h' : Heap) : Prop := (∃ o, h' b = some (wv o) ∧ R o) ∧ ∀ j, j < n → j ≠ b → h' j = h j

/-- What 'row' makes of a list. -/
def RowR (o : List Nat) (at' : Nat) (a : List Nat) (x c : Nat) (o' : List Nat) : Prop :=
  o'.length = o.length ∧ Wd o' ∧ (∀ k, at' + a.length < k → o'.getD k 0 = o.getD k 0) ∧ val o' + B ^ (at' + a.length) * o.getD (at' + a.length) 0 = val o + B ^ at' * (x * val a + c)

set_option maxHeartbeats 2000000 in
theorem c_row (o : List Nat) (b at' : Nat) (a : List Nat) (x c : Nat) (h : Heap) (n : Nat) (hb : h b = some (wv o)) (hbn : b < n) (ho : Wd o) (ha : Wd a) (hx : x < 4294967296) (hc : c < 4294967296) (hl : at' + a.length < o.length) (hlo : o.length < 1000000) :
    HCalls Tryz.prog 98 [.own b 0 o.length 1, .int .i64 (at' : Nat), encW a, .int .u32 (x : Nat), .int .u32 (c : Nat)] h n (fun v h' n' => v = .tup [] ∧ ChgW h n b (RowR o at' a x c) h') := by
  refine hcalls_of_AWR (pa := []) (fn := Tryz.f98) (rs := []) follows_mixed Tryz.func98 rfl rfl (by kernel_rfl) (by kernel_rfl) (by rw [Tryz.ntmps98]; simp) ?_
  simp only [go_sem, ↓reduceIte, encW]
  refine AW_while (fun m st => ∃ i p d, i + m = a.length ∧ st.τ 0 = .own b 0 o.length 1 ∧ st.τ 1 = .int .i64 (at' : Nat) ∧ st.τ 2 = encW a ∧ st.τ 3 = .int .u32 (x : Nat) ∧ st.τ 4 = .int .u32 (d : Nat) ∧ st.τ 12 = encW a ∧ st.τ 13 = .int .i64 a.length ∧ st.τ 14 = .int .i64 (i : Nat) ∧
    n ≤ st.n ∧ st.h b = some (wv p) ∧ (∀ j, j < n → j ≠ b → st.h j = h j) ∧ p.length = o.length ∧ Wd p ∧ d < 4294967296 ∧ (∀ k, at' + i ≤ k → p.getD k 0 = o.getD k 0) ∧ val p + B ^ (at' + i) * d = val o + B ^ at' * (x * val (a.take i) + c)) a.length ?_ ?_
  · exact ⟨0, o, c, by omega, by simp only [go_sem, ↓reduceIte], by simp only [go_sem, ↓reduceIte], by simp only [go_sem, ↓reduceIte, encW], by simp only [go_sem, ↓reduceIte], by simp only [go_sem, ↓reduceIte], by simp only [go_sem, ↓reduceIte, encW], by simp only [go_sem, ↓reduceIte], by simp only [go_sem, ↓reduceIte] <;> rfl, by simp only [go_sem, ↓reduceIte] <;> omega, by simp only [go_sem, ↓reduceIte, hb], fun j _ _ => by simp only [go_sem, ↓reduceIte], rfl, ho, hc, fun k _ => rfl, by simp [val]⟩
  · rintro m st ⟨i, p, d, hi, h0, h1, h2, h3, h4, h12, h13, h14, hn, hpb, hfr, hlp, hp, hd, hsame, hv⟩ next
    by_cases hlt : i < a.length
    · have hlt' : ((i : Nat) : Int) < (a.length : Nat) := by omega
      have hxi := ha.getD i
      have hpi := hp.getD (at' + i)
      rw [B_eq] at hxi hpi
      have hgx := getD_w (a := a) (i := i) hlt .undef
      have w3 : IntKind.i64.wrap ((at' : Int) + (i : Int)) = ((at' + i : Nat) : Int) := by rw [wrap64_id (by omega) (by omega)]; rfl
      have w5 : IntKind.i64.wrap ((i : Int) + 1) = ((i + 1 : Nat) : Int) := by rw [wrap64_id (by omega) (by omega)]; rfl
      have hai : ((at' + i : Nat) : Int) < ((o.length : Nat) : Int) := by omega
      have hil : at' + i < p.length := by omega
      have hil' : at' + (i + 1) ≤ p.length := by omega
      have hile : at' + i ≤ p.length := by omega
      have hlay := fun v => wv_lay (v := v) hil
      simp only [Nat.add_assoc] at hlay
      simp only [go_sem, ↓reduceIte, h0, h1, h2, h3, h4, h12, h13, h14, hpb, hlt', hgx, encW, w3, hai, hile, wv_length, wv_head hil]
      refine callS_p (c_lmul x (a.getD i 0) (p.getD (at' + i) 0) d hx hxi hpi hd) ?_
      simp only [go_sem, ↓reduceIte, h0, h1, h2, h3, h4, h12, h13, h14, hpb, hlt', hai, wv_length, hil', hlay]
      have hmul : x * a.getD i 0 + (p.getD (at' + i) 0 + d) < 4294967296 * 4294967296 := by
        have : x * a.getD i 0 ≤ 4294967295 * 4294967295 := Nat.mul_le_mul (by omega) (by omega)
        omega
      refine next (m - 1) _ (by omega) ⟨i + 1, p.set (at' + i) _, (x * a.getD i 0 + (p.getD (at' + i) 0 + d)) / 4294967296, by omega, by simp only [go_sem, ↓reduceIte, h0], by simp only [go_sem, ↓reduceIte, h1], by simp only [go_sem, ↓reduceIte, h2], by simp only [go_sem, ↓reduceIte, h3], by simp only [go_sem, ↓reduceIte], by simp only [go_sem, ↓reduceIte, h12], by simp only [go_sem, ↓reduceIte, h13], by simp only [go_sem, ↓reduceIte, w5], by simp only [go_sem, ↓reduceIte] <;> omega, by simp only [go_sem, ↓reduceIte] <;> rfl, fun j hj hjb => by simp only [go_sem, ↓reduceIte, hjb, hfr j hj hjb], by simp [hlp], hp.set _ (by show _ < 4294967296; exact Nat.mod_lt _ (by omega)), (Nat.div_lt_iff_lt_mul (by omega)).2 hmul, fun k hk => ?_, ?_⟩
      · have := hsame k (by omega)
        simp only [List.getD] at this ⊢
        rw [List.getElem?_set_ne (by omega)]; exact this
      · have e1 := val_set p (v := (x * a.getD i 0 + (p.getD (at' + i) 0 + d)) % 4294967296) hil
        rw [← getD_of_lt hil] at e1
        have e2 := Nat.mod_add_div (x * a.getD i 0 + (p.getD (at' + i) 0 + d)) 4294967296
        rw [Nat.pow_add] at e1 hv
        rw [val_take_succ, show at' + (i + 1) = at' + i + 1 from rfl, Nat.pow_succ, Nat.pow_add]
        exact row_step hv e1 e2
    · have hlt' := dec_false (show ¬ ((i : Nat) : Int) < (a.length : Nat) by omega)
      have hie : i = a.length := by omega
      subst hie
      have w3 : IntKind.i64.wrap ((at' : Int) + (a.length : Nat)) = ((at' + a.length : Nat) : Int) := by rw [wrap64_id (by omega) (by omega)]; rfl
      have hai : ((at' + a.length : Nat) : Int) < ((o.length : Nat) : Int) := by omega
      have hil : at' + a.length < p.length := by omega
      have hil' : at' + (a.length + 1) ≤ p.length := by omega
      have hlay := wv_lay (v := d) hil
      simp only [Nat.add_assoc] at hlay
      simp only [go_sem, ↓reduceIte, h0, h1, h2, h3, h4, h12, h13, h14, hpb, hlt', encW, w3, hai, wv_length, hil', hlay]
      refine .mk (.tup []) (by simp only [go_sem, ↓reduceIte]) ⟨rfl, ⟨p.set (at' + a.length) d, by simp only [go_sem, ↓reduceIte], by simp [hlp], hp.set _ hd, fun k hk => ?_, ?_⟩, fun j hj hjb => by simp only [go_sem, ↓reduceIte, hjb, hfr j hj hjb]⟩
      · have := hsame k (by omega)
        simp only [List.getD] at this ⊢
        rw [List.getElem?_set_ne (by omega)]; exact this
      · have e1 := val_set p (v := d) hil
        rw [← getD_of_lt hil, hsame _ (by omega)] at e1
        rw [List.take_of_length_le (by omega)] at hv
        omega

set_option maxHeartbeats 2000000 in
theorem c_mul (a b : List Nat) (ha : Wd a) (hb : Wd b) (hla : a.length < 400000) (hlb : b.length < 400000) : PCalls Tryz.prog 67 [encW a, encW b] (encW (dig (val a * val b))) := by
  refine pcalls_of_AW (pa := []) (fn := Tryz.f67) (ts := [4]) follows_mixed Tryz.func67 rfl rfl (by kernel_rfl) (by kernel_rfl) (by rw [Tryz.ntmps67]; simp) ?_
  have w1 : IntKind.i64.wrap ((a.length : Int) + (b.length : Nat)) = ((a.length + b.length : Nat) : Int) := by rw [wrap64_id (by omega) (by omega)]; rfl
  have w2 : IntKind.i64.wrap (((a.length + b.length : Nat) : Int) + 1) = ((a.length + (b.length + 1) : Nat) : Int) := by rw [wrap64_id (by omega) (by omega)]; omega
  have hle : ((a.length + (b.length + 1) : Nat) : Int) ≤ 1099511627776 := by omega
  simp only [go_sem, ↓reduceIte, encW, w1, w2, hle, wv_rep]
  refine AW_while (fun m st => ∃ i o k, i + m = b.length ∧ st.τ 0 = encW a ∧ st.τ 5 = .own k 0 (a.length + (b.length + 1)) 1 ∧ st.τ 15 = encW b ∧ st.τ 16 = .int .i64 b.length ∧ st.τ 17 = .int .i64 (i : Nat) ∧
    st.h k = some (wv o) ∧ k < st.n ∧ o.length = a.length + (b.length + 1) ∧ Wd o ∧ (∀ j, i + a.length ≤ j → o.getD j 0 = 0) ∧ val o = val (b.take i) * val a) b.length ?_ ?_
  · exact ⟨0, List.replicate (a.length + (b.length + 1)) 0, _, by omega, by simp only [go_sem, ↓reduceIte, encW], by simp only [go_sem, ↓reduceIte] <;> rfl, by simp only [go_sem, ↓reduceIte, encW], by simp only [go_sem, ↓reduceIte], by simp only [go_sem, ↓reduceIte] <;> rfl, by simp only [go_sem, ↓reduceIte], by simp only [go_sem, ↓reduceIte] <;> omega, by simp, .replicate _ (by decide), fun j _ => rep0 _ j, by simp [val, val_replicate]⟩
  · rintro m st ⟨i, o, k, hi, h0, h5, h15, h16, h17, hk, hkn, hlo, ho, hz, hv⟩ next
    by_cases hlt : i < b.length
    · have hlt' : ((i : Nat) : Int) < (b.length : Nat) := by omega
      have hxi := hb.getD i
      rw [B_eq] at hxi
      have hgx := getD_w (a := b) (i := i) hlt .undef
      have w5 : IntKind.i64.wrap ((i : Int) + 1) = ((i + 1 : Nat) : Int) := by rw [wrap64_id (by omega) (by omega)]; rfl
      simp only [go_sem, ↓reduceIte, h0, h5, h15, h16, h17, hlt', hgx, encW]
      rw [← hlo]
      refine callS_h (c_row o k i a (b.getD i 0) 0 _ _ (by simp only [go_sem, ↓reduceIte, hk]) (by simp only [go_sem, ↓reduceIte] <;> omega) ho ha hxi (by omega) (by omega) (by omega)) ?_
      rintro v h' n' hn ⟨rfl, ⟨p, hp, hlp, hwp, hsame, hval⟩, hfr⟩
      simp only [go_sem, ↓reduceIte, h0, h5, h15, h16, h17]
      refine next (m - 1) _ (by omega) ⟨i + 1, p, k, by omega, by simp only [go_sem, ↓reduceIte, h0], by simp only [go_sem, ↓reduceIte, h5], by simp only [go_sem, ↓reduceIte, h15], by simp only [go_sem, ↓reduceIte, h16], by simp only [go_sem, ↓reduceIte, w5], by simp only [go_sem, ↓reduceIte, hp], by simp only [go_sem, ↓reduceIte] at hn ⊢ <;> omega, by omega, hwp, fun j hj => by rw [hsame j (by omega)]; exact hz j (by omega), ?_⟩
      rw [hz (i + a.length) (by omega), Nat.mul_zero, Nat.add_zero, Nat.add_zero] at hval
      rw [hval, hv, val_take_succ, Nat.add_mul, Nat.mul_assoc]
    · have hlt' := dec_false (show ¬ ((i : Nat) : Int) < (b.length : Nat) by omega)
      simp only [go_sem, ↓reduceIte, h0, h5, h15, h16, h17, hk, hlt']
      refine callS_q (c_norm o ho (by omega)) (args_words hk (by omega)) rfl ?_
      rw [hv, List.take_of_length_le (by omega), Nat.mul_comm]
      simp only [go_sem, ↓reduceIte]
      exact .mk (by simp only [go_sem, ↓reduceIte, encW])

end Go.Proofs.YtopmghclhgihfaaGreatDoor

set_option linter.unusedVariables false
set_option linter.unusedSimpArgs false
set_option maxRecDepth 10000
namespace Go.Num

theorem val_zeros {a : List Nat} {j : Nat} (h : Wd a) (hz : ∀ k, j ≤ k → a.getD k 0 = 0) : val a = val (a.take j) := by
  rw [val_split a j]
  have : val (a.drop j) = 0 := by
    have gen : ∀ (l : List Nat), (∀ k, l.getD k 0 = 0) → val l = 0 := by
      intro l
      induction l with
      | nil => intro _; rfl
      | cons w l ih =>
        intro h
        have h0 := h 0
        simp at h0
        rw [val_cons, h0, ih fun k => by have := h (k + 1); simpa using this]; rfl
    refine gen _ fun k => ?_
    have := hz (j + k) (by omega)
    simpa [List.getD, List.getElem?_drop] using this
  rw [this]; omega
theorem val_lt_zeros {a : List Nat} {j : Nat} (h : Wd a) (hz : ∀ k, j ≤ k → a.getD k 0 = 0) : val a < B ^ j := by
  rw [val_zeros h hz]; exact val_take_lt h j
theorem getD_drop (a : List Nat) (i k : Nat) : (a.drop i).getD k 0 = a.getD (i + k) 0 := by simp [List.getD, List.getElem?_drop]
theorem take_eq {a b : List Nat} {i : Nat} (hl : a.length = b.length) (h : ∀ k, k < i → a.getD k 0 = b.getD k 0) : a.take i = b.take i := by
  apply List.ext_getElem?
  intro k
  by_cases hk : k < i
  · rw [List.getElem?_take_of_lt hk, List.getElem?_take_of_lt hk]
    by_cases hka : k < a.length
    · have := h k hk
      rw [getD_of_lt hka, getD_of_lt (by omega)] at this
      rw [List.getElem?_eq_getElem hka, List.getElem?_eq_getElem (by omega), this]
    · rw [List.getElem?_eq_none (by omega), List.getElem?_eq_none (by omega)]
  · rw [List.getElem?_eq_none (by simp; omega), List.getElem?_eq_none (by simp; omega)]
theorem high_zero {a : List Nat} {j : Nat} (h : Wd a) (hv : val a < B ^ j) {k : Nat} (hk : j ≤ k) : a.getD k 0 = 0 := by
  rcases Nat.eq_zero_or_pos (a.getD k 0) with h0 | h0
  · exact h0
  · have h1 := val_split a k
    have h2 := val_drop a k
    have h3 : B ^ j ≤ B ^ k := Nat.pow_le_pow_right B_pos hk
    have h4 : B ^ k * 1 ≤ B ^ k * val (a.drop k) := Nat.mul_le_mul_left _ (by omega)
    omega

/-- The guess at a word of the quotient, by the three highest words and the two of the divisor. -/
def guessN (a3 d2 : Nat) : Nat := min 4294967295 (a3 / d2)
theorem guessN_le (a d : Nat) : guessN a d ≤ 4294967295 := Nat.min_le_left _ _
theorem guessN_mul {d : Nat} (h : 0 < d) (a : Nat) : guessN a d * d ≤ a := (Nat.le_div_iff_mul_le h).1 (Nat.min_le_right _ _)
theorem le_guessN {a d x : Nat} (h : 0 < d) (hx : x ≤ 4294967295) (hm : x * d ≤ a) : x ≤ guessN a d := Nat.le_min.2 ⟨hx, (Nat.le_div_iff_mul_le h).2 hm⟩
theorem guess_bd {A D P d2 ld a3 la : Nat} (hD : D = d2 * P + ld) (hld : ld < P) (hA : A = a3 * P + la) (hla : la < P) (hd2 : B ≤ d2) (hAD : A < B * D) : A / D ≤ guessN a3 d2 ∧ guessN a3 d2 ≤ A / D + 1 := by
  have hB := B_pos
  have hd0 : 0 < d2 := by omega
  have hP : 0 < P := by omega
  have hDP : d2 * P ≤ D := by omega
  have hD0 : 0 < D := Nat.lt_of_lt_of_le (Nat.mul_pos hd0 hP) hDP
  unfold guessN
  constructor
  · apply Nat.le_min.2
    constructor
    · have : A / D < B := (Nat.div_lt_iff_lt_mul hD0).2 hAD
      rw [B_eq] at this; omega
    · rw [Nat.le_div_iff_mul_le hd0]
      have h1 : A / D * D ≤ A := Nat.div_mul_le_self A D
      have h2 : A / D * (d2 * P) ≤ A / D * D := Nat.mul_le_mul_left _ hDP
      have h3 : A / D * d2 * P < (a3 + 1) * P := by rw [Nat.mul_assoc, Nat.add_mul, Nat.one_mul]; omega
      have := Nat.lt_of_mul_lt_mul_right h3
      omega
  · generalize hx : min 4294967295 (a3 / d2) = x
    have hx1 : x ≤ 4294967295 := by omega
    have hx2 : x ≤ a3 / d2 := by omega
    have h1 : x * d2 ≤ a3 := (Nat.le_div_iff_mul_le hd0).1 hx2
    rcases Nat.eq_zero_or_pos x with h0 | h0
    · rw [h0]; exact Nat.zero_le _
    · have h2 : (x - 1) * D ≤ A := by
        have e1 : x * d2 * P ≤ a3 * P := Nat.mul_le_mul_right _ h1
        have e2 : x * ld ≤ B * P := Nat.mul_le_mul (by rw [B_eq]; omega) (by omega)
        have e3 : B * P ≤ d2 * P := Nat.mul_le_mul_right _ hd2
        have e4 : x * D = x * d2 * P + x * ld := by rw [hD, Nat.mul_add, Nat.mul_assoc]
        have e5 : (x - 1) * D = x * D - D := by rw [Nat.sub_mul, Nat.one_mul]
        omega
      have h3 := (Nat.le_div_iff_mul_le hD0).2 h2
      generalize A / D = z at h3 ⊢
      omega

/-- The highest words of a number. -/
theorem top_words {a : List Nat} (h : Wd a) {k : Nat} (hz : ∀ j, k + 3 ≤ j → a.getD j 0 = 0) :
    val a = ((a.getD (k + 2) 0 * B + a.getD (k + 1) 0) * B + a.getD k 0) * B ^ k + val (a.take k) ∧ val (a.take k) < B ^ k := by
  refine ⟨?_, val_take_lt h k⟩
  rw [val_zeros h hz, val_take_succ, val_take_succ, val_take_succ, Nat.pow_succ, Nat.pow_succ]
  have e1 : a.getD (k + 2) 0 * B * B * B ^ k = B ^ k * B * B * a.getD (k + 2) 0 := by ac_rfl
  have e2 : a.getD (k + 1) 0 * B * B ^ k = B ^ k * B * a.getD (k + 1) 0 := by ac_rfl
  have e3 : a.getD k 0 * B ^ k = B ^ k * a.getD k 0 := by ac_rfl
  rw [Nat.add_mul, Nat.add_mul, Nat.add_mul, e1, e2, e3, Nat.pow_succ]
  omega

/-- What is left when a word of the quotient is found. -/
theorem quot_step {A D n x S w : Nat} (hD : D < B ^ n) (hD0 : 0 < D) (hAD : A < B * D) (hx1 : A / D ≤ x) (hx2 : x ≤ A / D + 1) (hS : S < B ^ (n + 1)) (hw : w ≤ 1) (he : S + x * D = A + B ^ (n + 1) * w) :
    (w = 0 → x = A / D ∧ S = A % D) ∧ (w = 1 → x = A / D + 1 ∧ ∀ T c, T < B ^ (n + 1) → T + B ^ (n + 1) * c = S + D → T = A % D) := by
  have hdm := Nat.div_add_mod A D
  rw [Nat.mul_comm] at hdm
  have hm := Nat.mod_lt A hD0
  refine ⟨fun h0 => ?_, fun h1 => ?_⟩
  · subst h0
    have : x ≤ A / D := by
      rcases Nat.lt_or_ge (A / D) x with h | h
      · have hx : x = A / D + 1 := by omega
        rw [hx, Nat.add_mul, Nat.one_mul] at he
        omega
      · exact h
    have hx : x = A / D := by omega
    subst hx
    exact ⟨rfl, by omega⟩
  · subst h1
    have hx : x = A / D + 1 := by
      rcases Nat.lt_or_ge (A / D) x with h | h
      · omega
      · have hx : x = A / D := by omega
        subst hx
        omega
    refine ⟨hx, fun T c hT hTc => ?_⟩
    rw [hx, Nat.add_mul, Nat.one_mul] at he
    have hBn : B ^ n * 1 ≤ B ^ n * B := Nat.mul_le_mul_left _ B_pos
    rw [Nat.pow_succ] at *
    have e1 : T + B ^ n * B * c = B ^ n * B + A % D := by omega
    have hc : c = 1 := by
      rcases Nat.lt_trichotomy c 1 with h | h | h
      · have : c = 0 := by omega
        subst this
        omega
      · exact h
      · have : B ^ n * B * 2 ≤ B ^ n * B * c := Nat.mul_le_mul_left _ h
        omega
    subst hc
    omega

theorem val_pos_top {d : List Nat} {k : Nat} (h : 0 < d.getD k 0) : B ^ k ≤ val d := by
  have h1 := val_split d k
  have h2 := val_drop d k
  have : B ^ k * 1 ≤ B ^ k * val (d.drop k) := Nat.mul_le_mul_left _ (by omega)
  omega
theorem long_guess {p d : List Nat} {i : Nat} (hp : Wd p) (hd : Wd d) (h2 : 2 ≤ d.length) (htop : 0 < d.getD (d.length - 1) 0) (hlt : val (p.drop (i + 1)) < val d) :
    val (p.drop i) < B * val d ∧ (∀ j, d.length + 1 ≤ j → (p.drop i).getD j 0 = 0) ∧
    val (p.drop i) / val d ≤ guessN ((p.getD (i + d.length) 0 * 4294967296 + p.getD (i + (d.length - 1)) 0) * 4294967296 + p.getD (i + (d.length - 2)) 0) (d.getD (d.length - 1) 0 * 4294967296 + d.getD (d.length - 2) 0) ∧
    guessN ((p.getD (i + d.length) 0 * 4294967296 + p.getD (i + (d.length - 1)) 0) * 4294967296 + p.getD (i + (d.length - 2)) 0) (d.getD (d.length - 1) 0 * 4294967296 + d.getD (d.length - 2) 0) ≤ val (p.drop i) / val d + 1 := by
  obtain ⟨k, hk⟩ : ∃ k, d.length = k + 2 := ⟨d.length - 2, by omega⟩
  have hz : ∀ j, d.length + 1 ≤ j → (p.drop i).getD j 0 = 0 := fun j hj => by
    have := high_zero (hp.drop (i + 1)) (Nat.lt_trans hlt (val_lt hd)) (k := j - 1) (by omega)
    rw [getD_drop] at this ⊢
    rw [← this]; congr 1; omega
  have hA : val (p.drop i) < B * val d := by
    rw [val_drop]
    have h1 := hp.getD i
    have h2 : B * (val (p.drop (i + 1)) + 1) ≤ B * val d := Nat.mul_le_mul_left _ hlt
    rw [Nat.mul_add] at h2
    omega
  refine ⟨hA, hz, ?_⟩
  have ht := top_words (hp.drop i) (k := k) (fun j hj => hz j (by omega))
  rw [getD_drop, getD_drop, getD_drop] at ht
  have hdv : val d = (d.getD (k + 1) 0 * B + d.getD k 0) * B ^ k + val (d.take k) := by
    have h1 := val_take_succ d (k + 1)
    have h2 := val_take_succ d k
    rw [show k + 1 + 1 = d.length by omega, List.take_length, h2, Nat.pow_succ] at h1
    have e1 : d.getD (k + 1) 0 * B * B ^ k = B ^ k * B * d.getD (k + 1) 0 := by ac_rfl
    have e2 : d.getD k 0 * B ^ k = B ^ k * d.getD k 0 := by ac_rfl
    rw [Nat.add_mul, e1, e2]
    omega
  have hb : B ≤ d.getD (k + 1) 0 * B + d.getD k 0 := by
    rw [show d.length - 1 = k + 1 by omega] at htop
    have : 1 * B ≤ d.getD (k + 1) 0 * B := Nat.mul_le_mul_right _ htop
    omega
  have := guess_bd hdv (val_take_lt hd k) ht.1 ht.2 hb hA
  rw [show d.length - 1 = k + 1 by omega, show d.length - 2 = k by omega, hk]
  exact this
end Go.Num

set_option linter.unusedVariables false
set_option linter.unusedSimpArgs false
set_option maxRecDepth 10000
namespace Go.Proofs.YtopmghclhgihfaaGreatDoor
open Go Go.Ab Go.Num

set_option maxHeartbeats 2000000 in
theorem c_qword (a : List Nat) (x : Nat) (ha : Wd a) (hl : a.length < 900000) (hx : x < 4294967296) (hx0 : x ≠ 0) :
    PCalls Tryz.prog 111 [encW a, .int .u32 (x : Nat)] (.tup [encW (dig (val a / x)), .int .u32 (val a % x : Nat), .bool true]) := by
  refine pcalls_of_AW (pa := []) (fn := Tryz.f111) (ts := [4, 5, 6]) follows_mixed Tryz.func111 rfl rfl (by kernel_rfl) (by kernel_rfl) (by rw [Tryz.ntmps111]; simp) ?_
  have hz := beq_false_of (show ((x : Nat) : Int) ≠ 0 by omega)
  have hle : ((a.length : Nat) : Int) ≤ 1099511627776 := by omega
  have w1 : IntKind.i64.wrap ((a.length : Int) - 1) = (a.length : Int) - 1 := wrap64_id (by omega) (by omega)
  simp only [go_sem, ↓reduceIte, encW, hz, hle, wv_rep, w1]
  refine AW_while (fun m st => ∃ o r b, m ≤ a.length ∧ st.τ 0 = encW a ∧ st.τ 1 = .int .u32 (x : Nat) ∧ st.τ 4 = .own b 0 a.length 1 ∧ st.τ 5 = .int .u32 (r : Nat) ∧ st.τ 7 = .int .i64 ((m : Int) - 1) ∧ st.h b = some (wv o) ∧ b < st.n ∧ o.length = a.length ∧ Wd o ∧ r < x ∧
    val (a.drop m) = val (o.drop m) * x + r) a.length ?_ ?_
  · exact ⟨List.replicate a.length 0, 0, _, by omega, by simp only [go_sem, ↓reduceIte, encW], by simp only [go_sem, ↓reduceIte], by simp only [go_sem, ↓reduceIte] <;> rfl, by simp only [go_sem, ↓reduceIte] <;> rfl, by simp only [go_sem, ↓reduceIte], by simp only [go_sem, ↓reduceIte], by simp only [go_sem, ↓reduceIte] <;> omega, by simp, .replicate _ (by decide), by omega, by simp [val]⟩
  · rintro m st ⟨o, r, b, hm, h0, h1, h4, h5, h7, hb, hbn, hlo, ho, hr, hv⟩ next
    rcases Nat.eq_zero_or_pos m with hm0 | hm0
    · subst hm0
      simp only [go_sem, ↓reduceIte, h0, h1, h4, h5, h7, hb, show ((0 : Nat) : Int) - 1 = -1 from rfl, show decide ((0 : Int) ≤ -1) = false from rfl]
      refine callS_q (c_norm o ho (by omega)) (args_words hb (by omega)) rfl ?_
      rw [List.drop_zero, List.drop_zero] at hv
      have e1 : val a / x = val o := by rw [hv, Nat.mul_comm, Nat.mul_add_div (by omega), Nat.div_eq_of_lt hr, Nat.add_zero]
      have e2 : val a % x = r := by rw [hv, Nat.mul_comm, Nat.mul_add_mod, Nat.mod_eq_of_lt hr]
      simp only [go_sem, ↓reduceIte, h5]
      exact .mk (by simp only [go_sem, ↓reduceIte, encW, e1, e2])
    · have hd := dec_true (show (0 : Int) ≤ (m : Int) - 1 by omega)
      have e1 : (m : Int) - 1 = ((m - 1 : Nat) : Int) := by omega
      have hlt' : ((m - 1 : Nat) : Int) < (a.length : Nat) := by omega
      have hxi := ha.getD (m - 1)
      rw [B_eq] at hxi
      have hgx := getD_w (a := a) (i := m - 1) (by omega) .undef
      have w5 : IntKind.i64.wrap (((m - 1 : Nat) : Int) - 1) = ((m - 1 : Nat) : Int) - 1 := by rw [wrap64_id (by omega) (by omega)]
      have hil : m - 1 < o.length := by omega
      have hil' : m - 1 + 1 ≤ o.length := by omega
      have hlay := fun v => wv_lay (v := v) hil
      rw [e1] at h7 hd
      simp only [go_sem, ↓reduceIte, h0, h1, h4, h5, h7, hb, hd, encW, hlt', hgx]
      refine callS_p (c_ldiv r (a.getD (m - 1) 0) x hr hxi hx) ?_
      simp only [go_sem, ↓reduceIte, h0, h1, h4, h5, h7, hb, hlt', wv_length, hil', hlay, w5]
      have hq : (r * 4294967296 + a.getD (m - 1) 0) / x < 4294967296 := by
        rw [Nat.div_lt_iff_lt_mul (by omega)]
        have : r * 4294967296 + 4294967296 ≤ x * 4294967296 := by omega
        omega
      refine next (m - 1) _ (by omega) ⟨o.set (m - 1) _, _, b, by omega, by simp only [go_sem, ↓reduceIte, h0, encW], by simp only [go_sem, ↓reduceIte, h1], by simp only [go_sem, ↓reduceIte, h4], by simp only [go_sem, ↓reduceIte] <;> rfl, by simp only [go_sem, ↓reduceIte], by simp only [go_sem, ↓reduceIte] <;> rfl, by simp only [go_sem, ↓reduceIte] <;> omega, by simp [hlo], ho.set _ hq, Nat.mod_lt _ (by omega), ?_⟩
      have d1 := val_drop a (m - 1)
      have d2 := val_drop (o.set (m - 1) ((r * 4294967296 + a.getD (m - 1) 0) / x)) (m - 1)
      rw [show m - 1 + 1 = m by omega] at d1 d2
      rw [List.drop_set_of_lt (show m - 1 < m by omega)] at d2
      have d3 : (o.set (m - 1) ((r * 4294967296 + a.getD (m - 1) 0) / x)).getD (m - 1) 0 = (r * 4294967296 + a.getD (m - 1) 0) / x := by simp only [List.getD]; rw [List.getElem?_set_self hil]; rfl
      rw [d1, d2, d3, hv, B_eq]
      have dm := Nat.div_add_mod (r * 4294967296 + a.getD (m - 1) 0) x
      generalize (r * 4294967296 + a.getD (m - 1) 0) / x = q at *
      rw [Nat.add_mul, Nat.mul_comm q x, Nat.mul_add, Nat.mul_assoc 4294967296]
      omega

/-- The guess is not too small, as long as it is too great. -/
theorem mend_le {a2 a1 a0 b1 b0 q r g : Nat} (hg : g * (b1 * 4294967296 + b0) ≤ (a2 * 4294967296 + a1) * 4294967296 + a0) (hqr : a2 * 4294967296 + a1 = q * b1 + r) (h : ¬ q * b0 ≤ r * 4294967296 + a0) (hgq : g ≤ q) : g ≤ q - 1 ∧ 0 < q := by
  have h0 : 0 < q := by
    rcases Nat.eq_zero_or_pos q with h1 | h1
    · subst h1; simp at h
    · exact h1
  refine ⟨?_, h0⟩
  rcases Nat.lt_or_ge g q with h1 | h1
  · omega
  · have : g = q := by omega
    subst this
    rw [hqr, Nat.mul_add, Nat.add_mul, ← Nat.mul_assoc] at hg
    omega
theorem mend_eq {a2 a1 a0 b1 b0 q r : Nat} (hqr : a2 * 4294967296 + a1 = q * b1 + r) (h : q * b0 ≤ r * 4294967296 + a0) : q * (b1 * 4294967296 + b0) ≤ (a2 * 4294967296 + a1) * 4294967296 + a0 := by
  rw [hqr, Nat.mul_add, Nat.add_mul, ← Nat.mul_assoc]; omega

set_option maxHeartbeats 4000000 in
theorem c_guess (a2 a1 a0 b1 b0 : Nat) (h2 : a2 < 4294967296) (h1 : a1 < 4294967296) (h0 : a0 < 4294967296) (hb1 : b1 < 4294967296) (hb0 : b0 < 4294967296) (hp : 0 < b1) :
    PCalls Tryz.prog 151 [.int .u32 (a2 : Nat), .int .u32 (a1 : Nat), .int .u32 (a0 : Nat), .int .u32 (b1 : Nat), .int .u32 (b0 : Nat)] (.int .u32 (guessN ((a2 * 4294967296 + a1) * 4294967296 + a0) (b1 * 4294967296 + b0) : Nat)) := by
  refine pcalls_of_AW (pa := []) (fn := Tryz.f151) (ts := [10]) follows_mixed Tryz.func151 rfl rfl (by kernel_rfl) (by kernel_rfl) (by rw [Tryz.ntmps151]; simp) ?_
  have hd0 : 0 < b1 * 4294967296 + b0 := by omega
  have hg1 := guessN_le ((a2 * 4294967296 + a1) * 4294967296 + a0) (b1 * 4294967296 + b0)
  have hg2 := guessN_mul hd0 ((a2 * 4294967296 + a1) * 4294967296 + a0)
  have hg3 : ∀ x, x ≤ 4294967295 → x * (b1 * 4294967296 + b0) ≤ (a2 * 4294967296 + a1) * 4294967296 + a0 → x ≤ guessN ((a2 * 4294967296 + a1) * 4294967296 + a0) (b1 * 4294967296 + b0) := fun x hx h => le_guessN hd0 hx h
  generalize guessN ((a2 * 4294967296 + a1) * 4294967296 + a0) (b1 * 4294967296 + b0) = g at *
  simp only [go_sem, ↓reduceIte]
  by_cases hlt : a2 < b1
  · refine callS_p (c_ldiv a2 a1 b1 hlt h1 hb1) ?_
    have hq2 : (a2 * 4294967296 + a1) / b1 < 4294967296 := by
      rw [Nat.div_lt_iff_lt_mul hp]
      have : a2 * 4294967296 + 4294967296 ≤ b1 * 4294967296 := by omega
      omega
    have hr2 : (a2 * 4294967296 + a1) % b1 < 4294967296 := Nat.lt_trans (Nat.mod_lt _ hp) hb1
    have hqr : a2 * 4294967296 + a1 = (a2 * 4294967296 + a1) / b1 * b1 + (a2 * 4294967296 + a1) % b1 := by
      have h := Nat.div_add_mod (a2 * 4294967296 + a1) b1
      rw [Nat.mul_comm b1] at h; exact h.symm
    have hgq : g ≤ (a2 * 4294967296 + a1) / b1 := by
      rw [Nat.le_div_iff_mul_le hp]
      rw [Nat.mul_add, ← Nat.mul_assoc] at hg2
      have e := Nat.le_trans (Nat.le_add_right _ _) hg2
      omega
    generalize (a2 * 4294967296 + a1) / b1 = q at *
    generalize (a2 * 4294967296 + a1) % b1 = r at *
    have hq : (q : Int) = q := rfl
    simp only [go_sem, ↓reduceIte]
    refine AW_while (fun m st => ∃ r : Nat, st.τ 2 = .int .u32 (a0 : Nat) ∧ st.τ 3 = .int .u32 (b1 : Nat) ∧ st.τ 4 = .int .u32 (b0 : Nat) ∧ st.τ 11 = .int .u32 (m : Nat) ∧ st.τ 12 = .int .u32 (r : Nat) ∧ m < 4294967296 ∧ r < 4294967296 ∧ a2 * 4294967296 + a1 = m * b1 + r ∧ g ≤ m) q ?_ ?_
    · exact ⟨r, by simp only [go_sem, ↓reduceIte], by simp only [go_sem, ↓reduceIte], by simp only [go_sem, ↓reduceIte], by first | (simp only [go_sem, ↓reduceIte]; done) | (simp only [go_sem, ↓reduceIte]; exact congrArg (AV.int .u32) hq.symm), by simp only [go_sem, ↓reduceIte], hq2, hr2, hqr, hgq⟩
    · clear hqr hgq hq2 hr2 hq
      clear q r
      rintro q st ⟨r, t2, t3, t4, t11, t12, hq2, hr2, hqr, hgq⟩ next
      simp only [go_sem, ↓reduceIte, t2, t3, t4, t11, t12]
      refine callS_p (c_lmul q b0 0 0 hq2 hb0 (by omega) (by omega)) ?_
      rw [Nat.add_zero, Nat.add_zero]
      have hdm := Nat.div_add_mod (q * b0) 4294967296
      have hmm := Nat.mod_lt (q * b0) (show 0 < 4294967296 by omega)
      by_cases hok : q * b0 ≤ r * 4294967296 + a0
      · have hqg := hg3 q (by omega) (mend_eq hqr hok)
        have hge : g = q := by omega
        by_cases hhr : q * b0 / 4294967296 < r
        · simp only [go_sem, ↓reduceIte, t2, t3, t4, t11, t12, dlt_nat, dec_true hhr]
          exact .mk (by simp only [go_sem, ↓reduceIte, hge])
        · have he : q * b0 / 4294967296 = r := by omega
          have hle : q * b0 % 4294967296 ≤ a0 := by omega
          simp only [go_sem, ↓reduceIte, t2, t3, t4, t11, t12, dlt_nat, dec_false hhr, beq_nat, dec_true he, dle_nat, dec_true hle]
          exact .mk (by simp only [go_sem, ↓reduceIte, hge])
      · obtain ⟨hgm, hq0⟩ := mend_le hg2 hqr hok hgq
        have hhr := show ¬ q * b0 / 4294967296 < r by omega
        have wq : IntKind.u32.wrap ((q : Int) - 1) = ((q - 1 : Nat) : Int) := by rw [show ((1 : Int)) = ((1 : Nat) : Int) from rfl, wu32_sub (by omega), Nat.mod_eq_of_lt (by omega)]
        have hqr' : a2 * 4294967296 + a1 = (q - 1) * b1 + (r + b1) := by
          have : q * b1 = (q - 1) * b1 + b1 := by rw [Nat.sub_mul, Nat.one_mul]; have := Nat.le_mul_of_pos_left b1 hq0; omega
          omega
        have fin : ∀ (K : Prop), K → K := fun _ h => h
        by_cases he : q * b0 / 4294967296 = r
        · have hle : ¬ q * b0 % 4294967296 ≤ a0 := by omega
          simp only [go_sem, ↓reduceIte, t2, t3, t4, t11, t12, dlt_nat, dec_false hhr, beq_nat, dec_true he, dle_nat, dec_false hle, wq]
          refine callS_p (c_ladd r b1 0 hr2 hb1 (by omega)) ?_
          rw [Nat.add_zero]
          by_cases hcy : (r + b1) / 4294967296 = 0
          · have hmm : (r + b1) % 4294967296 = r + b1 := Nat.mod_eq_of_lt (by omega)
            simp only [go_sem, ↓reduceIte, t2, t3, t4, t11, t12, hcy, cast0, show decide ((0 : Int) < 0) = false from rfl, hmm]
            exact next (q - 1) _ (by omega) ⟨r + b1, by simp only [go_sem, ↓reduceIte, t2], by simp only [go_sem, ↓reduceIte, t3], by simp only [go_sem, ↓reduceIte, t4], by simp only [go_sem, ↓reduceIte], by simp only [go_sem, ↓reduceIte], by omega, by omega, hqr', hgm⟩
          · have hcy' := dec_true (show (0 : Int) < ((r + b1) / 4294967296 : Nat) by omega)
            have hqg := hg3 (q - 1) (by omega) (mend_eq hqr' (Nat.le_trans (Nat.mul_le_mul (show q - 1 ≤ 4294967295 by omega) (show b0 ≤ 4294967295 by omega)) (by omega)))
            have hge : g = q - 1 := by omega
            simp only [go_sem, ↓reduceIte, t2, t3, t4, t11, t12, hcy']
            exact .mk (by simp only [go_sem, ↓reduceIte, hge])
        · simp only [go_sem, ↓reduceIte, t2, t3, t4, t11, t12, dlt_nat, dec_false hhr, beq_nat, dec_false he, wq]
          refine callS_p (c_ladd r b1 0 hr2 hb1 (by omega)) ?_
          rw [Nat.add_zero]
          by_cases hcy : (r + b1) / 4294967296 = 0
          · have hmm : (r + b1) % 4294967296 = r + b1 := Nat.mod_eq_of_lt (by omega)
            simp only [go_sem, ↓reduceIte, t2, t3, t4, t11, t12, hcy, cast0, show decide ((0 : Int) < 0) = false from rfl, hmm]
            exact next (q - 1) _ (by omega) ⟨r + b1, by simp only [go_sem, ↓reduceIte, t2], by simp only [go_sem, ↓reduceIte, t3], by simp only [go_sem, ↓reduceIte, t4], by simp only [go_sem, ↓reduceIte], by simp only [go_sem, ↓reduceIte], by omega, by omega, hqr', hgm⟩
          · have hcy' := dec_true (show (0 : Int) < ((r + b1) / 4294967296 : Nat) by omega)
            have hqg := hg3 (q - 1) (by omega) (mend_eq hqr' (Nat.le_trans (Nat.mul_le_mul (show q - 1 ≤ 4294967295 by omega) (show b0 ≤ 4294967295 by omega)) (by omega)))
            have hge : g = q - 1 := by omega
            simp only [go_sem, ↓reduceIte, t2, t3, t4, t11, t12, hcy']
            exact .mk (by simp only [go_sem, ↓reduceIte, hge])
  · refine callS_p (c_ldiv0 a2 a1 b1 (by omega)) ?_
    simp only [go_sem, ↓reduceIte]
    refine callS_p (c_ladd a1 b1 0 h1 hb1 (by omega)) ?_
    rw [Nat.add_zero]
    by_cases hgt : b1 < a2
    · simp only [go_sem, ↓reduceIte, dlt_nat, dec_true hgt]
      have : 4294967295 ≤ g := hg3 _ (by omega) (by
        have : b1 * 4294967296 + 4294967296 ≤ a2 * 4294967296 := by omega
        omega)
      have hge : g = 4294967295 := by omega
      exact .mk (by simp only [go_sem, ↓reduceIte, hge] <;> rfl)
    · have hab : a2 = b1 := by omega
      by_cases hcy : (a1 + b1) / 4294967296 = 0
      · have hmm : (a1 + b1) % 4294967296 = a1 + b1 := Nat.mod_eq_of_lt (by omega)
        simp only [go_sem, ↓reduceIte, dlt_nat, dec_false hgt, hcy, cast0, show decide ((0 : Int) < 0) = false from rfl, hmm]
        obtain ⟨q, hq0⟩ : ∃ q : Nat, q = 4294967295 := ⟨_, rfl⟩
        have hq2 : q < 4294967296 := by omega
        have hr2 : a1 + b1 < 4294967296 := by omega
        have hqr : a2 * 4294967296 + a1 = q * b1 + (a1 + b1) := by rw [hq0]; omega
        have hgq : g ≤ q := by omega
        have hq : (q : Int) = 4294967295 := by rw [hq0]; rfl
        clear hq0
        generalize a1 + b1 = r at hr2 hqr ⊢
        refine AW_while (fun m st => ∃ r : Nat, st.τ 2 = .int .u32 (a0 : Nat) ∧ st.τ 3 = .int .u32 (b1 : Nat) ∧ st.τ 4 = .int .u32 (b0 : Nat) ∧ st.τ 11 = .int .u32 (m : Nat) ∧ st.τ 12 = .int .u32 (r : Nat) ∧ m < 4294967296 ∧ r < 4294967296 ∧ a2 * 4294967296 + a1 = m * b1 + r ∧ g ≤ m) q ?_ ?_
        · exact ⟨r, by simp only [go_sem, ↓reduceIte], by simp only [go_sem, ↓reduceIte], by simp only [go_sem, ↓reduceIte], by first | (simp only [go_sem, ↓reduceIte]; done) | (simp only [go_sem, ↓reduceIte]; exact congrArg (AV.int .u32) hq.symm), by simp only [go_sem, ↓reduceIte], hq2, hr2, hqr, hgq⟩
        · clear hqr hgq hq2 hr2 hq
          clear q r
          rintro q st ⟨r, t2, t3, t4, t11, t12, hq2, hr2, hqr, hgq⟩ next
          simp only [go_sem, ↓reduceIte, t2, t3, t4, t11, t12]
          refine callS_p (c_lmul q b0 0 0 hq2 hb0 (by omega) (by omega)) ?_
          rw [Nat.add_zero, Nat.add_zero]
          have hdm := Nat.div_add_mod (q * b0) 4294967296
          have hmm := Nat.mod_lt (q * b0) (show 0 < 4294967296 by omega)
          by_cases hok : q * b0 ≤ r * 4294967296 + a0
          · have hqg := hg3 q (by omega) (mend_eq hqr hok)
            have hge : g = q := by omega
            by_cases hhr : q * b0 / 4294967296 < r
            · simp only [go_sem, ↓reduceIte, t2, t3, t4, t11, t12, dlt_nat, dec_true hhr]
              exact .mk (by simp only [go_sem, ↓reduceIte, hge])
            · have he : q * b0 / 4294967296 = r := by omega
              have hle : q * b0 % 4294967296 ≤ a0 := by omega
              simp only [go_sem, ↓reduceIte, t2, t3, t4, t11, t12, dlt_nat, dec_false hhr, beq_nat, dec_true he, dle_nat, dec_true hle]
              exact .mk (by simp only [go_sem, ↓reduceIte, hge])
          · obtain ⟨hgm, hq0⟩ := mend_le hg2 hqr hok hgq
            have hhr := show ¬ q * b0 / 4294967296 < r by omega
            have wq : IntKind.u32.wrap ((q : Int) - 1) = ((q - 1 : Nat) : Int) := by rw [show ((1 : Int)) = ((1 : Nat) : Int) from rfl, wu32_sub (by omega), Nat.mod_eq_of_lt (by omega)]
            have hqr' : a2 * 4294967296 + a1 = (q - 1) * b1 + (r + b1) := by
              have : q * b1 = (q - 1) * b1 + b1 := by rw [Nat.sub_mul, Nat.one_mul]; have := Nat.le_mul_of_pos_left b1 hq0; omega
              omega
            have fin : ∀ (K : Prop), K → K := fun _ h => h
            by_cases he : q * b0 / 4294967296 = r
            · have hle : ¬ q * b0 % 4294967296 ≤ a0 := by omega
              simp only [go_sem, ↓reduceIte, t2, t3, t4, t11, t12, dlt_nat, dec_false hhr, beq_nat, dec_true he, dle_nat, dec_false hle, wq]
              refine callS_p (c_ladd r b1 0 hr2 hb1 (by omega)) ?_
              rw [Nat.add_zero]
              by_cases hcy : (r + b1) / 4294967296 = 0
              · have hmm : (r + b1) % 4294967296 = r + b1 := Nat.mod_eq_of_lt (by omega)
                simp only [go_sem, ↓reduceIte, t2, t3, t4, t11, t12, hcy, cast0, show decide ((0 : Int) < 0) = false from rfl, hmm]
                exact next (q - 1) _ (by omega) ⟨r + b1, by simp only [go_sem, ↓reduceIte, t2], by simp only [go_sem, ↓reduceIte, t3], by simp only [go_sem, ↓reduceIte, t4], by simp only [go_sem, ↓reduceIte], by simp only [go_sem, ↓reduceIte], by omega, by omega, hqr', hgm⟩
              · have hcy' := dec_true (show (0 : Int) < ((r + b1) / 4294967296 : Nat) by omega)
                have hqg := hg3 (q - 1) (by omega) (mend_eq hqr' (Nat.le_trans (Nat.mul_le_mul (show q - 1 ≤ 4294967295 by omega) (show b0 ≤ 4294967295 by omega)) (by omega)))
                have hge : g = q - 1 := by omega
                simp only [go_sem, ↓reduceIte, t2, t3, t4, t11, t12, hcy']
                exact .mk (by simp only [go_sem, ↓reduceIte, hge])
            · simp only [go_sem, ↓reduceIte, t2, t3, t4, t11, t12, dlt_nat, dec_false hhr, beq_nat, dec_false he, wq]
              refine callS_p (c_ladd r b1 0 hr2 hb1 (by omega)) ?_
              rw [Nat.add_zero]
              by_cases hcy : (r + b1) / 4294967296 = 0
              · have hmm : (r + b1) % 4294967296 = r + b1 := Nat.mod_eq_of_lt (by omega)
                simp only [go_sem, ↓reduceIte, t2, t3, t4, t11, t12, hcy, cast0, show decide ((0 : Int) < 0) = false from rfl, hmm]
                exact next (q - 1) _ (by omega) ⟨r + b1, by simp only [go_sem, ↓reduceIte, t2], by simp only [go_sem, ↓reduceIte, t3], by simp only [go_sem, ↓reduceIte, t4], by simp only [go_sem, ↓reduceIte], by simp only [go_sem, ↓reduceIte], by omega, by omega, hqr', hgm⟩
              · have hcy' := dec_true (show (0 : Int) < ((r + b1) / 4294967296 : Nat) by omega)
                have hqg := hg3 (q - 1) (by omega) (mend_eq hqr' (Nat.le_trans (Nat.mul_le_mul (show q - 1 ≤ 4294967295 by omega) (show b0 ≤ 4294967295 by omega)) (by omega)))
                have hge : g = q - 1 := by omega
                simp only [go_sem, ↓reduceIte, t2, t3, t4, t11, t12, hcy']
                exact .mk (by simp only [go_sem, ↓reduceIte, hge])
      · have hcy' := dec_true (show (0 : Int) < ((a1 + b1) / 4294967296 : Nat) by omega)
        simp only [go_sem, ↓reduceIte, dlt_nat, dec_false hgt, hcy']
        have : 4294967295 ≤ g := hg3 _ (by omega) (by omega)
        have hge : g = 4294967295 := by omega
        exact .mk (by simp only [go_sem, ↓reduceIte, hge] <;> rfl)

end Go.Proofs.YtopmghclhgihfaaGreatDoor

set_option linter.unusedVariables false
set_option linter.unusedSimpArgs false
set_option maxRecDepth 10000
namespace Go.Proofs.YtopmghclhgihfaaGreatDoor
open Go Go.Ab Go.Num

/-- What 'take' makes of a list; 'w': what is owed. -/
def TakeR (o : List Nat) (at' : Nat) (b : List Nat) (x w : Nat) (o' : List Nat) : Prop :=
  o'.length = o.length ∧ Wd o' ∧ (∀ k, k < at' ∨ at' + b.length < k → o'.getD k 0 = o.getD k 0) ∧ w ≤ 1 ∧ val o' + B ^ at' * (x * val b) = val o + B ^ (at' + b.length + 1) * w

theorem take_step {A Q x bi lo hi c w w' s q Vp Vq Vo T : Nat} (hv : Vp + A * (x * T) = Vo + A * Q * (c + w)) (e1 : Vq + A * Q * q = Vp + A * Q * s) (e2 : lo + 4294967296 * hi = x * bi + c) (e3 : s + lo + w = q + 4294967296 * w') :
    Vq + A * (x * (T + Q * bi)) = Vo + A * Q * B * (hi + w') := by
  have m2 := congrArg (A * Q * ·) e2
  have m3 := congrArg (A * Q * ·) e3
  simp only [Nat.mul_add] at m2 m3 hv ⊢
  have k1 : A * Q * B * hi = A * Q * (4294967296 * hi) := by rw [Nat.mul_assoc]; rfl
  have k2 : A * Q * B * w' = A * Q * (4294967296 * w') := by rw [Nat.mul_assoc]; rfl
  have k3 : A * (x * (Q * bi)) = A * Q * (x * bi) := by rw [Nat.mul_left_comm x Q, Nat.mul_assoc]
  omega

theorem take_end {A Q c w w' s q Vp Vq Vo X : Nat} (hv : Vp + X = Vo + A * Q * (c + w)) (e1 : Vq + A * Q * q = Vp + A * Q * s) (e3 : s + c + w = q + 4294967296 * w') : Vq + X = Vo + A * Q * B * w' := by
  have m3 := congrArg (A * Q * ·) e3
  simp only [Nat.mul_add] at m3 hv ⊢
  have k2 : A * Q * B * w' = A * Q * (4294967296 * w') := by rw [Nat.mul_assoc]; rfl
  omega
theorem give_end {A Q c c' s q Vp Vq Vo X : Nat} (hv : Vp + A * Q * c = Vo + X) (e1 : Vq + A * Q * q = Vp + A * Q * s) (e2 : s + 4294967296 * c' = q + c) : Vq + A * Q * B * c' = Vo + X := by
  have m3 := congrArg (A * Q * ·) e2
  simp only [Nat.mul_add] at m3 ⊢
  have k2 : A * Q * B * c' = A * Q * (4294967296 * c') := by rw [Nat.mul_assoc]; rfl
  omega

set_option maxHeartbeats 4000000 in
theorem c_take (o : List Nat) (b at' : Nat) (a : List Nat) (x : Nat) (h : Heap) (n : Nat) (hb : h b = some (wv o)) (hbn : b < n) (ho : Wd o) (ha : Wd a) (hx : x < 4294967296) (hl : at' + a.length < o.length) (hlo : o.length < 1000000) :
    HCalls Tryz.prog 152 [.own b 0 o.length 1, .int .i64 (at' : Nat), encW a, .int .u32 (x : Nat)] h n (fun v h' n' => ∃ w, v = .bool (decide (0 < w)) ∧ ChgW h n b (TakeR o at' a x w) h') := by
  refine hcalls_of_AWR (pa := []) (fn := Tryz.f152) (rs := [.tmp 8]) follows_mixed Tryz.func152 rfl rfl (by kernel_rfl) (by kernel_rfl) (by rw [Tryz.ntmps152]; simp) ?_
  simp only [go_sem, ↓reduceIte, encW]
  refine AW_while (fun m st => ∃ i p c w, i + m = a.length ∧ st.τ 0 = .own b 0 o.length 1 ∧ st.τ 1 = .int .i64 (at' : Nat) ∧ st.τ 2 = encW a ∧ st.τ 3 = .int .u32 (x : Nat) ∧ st.τ 9 = .int .u32 (c : Nat) ∧ st.τ 10 = .int .u32 (w : Nat) ∧ st.τ 15 = encW a ∧ st.τ 16 = .int .i64 a.length ∧ st.τ 17 = .int .i64 (i : Nat) ∧
    n ≤ st.n ∧ st.h b = some (wv p) ∧ (∀ j, j < n → j ≠ b → st.h j = h j) ∧ p.length = o.length ∧ Wd p ∧ c < 4294967296 ∧ w ≤ 1 ∧ (∀ k, k < at' ∨ at' + i ≤ k → p.getD k 0 = o.getD k 0) ∧ val p + B ^ at' * (x * val (a.take i)) = val o + B ^ at' * B ^ i * (c + w)) a.length ?_ ?_
  · exact ⟨0, o, 0, 0, by omega, by simp only [go_sem, ↓reduceIte], by simp only [go_sem, ↓reduceIte], by simp only [go_sem, ↓reduceIte, encW], by simp only [go_sem, ↓reduceIte], by simp only [go_sem, ↓reduceIte] <;> rfl, by simp only [go_sem, ↓reduceIte] <;> rfl, by simp only [go_sem, ↓reduceIte, encW], by simp only [go_sem, ↓reduceIte], by simp only [go_sem, ↓reduceIte] <;> rfl, by simp only [go_sem, ↓reduceIte] <;> omega, by simp only [go_sem, ↓reduceIte, hb], fun j _ _ => by simp only [go_sem, ↓reduceIte], rfl, ho, by omega, by omega, fun k _ => rfl, by simp [val]⟩
  · rintro m st ⟨i, p, c, w, hi, h0, h1, h2, h3, h9, h10, h15, h16, h17, hn, hpb, hfr, hlp, hp, hc, hw, hsame, hv⟩ next
    have hw' : w < 4294967296 := by omega
    by_cases hlt : i < a.length
    · have hlt' : ((i : Nat) : Int) < (a.length : Nat) := by omega
      have hxi := ha.getD i
      have hpi := hp.getD (at' + i)
      rw [B_eq] at hxi hpi
      have hgx := getD_w (a := a) (i := i) hlt .undef
      have w3 : IntKind.i64.wrap ((at' : Int) + (i : Int)) = ((at' + i : Nat) : Int) := by rw [wrap64_id (by omega) (by omega)]; rfl
      have w5 : IntKind.i64.wrap ((i : Int) + 1) = ((i + 1 : Nat) : Int) := by rw [wrap64_id (by omega) (by omega)]; rfl
      have hai : ((at' + i : Nat) : Int) < ((o.length : Nat) : Int) := by omega
      have hil : at' + i < p.length := by omega
      have hil' : at' + (i + 1) ≤ p.length := by omega
      have hile : at' + i ≤ p.length := by omega
      have hlay := fun v => wv_lay (v := v) hil
      simp only [Nat.add_assoc] at hlay
      simp only [go_sem, ↓reduceIte, h0, h1, h2, h3, h9, h10, h15, h16, h17, hpb, hlt', hgx, encW]
      refine callS_p (c_lmul x (a.getD i 0) c 0 hx hxi hc (by omega)) ?_
      rw [Nat.add_zero]
      have hmul : x * a.getD i 0 + c < 4294967296 * 4294967296 := by
        have : x * a.getD i 0 ≤ 4294967295 * 4294967295 := Nat.mul_le_mul (by omega) (by omega)
        omega
      have hhi : (x * a.getD i 0 + c) / 4294967296 < 4294967296 := (Nat.div_lt_iff_lt_mul (by omega)).2 hmul
      have hlo' : (x * a.getD i 0 + c) % 4294967296 < 4294967296 := Nat.mod_lt _ (by omega)
      have e2 := Nat.mod_add_div (x * a.getD i 0 + c) 4294967296
      generalize (x * a.getD i 0 + c) / 4294967296 = hi' at *
      generalize (x * a.getD i 0 + c) % 4294967296 = lo at *
      simp only [go_sem, ↓reduceIte, h0, h1, h2, h3, h9, h10, h15, h16, h17, hpb, w3, hai, hile, wv_length, wv_head hil]
      have hsub := c_lsub (p.getD (at' + i) 0) lo w hpi hlo' hw'
      refine callS_p hsub ?_
      have hss := subW_eq hpi hlo' hw'
      have e3 := hss.1
      have hsw := hss.2
      clear hss
      simp only [go_sem, ↓reduceIte, h0, h1, h2, h3, h9, h10, h15, h16, h17, hpb, hai, wv_length, hil', hlay]
      refine next (m - 1) _ (by omega) ⟨i + 1, p.set (at' + i) _, hi', subO (p.getD (at' + i) 0) lo w, by omega, by simp only [go_sem, ↓reduceIte, h0], by simp only [go_sem, ↓reduceIte, h1], by simp only [go_sem, ↓reduceIte, h2], by simp only [go_sem, ↓reduceIte, h3], by simp only [go_sem, ↓reduceIte], by simp only [go_sem, ↓reduceIte], by simp only [go_sem, ↓reduceIte, h15], by simp only [go_sem, ↓reduceIte, h16], by simp only [go_sem, ↓reduceIte, w5], by simp only [go_sem, ↓reduceIte] <;> omega, by simp only [go_sem, ↓reduceIte] <;> rfl, fun j hj hjb => by simp only [go_sem, ↓reduceIte, hjb, hfr j hj hjb], by simp [hlp], hp.set _ hsw, hhi, subO_le1 hpi hlo' hw, fun k hk => ?_, ?_⟩
      · have := hsame k (by omega)
        simp only [List.getD] at this ⊢
        rw [List.getElem?_set_ne (by omega)]; exact this
      · have e1 := val_set p (v := subW (p.getD (at' + i) 0) lo w) hil
        rw [← getD_of_lt hil, Nat.pow_add] at e1
        rw [val_take_succ, Nat.pow_succ, ← Nat.mul_assoc (B ^ at') (B ^ i) B]
        exact take_step hv e1 e2 e3
    · have hlt' := dec_false (show ¬ ((i : Nat) : Int) < (a.length : Nat) by omega)
      have hie : i = a.length := by omega
      subst hie
      have hpi := hp.getD (at' + a.length)
      rw [B_eq] at hpi
      have w3 : IntKind.i64.wrap ((at' : Int) + (a.length : Nat)) = ((at' + a.length : Nat) : Int) := by rw [wrap64_id (by omega) (by omega)]; rfl
      have hai : ((at' + a.length : Nat) : Int) < ((o.length : Nat) : Int) := by omega
      have hil : at' + a.length < p.length := by omega
      have hil' : at' + (a.length + 1) ≤ p.length := by omega
      have hile : at' + a.length ≤ p.length := by omega
      have hlay := fun v => wv_lay (v := v) hil
      simp only [Nat.add_assoc] at hlay
      simp only [go_sem, ↓reduceIte, h0, h1, h2, h3, h9, h10, h15, h16, h17, hpb, hlt', encW, w3, hai, hile, wv_length, wv_head hil]
      have hsub := c_lsub (p.getD (at' + a.length) 0) c w hpi hc hw'
      refine callS_p hsub ?_
      have hss := subW_eq hpi hc hw'
      have e3 := hss.1
      have hsw := hss.2
      clear hss
      simp only [go_sem, ↓reduceIte, h0, h1, h2, h3, h9, h10, hpb, hai, wv_length, hil', hlay, dlt0_nat]
      refine .mk (.bool (decide (0 < subO (p.getD (at' + a.length) 0) c w))) (by simp only [go_sem, ↓reduceIte]) ⟨_, rfl, ⟨p.set (at' + a.length) (subW (p.getD (at' + a.length) 0) c w), by simp only [go_sem, ↓reduceIte], by simp [hlp], hp.set _ hsw, fun k hk => ?_, subO_le1 hpi hc hw, ?_⟩, fun j hj hjb => by simp only [go_sem, ↓reduceIte, hjb, hfr j hj hjb]⟩
      · have := hsame k (by omega)
        simp only [List.getD] at this ⊢
        rw [List.getElem?_set_ne (by omega)]; exact this
      · have e1 := val_set p (v := subW (p.getD (at' + a.length) 0) c w) hil
        rw [← getD_of_lt hil, Nat.pow_add] at e1
        rw [List.take_of_length_le (by omega)] at hv
        rw [Nat.pow_succ, Nat.pow_add]
        exact take_end hv e1 e3

/-- What 'give' makes of a list. -/
def GiveR (o : List Nat) (at' : Nat) (b : List Nat) (o' : List Nat) : Prop :=
  o'.length = o.length ∧ Wd o' ∧ (∀ k, k < at' ∨ at' + b.length < k → o'.getD k 0 = o.getD k 0) ∧ ∃ c, val o' + B ^ (at' + b.length + 1) * c = val o + B ^ at' * val b

theorem give_step {A Q bi c c' s q Vp Vq Vo T : Nat} (hv : Vp + A * Q * c = Vo + A * T) (e1 : Vq + A * Q * q = Vp + A * Q * s) (e2 : s + 4294967296 * c' = q + (bi + c)) :
    Vq + A * Q * B * c' = Vo + A * (T + Q * bi) := by
  have m2 := congrArg (A * Q * ·) e2
  simp only [Nat.mul_add] at m2 ⊢
  have k1 : A * Q * B * c' = A * Q * (4294967296 * c') := by rw [Nat.mul_assoc]; rfl
  have k3 : A * (Q * bi) = A * Q * bi := by rw [Nat.mul_assoc]
  omega

set_option maxHeartbeats 4000000 in
theorem c_give (o : List Nat) (b at' : Nat) (a : List Nat) (h : Heap) (n : Nat) (hb : h b = some (wv o)) (hbn : b < n) (ho : Wd o) (ha : Wd a) (hl : at' + a.length < o.length) (hlo : o.length < 1000000) :
    HCalls Tryz.prog 153 [.own b 0 o.length 1, .int .i64 (at' : Nat), encW a] h n (fun v h' n' => v = .tup [] ∧ ChgW h n b (GiveR o at' a) h') := by
  refine hcalls_of_AWR (pa := []) (fn := Tryz.f153) (rs := []) follows_mixed Tryz.func153 rfl rfl (by kernel_rfl) (by kernel_rfl) (by rw [Tryz.ntmps153]; simp) ?_
  simp only [go_sem, ↓reduceIte, encW]
  refine AW_while (fun m st => ∃ i p c, i + m = a.length ∧ st.τ 0 = .own b 0 o.length 1 ∧ st.τ 1 = .int .i64 (at' : Nat) ∧ st.τ 2 = encW a ∧ st.τ 6 = .int .u32 (c : Nat) ∧ st.τ 9 = encW a ∧ st.τ 10 = .int .i64 a.length ∧ st.τ 11 = .int .i64 (i : Nat) ∧
    n ≤ st.n ∧ st.h b = some (wv p) ∧ (∀ j, j < n → j ≠ b → st.h j = h j) ∧ p.length = o.length ∧ Wd p ∧ c ≤ 1 ∧ (∀ k, k < at' ∨ at' + i ≤ k → p.getD k 0 = o.getD k 0) ∧ val p + B ^ at' * B ^ i * c = val o + B ^ at' * val (a.take i)) a.length ?_ ?_
  · exact ⟨0, o, 0, by omega, by simp only [go_sem, ↓reduceIte], by simp only [go_sem, ↓reduceIte], by simp only [go_sem, ↓reduceIte, encW], by simp only [go_sem, ↓reduceIte] <;> rfl, by simp only [go_sem, ↓reduceIte, encW], by simp only [go_sem, ↓reduceIte], by simp only [go_sem, ↓reduceIte] <;> rfl, by simp only [go_sem, ↓reduceIte] <;> omega, by simp only [go_sem, ↓reduceIte, hb], fun j _ _ => by simp only [go_sem, ↓reduceIte], rfl, ho, by omega, fun k _ => rfl, by simp [val]⟩
  · rintro m st ⟨i, p, c, hi, h0, h1, h2, h6, h9, h10, h11, hn, hpb, hfr, hlp, hp, hc, hsame, hv⟩ next
    by_cases hlt : i < a.length
    · have hlt' : ((i : Nat) : Int) < (a.length : Nat) := by omega
      have hxi := ha.getD i
      have hpi := hp.getD (at' + i)
      rw [B_eq] at hxi hpi
      have hgx := getD_w (a := a) (i := i) hlt .undef
      have w3 : IntKind.i64.wrap ((at' : Int) + (i : Int)) = ((at' + i : Nat) : Int) := by rw [wrap64_id (by omega) (by omega)]; rfl
      have w5 : IntKind.i64.wrap ((i : Int) + 1) = ((i + 1 : Nat) : Int) := by rw [wrap64_id (by omega) (by omega)]; rfl
      have hai : ((at' + i : Nat) : Int) < ((o.length : Nat) : Int) := by omega
      have hil : at' + i < p.length := by omega
      have hil' : at' + (i + 1) ≤ p.length := by omega
      have hile : at' + i ≤ p.length := by omega
      have hlay := fun v => wv_lay (v := v) hil
      simp only [Nat.add_assoc] at hlay
      simp only [go_sem, ↓reduceIte, h0, h1, h2, h6, h9, h10, h11, hpb, hlt', hgx, encW, w3, hai, hile, wv_length, wv_head hil]
      refine callS_p (c_ladd (p.getD (at' + i) 0) (a.getD i 0) c hpi hxi (by omega)) ?_
      have e2 := Nat.mod_add_div (p.getD (at' + i) 0 + (a.getD i 0 + c)) 4294967296
      have hs : (p.getD (at' + i) 0 + (a.getD i 0 + c)) % 4294967296 < 4294967296 := Nat.mod_lt _ (by omega)
      simp only [go_sem, ↓reduceIte, h0, h1, h2, h6, h9, h10, h11, hpb, hai, wv_length, hil', hlay]
      refine next (m - 1) _ (by omega) ⟨i + 1, p.set (at' + i) _, (p.getD (at' + i) 0 + (a.getD i 0 + c)) / 4294967296, by omega, by simp only [go_sem, ↓reduceIte, h0], by simp only [go_sem, ↓reduceIte, h1], by simp only [go_sem, ↓reduceIte, h2], by simp only [go_sem, ↓reduceIte], by simp only [go_sem, ↓reduceIte, h9], by simp only [go_sem, ↓reduceIte, h10], by simp only [go_sem, ↓reduceIte, w5], by simp only [go_sem, ↓reduceIte] <;> omega, by simp only [go_sem, ↓reduceIte] <;> rfl, fun j hj hjb => by simp only [go_sem, ↓reduceIte, hjb, hfr j hj hjb], by simp [hlp], hp.set _ hs, by omega, fun k hk => ?_, ?_⟩
      · have := hsame k (by omega)
        simp only [List.getD] at this ⊢
        rw [List.getElem?_set_ne (by omega)]; exact this
      · have e1 := val_set p (v := (p.getD (at' + i) 0 + (a.getD i 0 + c)) % 4294967296) hil
        rw [← getD_of_lt hil, Nat.pow_add] at e1
        rw [val_take_succ, Nat.pow_succ, ← Nat.mul_assoc (B ^ at') (B ^ i) B]
        exact give_step hv e1 e2
    · have hlt' := dec_false (show ¬ ((i : Nat) : Int) < (a.length : Nat) by omega)
      have hie : i = a.length := by omega
      subst hie
      have hpi := hp.getD (at' + a.length)
      rw [B_eq] at hpi
      have w3 : IntKind.i64.wrap ((at' : Int) + (a.length : Nat)) = ((at' + a.length : Nat) : Int) := by rw [wrap64_id (by omega) (by omega)]; rfl
      have hai : ((at' + a.length : Nat) : Int) < ((o.length : Nat) : Int) := by omega
      have hil : at' + a.length < p.length := by omega
      have hil' : at' + (a.length + 1) ≤ p.length := by omega
      have hile : at' + a.length ≤ p.length := by omega
      have hlay := fun v => wv_lay (v := v) hil
      simp only [Nat.add_assoc] at hlay
      have e2 := Nat.mod_add_div (p.getD (at' + a.length) 0 + c) 4294967296
      have hs : (p.getD (at' + a.length) 0 + c) % 4294967296 < 4294967296 := Nat.mod_lt _ (by omega)
      simp only [go_sem, ↓reduceIte, h0, h1, h2, h6, h9, h10, h11, hpb, hlt', encW, w3, hai, hile, wv_length, wv_head hil, wu32_add, hil', hlay]
      refine .mk (.tup []) (by simp only [go_sem, ↓reduceIte]) ⟨rfl, ⟨p.set (at' + a.length) ((p.getD (at' + a.length) 0 + c) % 4294967296), by simp only [go_sem, ↓reduceIte], by simp [hlp], hp.set _ hs, fun k hk => ?_, (p.getD (at' + a.length) 0 + c) / 4294967296, ?_⟩, fun j hj hjb => by simp only [go_sem, ↓reduceIte, hjb, hfr j hj hjb]⟩
      · have := hsame k (by omega)
        simp only [List.getD] at this ⊢
        rw [List.getElem?_set_ne (by omega)]; exact this
      · have e1 := val_set p (v := (p.getD (at' + a.length) 0 + c) % 4294967296) hil
        rw [← getD_of_lt hil, Nat.pow_add] at e1
        rw [List.take_of_length_le (by omega)] at hv
        rw [Nat.pow_succ, Nat.pow_add]
        exact give_end hv e1 e2

end Go.Proofs.YtopmghclhgihfaaGreatDoor

set_option linter.unusedVariables false
set_option linter.unusedSimpArgs false
set_option maxRecDepth 10000
namespace Go.Proofs.YtopmghclhgihfaaGreatDoor
open Go Go.Ab Go.Num

theorem seg_eq {p p' : List Nat} {i : Nat} {X Y : Nat} (hl : p'.length = p.length) (hsame : ∀ k, k < i → p'.getD k 0 = p.getD k 0) (he : val p' + B ^ i * X = val p + B ^ i * Y) : p'.take i = p.take i ∧ val (p'.drop i) + X = val (p.drop i) + Y := by
  have ht := take_eq hl hsame
  refine ⟨ht, ?_⟩
  have h1 := val_split p i
  have h2 := val_split p' i
  rw [ht] at h2
  have h3 : B ^ i * (val (p'.drop i) + X) = B ^ i * (val (p.drop i) + Y) := by rw [Nat.mul_add, Nat.mul_add]; omega
  exact Nat.eq_of_mul_eq_mul_left (Nat.pow_pos B_pos) h3

theorem TakeR.seg {p p' d : List Nat} {i x w : Nat} (h : TakeR p i d x w p') (hz : ∀ j, d.length + 1 ≤ j → (p.drop i).getD j 0 = 0) : p'.take i = p.take i ∧ val (p'.drop i) + x * val d = val (p.drop i) + B ^ (d.length + 1) * w ∧ val (p'.drop i) < B ^ (d.length + 1) ∧ (∀ j, d.length + 1 ≤ j → (p'.drop i).getD j 0 = 0) := by
  obtain ⟨h1, h2, h3, h4, h5⟩ := h
  rw [Nat.add_assoc, Nat.pow_add, Nat.mul_assoc] at h5
  obtain ⟨g1, g2⟩ := seg_eq h1 (fun k hk => h3 k (.inl hk)) h5
  have hz' : ∀ j, d.length + 1 ≤ j → (p'.drop i).getD j 0 = 0 := fun j hj => by
    have := hz j hj
    rw [getD_drop] at this ⊢
    rw [h3 _ (.inr (by omega))]; exact this
  exact ⟨g1, g2, val_lt_zeros (h2.drop i) hz', hz'⟩
theorem GiveR.seg {p p' d : List Nat} {i : Nat} (h : GiveR p i d p') (hz : ∀ j, d.length + 1 ≤ j → (p.drop i).getD j 0 = 0) : p'.take i = p.take i ∧ (∃ c, val (p'.drop i) + B ^ (d.length + 1) * c = val (p.drop i) + val d) ∧ val (p'.drop i) < B ^ (d.length + 1) := by
  obtain ⟨h1, h2, h3, c, h5⟩ := h
  rw [Nat.add_assoc, Nat.pow_add, Nat.mul_assoc] at h5
  obtain ⟨g1, g2⟩ := seg_eq h1 (fun k hk => h3 k (.inl hk)) h5
  exact ⟨g1, ⟨c, g2⟩, val_lt_zeros (h2.drop i) fun j hj => by
    have := hz j hj
    rw [getD_drop] at this ⊢
    rw [h3 _ (.inr (by omega))]; exact this⟩

/-- A round is done. -/
theorem long_round {V D i : Nat} {p p' q : List Nat} (hv : V = val p + D * B ^ (i + 1) * val (q.drop (i + 1))) (ht : p'.take i = p.take i) (hr : val (p'.drop i) = val (p.drop i) % D) (hi : i < q.length) :
    V = val p' + D * B ^ i * val ((q.set i (val (p.drop i) / D)).drop i) := by
  have h1 := val_split p i
  have h2 := val_split p' i
  rw [ht, hr] at h2
  have d2 := val_drop (q.set i (val (p.drop i) / D)) i
  rw [List.drop_set_of_lt (show i < i + 1 by omega)] at d2
  have d3 : (q.set i (val (p.drop i) / D)).getD i 0 = val (p.drop i) / D := by simp only [List.getD]; rw [List.getElem?_set_self hi]; rfl
  rw [d3] at d2
  have hdm := Nat.div_add_mod (val (p.drop i)) D
  have e1 := congrArg (B ^ i * ·) hdm
  simp only [Nat.mul_add] at e1
  rw [d2, h2, hv, Nat.mul_add, Nat.pow_succ]
  have e2 : D * (B ^ i * B) * val (q.drop (i + 1)) = D * B ^ i * (B * val (q.drop (i + 1))) := by ac_rfl
  have e3 : D * B ^ i * (val (p.drop i) / D) = B ^ i * (D * (val (p.drop i) / D)) := by ac_rfl
  rw [e2, e3]
  omega

set_option maxHeartbeats 4000000 in
theorem c_long (a : List Nat) (b : Nat) (d : List Nat) (h : Heap) (n : Nat) (hb : h b = some (wv a)) (hbn : b < n) (ha : Wd a) (hd : Wd d) (h2 : 2 ≤ d.length) (hla : d.length < a.length) (hlo : a.length < 1000000) (htop : 0 < d.getD (d.length - 1) 0) (hpre : val (a.drop (a.length - d.length)) < val d) :
    HCalls Tryz.prog 140 [.own b 0 a.length 1, encW d] h n (fun v h' n' => ∃ bq q r, v = .own bq 0 q.length 1 ∧ n ≤ bq ∧ bq < n' ∧ q.length = a.length - d.length ∧ Wd q ∧ Wd r ∧ r.length = a.length ∧ h' bq = some (wv q) ∧ h' b = some (wv r) ∧ val q = val a / val d ∧ val r = val a % val d ∧ ∀ j, j < n → j ≠ b → h' j = h j) := by
  refine hcalls_of_AWR (pa := []) (fn := Tryz.f140) (rs := [.tmp 4]) follows_mixed Tryz.func140 rfl rfl (by kernel_rfl) (by kernel_rfl) (by rw [Tryz.ntmps140]; simp) ?_
  have w1 : IntKind.i64.wrap ((a.length : Int) - (d.length : Int)) = ((a.length - d.length : Nat) : Int) := by rw [wrap64_id (by omega) (by omega)]; omega
  have w2 : IntKind.i64.wrap (((a.length - d.length : Nat) : Int) - 1) = ((a.length - d.length : Nat) : Int) - 1 := wrap64_id (by omega) (by omega)
  have hle : ((a.length - d.length : Nat) : Int) ≤ 1099511627776 := by omega
  simp only [go_sem, ↓reduceIte, encW, w1, w2, hle, wv_rep]
  refine AW_while (fun m st => ∃ p q bq, m ≤ a.length - d.length ∧ st.τ 0 = .own b 0 a.length 1 ∧ st.τ 1 = encW d ∧ st.τ 5 = .int .i64 (d.length : Nat) ∧ st.τ 6 = .own bq 0 (a.length - d.length) 1 ∧ st.τ 7 = .int .i64 ((m : Int) - 1) ∧ n ≤ bq ∧ bq < st.n ∧ st.h bq = some (wv q) ∧ st.h b = some (wv p) ∧ (∀ j, j < n → j ≠ b → st.h j = h j) ∧
    p.length = a.length ∧ q.length = a.length - d.length ∧ Wd p ∧ Wd q ∧ val (p.drop m) < val d ∧ val a = val p + val d * B ^ m * val (q.drop m)) (a.length - d.length) ?_ ?_
  · exact ⟨a, List.replicate (a.length - d.length) 0, n + 8, by omega, by simp only [go_sem, ↓reduceIte], by simp only [go_sem, ↓reduceIte, encW], by simp only [go_sem, ↓reduceIte], by simp only [go_sem, ↓reduceIte] <;> rfl, by simp only [go_sem, ↓reduceIte], by omega, by simp only [go_sem, ↓reduceIte] <;> omega, by simp only [go_sem, ↓reduceIte], by simp only [go_sem, ↓reduceIte, upd1_old _ _ _ _ _ hbn, hb], fun j hj _ => by simp only [go_sem, ↓reduceIte, upd1_old _ _ _ _ _ hj], rfl, by simp, ha, .replicate _ (by decide), hpre, by simp [val]⟩
  · rintro m st ⟨p, q, bq, hm, h0, h1, h5, h6, h7, hbq, hbqn, hq, hpb, hfr, hlp, hlq, hp, hwq, hlt, hv⟩ next
    have hne : b ≠ bq := by omega
    rcases Nat.eq_zero_or_pos m with hm0 | hm0
    · subst hm0
      simp only [go_sem, ↓reduceIte, h0, h1, h5, h6, h7, show ((0 : Nat) : Int) - 1 = -1 from rfl, show decide ((0 : Int) ≤ -1) = false from rfl]
      rw [List.drop_zero] at hlt
      rw [List.drop_zero, Nat.pow_zero, Nat.mul_one] at hv
      refine .mk (.own bq 0 q.length 1) (by simp only [go_sem, ↓reduceIte, hlq]) ⟨bq, q, p, rfl, hbq, by simp only [go_sem, ↓reduceIte] <;> omega, hlq, hwq, hp, hlp, by simp only [go_sem, ↓reduceIte, hq], by simp only [go_sem, ↓reduceIte, hpb], ?_, ?_, fun j hj hjb => by simp only [go_sem, ↓reduceIte, hfr j hj hjb]⟩
      · rw [hv, Nat.add_mul_div_left _ _ (by omega), Nat.div_eq_of_lt hlt, Nat.zero_add]
      · rw [hv, Nat.add_mul_mod_self_left, Nat.mod_eq_of_lt hlt]
    · obtain ⟨i, rfl⟩ : ∃ i, m = i + 1 := ⟨m - 1, by omega⟩
      have e1 : ((i + 1 : Nat) : Int) - 1 = (i : Nat) := by omega
      rw [e1] at h7
      have hd0 := dec_true (show (0 : Int) ≤ (i : Nat) by omega)
      obtain ⟨g1, g2, g3, g4⟩ := long_guess (i := i) hp hd h2 htop hlt
      have w3 : IntKind.i64.wrap ((i : Int) + (d.length : Int)) = ((i + d.length : Nat) : Int) := by rw [wrap64_id (by omega) (by omega)]; rfl
      have w4 : IntKind.i64.wrap (((i + d.length : Nat) : Int) - 1) = ((i + (d.length - 1) : Nat) : Int) := by rw [wrap64_id (by omega) (by omega)]; omega
      have w5 : IntKind.i64.wrap (((i + d.length : Nat) : Int) - 2) = ((i + (d.length - 2) : Nat) : Int) := by rw [wrap64_id (by omega) (by omega)]; omega
      have w6 : IntKind.i64.wrap ((d.length : Int) - 1) = ((d.length - 1 : Nat) : Int) := by rw [wrap64_id (by omega) (by omega)]; omega
      have w7 : IntKind.i64.wrap ((d.length : Int) - 2) = ((d.length - 2 : Nat) : Int) := by rw [wrap64_id (by omega) (by omega)]; omega
      have w8 : IntKind.i64.wrap ((i : Int) - 1) = (i : Int) - 1 := wrap64_id (by omega) (by omega)
      have l1 : ((i + d.length : Nat) : Int) < (a.length : Nat) := by omega
      have l2 : ((i + (d.length - 1) : Nat) : Int) < (a.length : Nat) := by omega
      have l3 : ((i + (d.length - 2) : Nat) : Int) < (a.length : Nat) := by omega
      have l4 : ((d.length - 1 : Nat) : Int) < (d.length : Nat) := by omega
      have l5 : ((d.length - 2 : Nat) : Int) < (d.length : Nat) := by omega
      have k1 : i + d.length ≤ p.length := by omega
      have k2 : i + (d.length - 1) ≤ p.length := by omega
      have k3 : i + (d.length - 2) ≤ p.length := by omega
      have v1 := wv_head (a := p) (i := i + d.length) (by omega)
      have v2 := wv_head (a := p) (i := i + (d.length - 1)) (by omega)
      have v3 := wv_head (a := p) (i := i + (d.length - 2)) (by omega)
      have v4 := getD_w (a := d) (i := d.length - 1) (by omega) .undef
      have v5 := getD_w (a := d) (i := d.length - 2) (by omega) .undef
      have b1 := hp.getD (i + d.length)
      have b2 := hp.getD (i + (d.length - 1))
      have b3 := hp.getD (i + (d.length - 2))
      have b4 := hd.getD (d.length - 1)
      have b5 := hd.getD (d.length - 2)
      rw [B_eq] at b1 b2 b3 b4 b5
      have hgs := c_guess _ _ _ _ _ b1 b2 b3 b4 b5 htop
      have hx3 := guessN_le ((p.getD (i + d.length) 0 * 4294967296 + p.getD (i + (d.length - 1)) 0) * 4294967296 + p.getD (i + (d.length - 2)) 0) (d.getD (d.length - 1) 0 * 4294967296 + d.getD (d.length - 2) 0)
      simp only [go_sem, ↓reduceIte, h0, h1, h5, h6, h7, hpb, hd0, encW, w3, w4, w5, w6, w7, l1, l2, l3, l4, l5, k1, k2, k3, v1, v2, v3, v4, v5, wv_length]
      refine callD_p hgs ?_
      generalize guessN ((p.getD (i + d.length) 0 * 4294967296 + p.getD (i + (d.length - 1)) 0) * 4294967296 + p.getD (i + (d.length - 2)) 0) (d.getD (d.length - 1) 0 * 4294967296 + d.getD (d.length - 2) 0) = x at *
      clear hgs v1 v2 v3 v4 v5 b1 b2 b3 b4 b5
      simp only [go_sem, ↓reduceIte, h0, h1, h5, h6, h7, hpb]
      have htk : ∀ H N, H b = some (wv p) → b < N → HCalls Tryz.prog 152 [.own b 0 a.length 1, .int .i64 (i : Nat), encW d, .int .u32 (x : Nat)] H N (fun v h' n' => ∃ w, v = .bool (decide (0 < w)) ∧ ChgW H N b (TakeR p i d x w) h') := fun H N e1 e2 => by
        rw [← hlp]; exact c_take p b i d x H N e1 e2 hp hd (by omega) (by omega) (by omega)
      refine callS_h (htk _ _ (by simp only [go_sem, ↓reduceIte, hpb]) (by simp only [go_sem, ↓reduceIte] <;> omega)) ?_
      rintro v h' n' hn ⟨w, rfl, ⟨p', hp', hR⟩, hfr'⟩
      simp only [go_sem, ↓reduceIte] at hn hfr'
      obtain ⟨t1, t2, t3, t4⟩ := hR.seg g2
      have hst := quot_step (val_lt hd) (by omega) g1 g3 g4 t3 hR.2.2.2.1 t2
      have hlp' : p'.length = a.length := by rw [hR.1, hlp]
      have hq' : h' bq = some (wv q) := by rw [hfr' bq (by omega) (Ne.symm hne), hq]
      have hil : i < q.length := by omega
      have hil' : i + 1 ≤ q.length := hil
      have hiq : ((i : Nat) : Int) < ((a.length - d.length : Nat) : Int) := by omega
      by_cases hw0 : 0 < w
      · have hw1 : w = 1 := by have := hR.2.2.2.1; omega
        obtain ⟨hxe, hT⟩ := hst.2 hw1
        have hx1 : 1 ≤ x := by rw [hxe]; exact Nat.le_add_left 1 _
        have hgv : ∀ H N, H b = some (wv p') → b < N → HCalls Tryz.prog 153 [.own b 0 a.length 1, .int .i64 (i : Nat), encW d] H N (fun v h' n' => v = .tup [] ∧ ChgW H N b (GiveR p' i d) h') := fun H N e1 e2 => by
          rw [← hlp']; exact c_give p' b i d H N e1 e2 hR.2.1 hd (by omega) (by omega)
        have wx : IntKind.u32.wrap ((x : Int) - 1) = ((x - 1 : Nat) : Int) := by rw [show ((1 : Int)) = ((1 : Nat) : Int) from rfl, wu32_sub hx1, Nat.mod_eq_of_lt (Nat.lt_of_le_of_lt (Nat.sub_le x 1) (Nat.lt_of_le_of_lt hx3 (by decide)))]
        simp only [go_sem, ↓reduceIte, h0, h1, h5, h6, h7, dec_true hw0, wx, encW]
        refine callS_h (hgv _ _ (by simp only [go_sem, ↓reduceIte, hp']) (by simp only [go_sem, ↓reduceIte] <;> omega)) ?_
        rintro v h2' n2' hn2 ⟨rfl, ⟨p2, hp2, hG⟩, hfr2⟩
        simp only [go_sem, ↓reduceIte] at hn2 hfr2
        obtain ⟨u1, ⟨c, u2⟩, u3⟩ := hG.seg t4
        have hrr := hT _ c u3 u2
        have hx' : x - 1 = val (p.drop i) / val d := by rw [hxe, Nat.add_sub_cancel]
        have hq2 : h2' bq = some (wv q) := by rw [hfr2 bq (by omega) (Ne.symm hne), hq']
        have hlay := wv_lay (v := x - 1) hil
        simp only [go_sem, ↓reduceIte, h0, h1, h5, h6, h7, hq2, hiq, wv_length, hil', hlay, w8]
        refine next i _ (by omega) ⟨p2, q.set i (x - 1), bq, by omega, by simp only [go_sem, ↓reduceIte, h0], by simp only [go_sem, ↓reduceIte, h1, encW], by simp only [go_sem, ↓reduceIte, h5], by simp only [go_sem, ↓reduceIte, h6], by simp only [go_sem, ↓reduceIte], hbq, by simp only [go_sem, ↓reduceIte] <;> omega, by simp only [go_sem, ↓reduceIte], by simp only [go_sem, ↓reduceIte, hne, hp2], fun j hj hjb => ?_, by rw [hG.1, hlp'], by simp [hlq], hG.2.1, hwq.set _ (by show _ < 4294967296; omega), by rw [hrr]; exact Nat.mod_lt _ (by omega), ?_⟩
        · have : j ≠ bq := by omega
          simp only [go_sem, ↓reduceIte, this]
          rw [hfr2 j (by omega) hjb, hfr' j (by omega) hjb, hfr j hj hjb]
        · rw [hx']
          exact long_round hv (by rw [u1, t1]) hrr hil
      · have hw1 : w = 0 := by omega
        obtain ⟨hxe, hrr⟩ := hst.1 hw1
        have hlay := wv_lay (v := x) hil
        simp only [go_sem, ↓reduceIte, h0, h1, h5, h6, h7, dec_false hw0, hq', hiq, wv_length, hil', hlay, w8]
        refine next i _ (by omega) ⟨p', q.set i x, bq, by omega, by simp only [go_sem, ↓reduceIte, h0], by simp only [go_sem, ↓reduceIte, h1, encW], by simp only [go_sem, ↓reduceIte, h5], by simp only [go_sem, ↓reduceIte, h6], by simp only [go_sem, ↓reduceIte], hbq, by simp only [go_sem, ↓reduceIte] <;> omega, by simp only [go_sem, ↓reduceIte], by simp only [go_sem, ↓reduceIte, hne, hp'], fun j hj hjb => ?_, hlp', by simp [hlq], hR.2.1, hwq.set _ (by show _ < 4294967296; omega), by rw [hrr]; exact Nat.mod_lt _ (by omega), ?_⟩
        · have : j ≠ bq := by omega
          simp only [go_sem, ↓reduceIte, this]
          rw [hfr' j (by omega) hjb, hfr j hj hjb]
        · rw [hxe]
          exact long_round hv t1 hrr hil

end Go.Proofs.YtopmghclhgihfaaGreatDoor

set_option linter.unusedVariables false
set_option linter.unusedSimpArgs false
set_option maxRecDepth 10000
namespace Go.Proofs.YtopmghclhgihfaaGreatDoor
open Go Go.Ab Go.Num

theorem c_div0 (a b : List Nat) (hb : Wd b) (hlb : b.length < 100000) (h0 : val b = 0) : PCalls Tryz.prog 118 [encW a, encW b] (.tup [.nilsl, .nilsl, .bool false]) := by
  refine pcalls_of_AW (pa := []) (fn := Tryz.f118) (ts := [4, 5, 6]) follows_mixed Tryz.func118 rfl rfl (by kernel_rfl) (by kernel_rfl) (by rw [Tryz.ntmps118]; simp) ?_
  simp only [go_sem, ↓reduceIte]
  refine callS_p (c_norm b hb (by omega)) ?_
  rw [h0, dig_zero]
  simp only [go_sem, ↓reduceIte, encW, cast0]
  exact .mk (by simp only [go_sem, ↓reduceIte])

set_option maxHeartbeats 4000000 in
set_option maxRecDepth 10000 in
theorem c_div (a b : List Nat) (ha : Wd a) (hb : Wd b) (hla : a.length < 100000) (hlb : b.length < 100000) (h0 : val b ≠ 0) : PCalls Tryz.prog 118 [encW a, encW b] (.tup [encW (dig (val a / val b)), encW (dig (val a % val b)), .bool true]) := by
  refine pcalls_of_AW (pa := []) (fn := Tryz.f118) (ts := [4, 5, 6]) follows_mixed Tryz.func118 rfl rfl (by kernel_rfl) (by kernel_rfl) (by rw [Tryz.ntmps118]; simp) ?_
  simp only [go_sem, ↓reduceIte]
  refine callS_p (c_norm b hb (by omega)) ?_
  have hlx := dig_len_val hb
  have nx := nrm_dig (val b)
  have hv : val b = val (dig (val b)) := (val_dig _).symm
  have hne : (dig (val b)).length ≠ 0 := fun h => h0 (dig_len0.1 h)
  rw [hv]
  rw [← hv]
  generalize hX : dig (val b) = x at *
  rw [hv] at h0 ⊢
  clear hX hv
  have hl0 := dec_false (show ¬ ((x.length : Nat) : Int) = 0 by omega)
  simp only [go_sem, ↓reduceIte, encW, beq_int, hl0]
  refine callS_p (c_ncmp a x ha nx.1 (by omega) (by omega)) ?_
  by_cases hlt : val a < val x
  · have hc := dec_true (cmpN_neg.2 hlt)
    simp only [go_sem, ↓reduceIte, encW, hc]
    refine callS_p (c_norm a ha (by omega)) ?_
    simp only [go_sem, ↓reduceIte, encW]
    exact .mk_le (u := .tup [.nilsl, encW (dig (val a)), .bool true]) (by simp only [go_sem, ↓reduceIte, encW]) (by
      rw [Nat.div_eq_of_lt hlt, Nat.mod_eq_of_lt hlt, dig_zero]
      exact AV.le_tup' (.cons (AV.le_nil 1) (.cons (AV.le_refl _) (.cons (AV.le_refl _) .nil))))
  · have hc := dec_false (fun h => hlt (cmpN_neg.1 h))
    by_cases h1 : x.length = 1
    · have h1' := dec_true (show ((x.length : Nat) : Int) = 1 by omega)
      have hl1 : ((0 : Int)) < (x.length : Nat) := by omega
      have hg := getD_w (a := x) (i := 0) (by omega) .undef
      have hx0 := nx.1.getD 0
      rw [B_eq] at hx0
      have hvx : val x = x.getD 0 0 := by
        match x, h1 with
        | [w], _ => simp [val]
      rw [hvx] at h0 hc ⊢
      simp only [go_sem, ↓reduceIte, encW, hc, beq_int, h1', hl1, hg, show (0 : Int).toNat = 0 from rfl]
      refine callS_p (c_qword a _ ha (by omega) hx0 h0) ?_
      have hr : val a % x.getD 0 0 < 18446744073709551616 := Nat.lt_trans (Nat.mod_lt _ (by omega)) (by omega)
      simp only [go_sem, ↓reduceIte, encW, wu64, Nat.mod_eq_of_lt hr]
      refine callS_p (c_of _ hr) ?_
      simp only [go_sem, ↓reduceIte, encW]
      exact .mk (by simp only [go_sem, ↓reduceIte, encW])
    · have h1' := dec_false (show ¬ ((x.length : Nat) : Int) = 1 by omega)
      have hxi := nx.1.getD (x.length - 1)
      rw [B_eq] at hxi
      have htop := nx.2 (fun e => hne (by rw [e]; rfl))
      have w1 : IntKind.i64.wrap ((x.length : Int) - 1) = ((x.length - 1 : Nat) : Int) := by rw [wrap64_id (by omega) (by omega)]; omega
      have hl1 : ((x.length - 1 : Nat) : Int) < (x.length : Nat) := by omega
      have hg := getD_w (a := x) (i := x.length - 1) (by omega) .undef
      have hb32 : blen (x.getD (x.length - 1) 0) ≤ 32 := blen_le.2 hxi
      simp only [go_sem, ↓reduceIte, encW, hc, beq_int, h1', w1, hl1, hg]
      refine callS_p (c_llen _ hxi) ?_
      obtain ⟨s, hs⟩ : ∃ s, s = 32 - blen (x.getD (x.length - 1) 0) := ⟨_, rfl⟩
      have w2 : IntKind.i64.wrap (32 - ((blen (x.getD (x.length - 1) 0) : Nat) : Int)) = (s : Nat) := by rw [wrap64_id (by omega) (by omega)]; omega
      have hs32 : s ≤ 32 := by omega
      clear hs
      have hB32 : (2 : Nat) ^ s < B ^ 2 := by rw [Bpow]; exact Nat.pow_lt_pow_right (by omega) (by omega)
      have hal : (dig (val a * 2 ^ s)).length ≤ a.length + 2 := by
        apply dig_len_le.2
        rw [Nat.pow_add]
        exact Nat.mul_lt_mul'' (val_lt ha) hB32
      have hxl : (dig (val x * 2 ^ s)).length ≤ x.length + 2 := by
        apply dig_len_le.2
        rw [Nat.pow_add]
        exact Nat.mul_lt_mul'' (val_lt nx.1) hB32
      have hps : 0 < 2 ^ s := Nat.pow_pos (show 0 < 2 by decide)
      have hle : val x * 2 ^ s ≤ val a * 2 ^ s := Nat.mul_le_mul_right _ (by omega)
      have hlen := dig_len_mono hle
      have hxge : x.length ≤ (dig (val x * 2 ^ s)).length := by
        have h1 : val x ≤ val x * 2 ^ s := Nat.le_mul_of_pos_right _ hps
        have h2 := dig_len_mono h1
        rw [dig_val nx] at h2; exact h2
      have hal2 : (dig (val a * 2 ^ s)).length ≤ 100002 := by omega
      clear hB32 hal hxl
      have hup1 := fun H N => c_up_h a s H N ha (show a.length < 900000 by omega) (show s ≤ 4096 by omega)
      have hup2 := c_up x s nx.1 (show x.length < 900000 by omega) (show s ≤ 4096 by omega)
      have hy := nrm_dig (val x * 2 ^ s)
      have hyv := val_dig (val x * 2 ^ s)
      have hzv := val_dig (val a * 2 ^ s)
      have hzw := wd_dig (val a * 2 ^ s)
      generalize dig (val x * 2 ^ s) = y at *
      generalize dig (val a * 2 ^ s) = z at *
      simp only [go_sem, ↓reduceIte, encW, w2]
      refine callS_h (hup1 _ _) ?_
      intro v h' n' hn hnew
      obtain ⟨bl, hv', hbl1, hbl2, hbl, hkeep⟩ := hnew.ex
      subst hv'
      clear hnew
      simp only [go_sem, ↓reduceIte] at hbl1 hn
      have e31 : bl ≠ 31 := by omega
      have e32 : bl ≠ 32 := by omega
      have h38 : z.length ≤ 274877906944 := by omega
      have hll : (wv z).length = z.length := wv_length _
      simp only [go_sem, ↓reduceIte, encW, hbl, h38, hll, e31, e32, e31.symm, e32.symm, List.take_of_length_le (Nat.le_of_eq hll)]
      refine callS_p hup2 ?_
      simp only [go_sem, ↓reduceIte, encW]
      have hyne : y ≠ [] := fun e => by have := hxge; rw [e, List.length_nil] at this; omega
      have hw0 : Wd (z ++ [0]) := hzw.append (.cons (by decide) .nil)
      have hv0 : val (z ++ [0]) = val a * 2 ^ s := by rw [val_append, hzv]; simp [val]
      have hl0' : (z ++ [0]).length = z.length + 1 := by simp
      have hlg : ∀ b H N, H b = some (wv (z ++ [0])) → b < N → HCalls Tryz.prog 140 [.own b 0 (z.length + 1) 1, encW y] H N (fun v h' n' => ∃ bq q r, v = .own bq 0 q.length 1 ∧ N ≤ bq ∧ bq < n' ∧ q.length = (z ++ [0]).length - y.length ∧ Wd q ∧ Wd r ∧ r.length = (z ++ [0]).length ∧ h' bq = some (wv q) ∧ h' b = some (wv r) ∧ val q = val (z ++ [0]) / val y ∧ val r = val (z ++ [0]) % val y ∧ ∀ j, j < N → j ≠ b → h' j = H j) := fun b H N e1 e2 => by
        rw [← hl0']
        refine c_long (z ++ [0]) b y H N e1 e2 hw0 hy.1 (by omega) (by omega) (by omega) (Nat.pos_of_ne_zero (hy.2 hyne)) ?_
        refine Nat.lt_of_lt_of_le (val_lt_zeros (j := y.length - 1) (hw0.drop _) fun k hk => ?_) (nrm_ge hy hyne)
        rw [getD_drop, hl0']
        by_cases hkz : z.length + 1 - y.length + k = z.length
        · rw [hkz]; simp [List.getD]
        · exact getD_of_ge (by rw [hl0']; omega)
      refine callS_h (hlg _ _ _ (by simp only [go_sem, ↓reduceIte, wv_append] <;> rfl) (by simp only [go_sem, ↓reduceIte] <;> omega)) ?_
      rintro v h2 n2 hn2 ⟨bq, q, r, rfl, hbq1, hbq2, hql, hqw, hrw, hrl, hbqv, hbrv, hqe, hre, hfr⟩
      rw [hv0, hyv] at hqe hre
      rw [Nat.mul_div_mul_right _ _ hps] at hqe
      rw [Nat.mul_mod_mul_right] at hre
      simp only [go_sem, ↓reduceIte] at hbq1 hn2
      have f32 : bq ≠ 32 := by omega
      simp only [go_sem, ↓reduceIte]
      refine callS_q (c_norm q hqw (by omega)) (args_words hbqv rfl) rfl ?_
      rw [hqe]
      simp only [go_sem, ↓reduceIte, encW]
      refine callS_q (c_down r s hrw (by omega) (by omega)) (args_wi (by simp only [go_sem, ↓reduceIte, f32, f32.symm, hbrv]) (by omega)) rfl ?_
      rw [hre, Nat.mul_div_cancel _ hps]
      simp only [go_sem, ↓reduceIte, encW]
      exact .mk (by simp only [go_sem, ↓reduceIte, encW])

end Go.Proofs.YtopmghclhgihfaaGreatDoor

set_option linter.unusedVariables false
set_option linter.unusedSimpArgs false
set_option maxRecDepth 10000
namespace Go.Proofs.YtopmghclhgihfaaGreatDoor
open Go Go.Ab Go.Num

set_option maxHeartbeats 1000000 in
theorem c_nsmall (a : List Nat) (ha : Wd a) (hl : a.length < 1000000) (hv : val a < 18446744073709551616) : PCalls Tryz.prog 137 [encW a] (.tup [.int .u64 (val a : Nat), .bool true]) := by
  refine pcalls_of_AW (pa := []) (fn := Tryz.f137) (ts := [2, 3]) follows_mixed Tryz.func137 rfl rfl (by kernel_rfl) (by kernel_rfl) (by rw [Tryz.ntmps137]; simp) ?_
  simp only [go_sem, ↓reduceIte]
  refine callS_p (c_trim a hl) ?_
  rw [encW_dig ha]
  have hlen : (dig (val a)).length ≤ 2 := dig_len_le.2 (by rw [Bpow]; exact hv)
  have hw := wd_dig (val a)
  have hvv := val_dig (val a)
  generalize dig (val a) = x at *
  rw [← hvv]
  have h2 := dec_false (show ¬ (2 : Int) < (x.length : Nat) by omega)
  simp only [go_sem, ↓reduceIte, encW, h2, AW_loop]
  match x, hlen, hw with
  | [], _, _ =>
    simp only [go_sem, ↓reduceIte, cast0]
    exact .mk (by simp only [go_sem, ↓reduceIte, val_nil] <;> rfl)
  | [w], _, hw =>
    have hw0 := hw w (by simp)
    rw [B_eq] at hw0
    have hm : w % 18446744073709551616 = w := Nat.mod_eq_of_lt (by omega)
    have ho : orI .u64 0 (w : Nat) = (w : Nat) := by rw [show (0 : Int) = ((0 : Nat) : Int) from rfl, or_u64 (by omega) (by omega), Nat.zero_or]
    simp only [go_sem, ↓reduceIte, cast1, wu64, hm, show (32 : Int) * 0 = 0 from rfl, show IntKind.i64.wrap 0 = 0 from wrap64_id (by omega) (by omega), show min (0 : Nat) 64 = 0 from rfl, show (2 : Int) ^ 0 = 1 from rfl, Int.mul_one, ho, show (0 : Int).toNat = 0 from rfl]
    rw [AW_inLoop]
    simp only [go_sem, ↓reduceIte, cast1, w01]
    exact .mk (by simp only [go_sem, ↓reduceIte, val_cons, val_nil] <;> rfl)
  | [w, z], _, hw =>
    have hw0 := hw w (by simp)
    have hz0 := hw z (by simp)
    rw [B_eq] at hw0 hz0
    have hm : w % 18446744073709551616 = w := Nat.mod_eq_of_lt (by omega)
    have hmz : z % 18446744073709551616 = z := Nat.mod_eq_of_lt (by omega)
    have hmz2 : z * 4294967296 % 18446744073709551616 = z * 4294967296 := Nat.mod_eq_of_lt (by omega)
    have ho : orI .u64 0 (w : Nat) = (w : Nat) := by rw [show (0 : Int) = ((0 : Nat) : Int) from rfl, or_u64 (by omega) (by omega), Nat.zero_or]
    have ho2 : orI .u64 (w : Nat) ((z * 4294967296 : Nat) : Int) = (w + z * 4294967296 : Nat) := by rw [or_u64 (by omega) (by omega), Nat.or_comm, or_hi z 32 hw0, Nat.add_comm]
    simp only [go_sem, ↓reduceIte, cast2, wu64, hm, show (32 : Int) * 0 = 0 from rfl, show IntKind.i64.wrap 0 = 0 from wrap64_id (by omega) (by omega), show min (0 : Nat) 64 = 0 from rfl, show (2 : Int) ^ 0 = 1 from rfl, Int.mul_one, ho, show (0 : Int).toNat = 0 from rfl]
    rw [AW_inLoop]
    simp only [go_sem, ↓reduceIte, cast2, w01, wu64, hmz, show (32 : Int) * 1 = 32 from rfl, show IntKind.i64.wrap 32 = 32 from wrap64_id (by omega) (by omega), toNat32, min32_64, mul32, hmz2, ho2, show (1 : Int).toNat = 1 from rfl]
    rw [AW_inLoop]
    simp only [go_sem, ↓reduceIte, cast2, w12]
    exact .mk (by simp only [go_sem, ↓reduceIte, val_cons, val_nil, B_eq, Nat.mul_zero, Nat.add_zero, Nat.mul_comm])

theorem c_small (x y : Nat) (hx : x < 18446744073709551616) (hy : y < 18446744073709551616) : PCalls Tryz.prog 138 [.int .u64 (x : Nat), .int .u64 (y : Nat)] (.int .u64 (Nat.gcd x y : Nat)) := by
  refine pcalls_of_AW (pa := []) (fn := Tryz.f138) (ts := [4]) follows_mixed Tryz.func138 rfl rfl (by kernel_rfl) (by kernel_rfl) (by rw [Tryz.ntmps138]; simp) ?_
  simp only [go_sem, ↓reduceIte]
  refine AW_while (fun m st => ∃ a, m < 18446744073709551616 ∧ a < 18446744073709551616 ∧ Nat.gcd a m = Nat.gcd x y ∧ st.τ 0 = .int .u64 (a : Nat) ∧ st.τ 1 = .int .u64 (m : Nat)) y ?_ ?_
  · exact ⟨x, hy, hx, rfl, by simp only [go_sem, ↓reduceIte], by simp only [go_sem, ↓reduceIte]⟩
  · rintro m st ⟨a, hm, ha, hg, h0, h1⟩ next
    rcases Nat.eq_zero_or_pos m with hm0 | hm0
    · subst hm0
      rw [Nat.gcd_zero_right] at hg
      simp only [go_sem, ↓reduceIte, h0, h1, cast0]
      exact .mk (by simp only [go_sem, ↓reduceIte, hg])
    · have hne : (((m : Nat) : Int) != 0) = true := by simp; omega
      have hne' : (((m : Nat) : Int) = 0) = False := eq_false (by omega)
      have hlt := Nat.mod_lt a hm0
      simp only [go_sem, ↓reduceIte, h0, h1, hne, hne', tmod_nat]
      exact next (a % m) _ hlt ⟨m, by omega, hm, by rw [Nat.gcd_comm m, ← Nat.gcd_rec, Nat.gcd_comm]; exact hg, by simp only [go_sem, ↓reduceIte], by simp only [go_sem, ↓reduceIte]⟩

set_option maxHeartbeats 2000000 in
theorem c_gcd (a b : List Nat) (ha : Wd a) (hb : Wd b) (hla : a.length < 100000) (hlb : b.length < 100000) : PCalls Tryz.prog 116 [encW a, encW b] (encW (dig (Nat.gcd (val a) (val b)))) := by
  refine pcalls_of_AW (pa := []) (fn := Tryz.f116) (ts := [4]) follows_mixed Tryz.func116 rfl rfl (by kernel_rfl) (by kernel_rfl) (by rw [Tryz.ntmps116]; simp) ?_
  simp only [go_sem, ↓reduceIte]
  refine callS_p (c_norm a ha (by omega)) ?_
  simp only [go_sem, ↓reduceIte]
  refine callS_p (c_norm b hb (by omega)) ?_
  simp only [go_sem, ↓reduceIte, encW]
  have hlx := dig_len_val ha
  have hly := dig_len_val hb
  refine AW_while (fun m st => ∃ x, (dig x).length < 100000 ∧ (dig m).length < 100000 ∧ Nat.gcd x m = Nat.gcd (val a) (val b) ∧ st.τ 0 = encW (dig x) ∧ st.τ 1 = encW (dig m)) (val b) ?_ ?_
  · exact ⟨val a, by omega, by omega, rfl, by simp only [go_sem, ↓reduceIte, encW], by simp only [go_sem, ↓reduceIte, encW]⟩
  · rintro m st ⟨x, hx, hm, hg, h0, h1⟩ next
    by_cases hl2 : 2 < (dig m).length
    · have hl2' := dec_true (show (2 : Int) < ((dig m).length : Nat) by omega)
      have hm0 : m ≠ 0 := fun e => by rw [e, dig_zero] at hl2; simp at hl2
      simp only [go_sem, ↓reduceIte, h0, h1, encW, hl2']
      have hd := c_div (dig x) (dig m) (wd_dig _) (wd_dig _) hx hm (by rw [val_dig]; exact hm0)
      rw [val_dig, val_dig] at hd
      refine callS_p hd ?_
      simp only [go_sem, ↓reduceIte, h0, h1, encW]
      have hlt := Nat.mod_lt x (Nat.pos_of_ne_zero hm0)
      exact next (x % m) _ hlt ⟨m, hm, by have := dig_len_mono (Nat.le_of_lt hlt); omega, by rw [Nat.gcd_comm m, ← Nat.gcd_rec, Nat.gcd_comm]; exact hg, by simp only [go_sem, ↓reduceIte, encW], by simp only [go_sem, ↓reduceIte, encW]⟩
    · have hl2' := dec_false (show ¬ (2 : Int) < ((dig m).length : Nat) by omega)
      by_cases hm0 : m = 0
      · subst hm0
        rw [Nat.gcd_zero_right] at hg
        rw [dig_zero] at h1 hl2'
        simp only [go_sem, ↓reduceIte, h0, h1, encW, cast0, show decide ((2 : Int) < 0) = false from rfl]
        exact .mk (by simp only [go_sem, ↓reduceIte, encW, hg])
      · have hz := dec_false (show ¬ (((dig m).length : Nat) : Int) = 0 from fun e => hm0 (dig_len0.1 (by omega)))
        have hm64 : m < 18446744073709551616 := by
          have := lt_dig m
          have h2 : B ^ (dig m).length ≤ B ^ 2 := Nat.pow_le_pow_right B_pos (by omega)
          rw [Bpow 2] at h2
          exact Nat.lt_of_lt_of_le this h2
        simp only [go_sem, ↓reduceIte, h0, h1, encW, hl2', beq_int, hz]
        have hd := c_div (dig x) (dig m) (wd_dig _) (wd_dig _) hx hm (by rw [val_dig]; exact hm0)
        rw [val_dig, val_dig] at hd
        refine callS_p hd ?_
        have hlt := Nat.mod_lt x (Nat.pos_of_ne_zero hm0)
        have hs1 := c_nsmall (dig m) (wd_dig _) (by omega) (by rw [val_dig]; exact hm64)
        have hs2 := c_nsmall (dig (x % m)) (wd_dig _) (by have := dig_len_mono (Nat.le_of_lt hlt); omega) (by rw [val_dig]; omega)
        rw [val_dig] at hs1 hs2
        simp only [go_sem, ↓reduceIte, h0, h1, encW]
        refine callS_p hs1 ?_
        simp only [go_sem, ↓reduceIte, h0, h1, encW]
        refine callS_p hs2 ?_
        simp only [go_sem, ↓reduceIte, h0, h1, encW]
        refine callS_p (c_small m (x % m) hm64 (by omega)) ?_
        have hgg : Nat.gcd m (x % m) = Nat.gcd (val a) (val b) := by rw [Nat.gcd_comm m, ← Nat.gcd_rec, Nat.gcd_comm]; exact hg
        have hg64 : Nat.gcd m (x % m) < 18446744073709551616 := Nat.lt_of_le_of_lt (Nat.gcd_le_left _ (Nat.pos_of_ne_zero hm0)) hm64
        simp only [go_sem, ↓reduceIte, h0, h1, encW]
        refine callS_p (c_of _ hg64) ?_
        rw [hgg]
        simp only [go_sem, ↓reduceIte, encW]
        exact .mk (by simp only [go_sem, ↓reduceIte, encW])

theorem c_one (n : Nat) (hl : (dig n).length < 1000000) : PCalls Tryz.prog 117 [encW (dig n)] (.bool (decide (n = 1))) := by
  refine pcalls_of_AW (pa := []) (fn := Tryz.f117) (ts := [2]) follows_mixed Tryz.func117 rfl rfl (by kernel_rfl) (by kernel_rfl) (by rw [Tryz.ntmps117]; simp) ?_
  by_cases h : (dig n).length = 1
  · have h' := dec_true (show (((dig n).length : Nat) : Int) = 1 by omega)
    have hl0 : (0 : Int) < ((dig n).length : Nat) := by omega
    have hg := getD_w (a := dig n) (i := 0) (by omega) .undef
    have hv : (dig n).getD 0 0 = n := by
      have := val_dig n
      match hd : dig n, h with
      | [w], _ => rw [hd] at this; simp [val] at this; simpa using this
    rw [hv] at hg
    have he : (((n : Nat) : Int) = 1) = (n = 1) := propext (by omega)
    simp only [go_sem, ↓reduceIte, encW, beq_int, h', hl0, show (0 : Int).toNat = 0 from rfl, hg, he]
    exact .mk (by simp only [go_sem, ↓reduceIte])
  · have h' := dec_false (show ¬ (((dig n).length : Nat) : Int) = 1 by omega)
    have hn : ¬ n = 1 := fun e => h (by rw [e, dig_one (by omega) (by decide)]; rfl)
    simp only [go_sem, ↓reduceIte, encW, beq_int, h']
    exact .mk (by simp only [go_sem, ↓reduceIte, dec_false hn])

set_option maxHeartbeats 2000000 in
theorem c_cancel2 (a b : List Nat) (ha : Wd a) (hb : Wd b) (hla : a.length < 100000) (hlb : b.length < 100000) (h0 : val b ≠ 0) :
    PCalls Tryz.prog 94 [encW a, encW b] (.tup [encW (dig (val a / Nat.gcd (val a) (val b))), encW (dig (val b / Nat.gcd (val a) (val b)))]) := by
  refine pcalls_of_AW (pa := []) (fn := Tryz.f94) (ts := [4, 5]) follows_mixed Tryz.func94 rfl rfl (by kernel_rfl) (by kernel_rfl) (by rw [Tryz.ntmps94]; simp) ?_
  simp only [go_sem, ↓reduceIte]
  refine callS_p (c_gcd a b ha hb hla hlb) ?_
  have hg0 : Nat.gcd (val a) (val b) ≠ 0 := fun e => h0 (Nat.gcd_eq_zero_iff.1 e).2
  have hgl : (dig (Nat.gcd (val a) (val b))).length < 100000 := by
    have := dig_len_mono (Nat.gcd_le_right (val a) (Nat.pos_of_ne_zero h0))
    have := dig_len_val hb
    omega
  generalize hg : Nat.gcd (val a) (val b) = g at *
  have hz := dec_false (show ¬ (((dig g).length : Nat) : Int) = 0 from fun e => hg0 (dig_len0.1 (by omega)))
  simp only [go_sem, ↓reduceIte, encW, beq_int, hz]
  refine callS_p (c_one g (by omega)) ?_
  by_cases h1 : g = 1
  · subst h1
    simp only [go_sem, ↓reduceIte, encW]
    refine callS_p (c_norm a ha (by omega)) ?_
    simp only [go_sem, ↓reduceIte, encW]
    refine callS_p (c_norm b hb (by omega)) ?_
    simp only [go_sem, ↓reduceIte, encW]
    exact .mk (by simp only [go_sem, ↓reduceIte, encW, Nat.div_one])
  · have hd1 := c_div a (dig g) ha (wd_dig _) hla hgl (by rw [val_dig]; exact hg0)
    have hd2 := c_div b (dig g) hb (wd_dig _) hlb hgl (by rw [val_dig]; exact hg0)
    rw [val_dig] at hd1 hd2
    simp only [go_sem, ↓reduceIte, encW, dec_false h1]
    refine callS_p hd1 ?_
    simp only [go_sem, ↓reduceIte, encW]
    refine callS_p hd2 ?_
    simp only [go_sem, ↓reduceIte, encW]
    exact .mk (by simp only [go_sem, ↓reduceIte, encW])

end Go.Proofs.YtopmghclhgihfaaGreatDoor
