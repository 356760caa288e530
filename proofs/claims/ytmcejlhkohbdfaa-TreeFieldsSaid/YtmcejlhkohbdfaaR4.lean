/-
  For every input TreeFields returns true, and its arguments read behind the call as they read before. No condition.
-/
import Derived.Test.YtmcejlhkohbdfaaR1
import Derived.Test.YtmcejlhkohbdfaaT21
import Derived.Test.YtmcejlhkohbdfaaAb14
set_option linter.unusedVariables false
set_option linter.unusedSimpArgs false
namespace Go.Proofs.Ytmcejlhkohbdfaa
open Go.ChangeShapes Go.WideShapes Go.ChangeAt Go.RowKit Go.Ab

theorem readsLt (W : World) : Reads Try.prog W 69 encL (fun x => ∀ y ∈ x.code, Num.Wd y.n) :=
  (readsC_st (Qs := [QR (fun s => .str s) (fun s => s.size ≤ maxLen), QR encC (fun c => ∀ x ∈ c, Num.Wd x.n)]) Try.underlying69 (by kernel_rfl)
    ⟨(reads_string Try.underlying9 (cellsOf_eq ts_9)).toC, (readsC W).toC, trivial⟩).toReads encL _ (by
    rintro ys ⟨a, b, rfl, ⟨s, _, hs⟩, c, d, rfl, ⟨l, hl, hc⟩, rfl⟩
    cases hs; cases hc
    exact ⟨⟨s, l⟩, hl, rfl⟩)
theorem readsFld (W : World) : ReadsC Try.prog W 47 (QR encF wdF) := fun H enc base sp held fuel cs x h => by
  obtain ⟨ys, ⟨a, b, rfl, ⟨l, hl, ha⟩, c, d, rfl, ⟨o, ho, hc⟩, rfl⟩, hr⟩ := readsC_st (P := Try.prog) (w := W) (Qs := [QR (fun l : List Lt => .sl 2 (l.map encL)) (fun l => ∀ x ∈ l, ∀ y ∈ x.code, Num.Wd y.n), QR (fun l : List (List Nd) => .sl 1 (l.map encC)) (fun l => ∀ c ∈ l, ∀ x ∈ c, Num.Wd x.n)]) Try.underlying47 (by kernel_rfl)
    ⟨(reads_slice (readsLt W) Try.underlying45 (cellsOf_eq ts_69) (by omega) (cellsOf_eq ts_45)).toC,
     (reads_slice (readsC W) Try.underlying34 (cellsOf_eq ts_22) (by omega) (cellsOf_eq ts_34)).toC, trivial⟩ H enc base sp held fuel cs x h
  cases ha; cases hc
  refine ⟨_, ⟨⟨l, o⟩, fun c hc => ?_, rfl⟩, hr⟩
  rcases List.mem_append.1 hc with hc | hc
  · obtain ⟨x, hx, rfl⟩ := List.mem_map.1 hc
    exact hl x hx
  · exact ho c hc

set_option maxRecDepth 100000 in
theorem treeFields_lifted (os : Os) (started : os.Started) (H : Type) (enc : TypeId × Value → H) :
    ReturnsInHanded {} Try.checked os 6 .any (Rows.treeFieldsSpec.pre6 enc Try.prog Try.f6 Rows.treeFieldsRow.domain false) (Rows.treeFieldsSpec.post enc Try.prog Try.f6 false true false false) := by
  refine returnsInHanded_of_change (C := Try.checked) Try.own started (by kernel_rfl) Try.func6
    (ChangeSpec.witness6 (enc := enc) (C := Try.checked) false ⟨#[], #[.agg #[.slice none 0 0, .slice none 0 0], .agg #[.slice none 0 0, .slice none 0 0]], []⟩ 8 (by kernel_rfl) (by kernel_rfl) (by kernel_rfl) (by kernel_rfl)) ?_
  intro W base args ds gs before hval0 hW hcnd _
  have hval : ∀ (j : Nat) t v, Try.f6.params[j]? = some t → args[j]? = some v → Value.okWide Try.prog W .any base t v := hval0
  have hW' := hW
  have hlt := hW.lt
  obtain ⟨p, q, hA0, hV, rfl, hfz, hnd⟩ := hW
  have hA : DataW.TrodAll enc Try.prog W 0 (fun _ => true) true Try.f6.params.toList args.toList ds p := hA0
  obtain ⟨rfl, rfl⟩ := trodVars_none hV
  simp only [List.append_nil] at hW' hlt
  have hkeep := fun W' hbel sp hs => trodAll_kept (W' := W') Try.laidOut hbel sp (ts := Try.f6.params.toList) (by kernel_rfl) hA hlt hs
  rw [Try.params6] at hA hval
  obtain ⟨v0, v1, d0, d1, p0, p1, rfl, rfl, rfl, h0, h1⟩ := trodAll_two hA
  obtain ⟨cs0, rfl, _⟩ := okWide_struct Try.underlying47 (hval 0 _ v0 rfl rfl)
  obtain ⟨cs1, rfl, _⟩ := okWide_struct Try.underlying47 (hval 1 _ v1 rfl rfl)
  obtain ⟨ys0, ⟨f, hf, e0⟩, r0⟩ := arg_agg (readsFld W) h0
  obtain ⟨ys1, ⟨g, hg, e1⟩, r1⟩ := arg_agg (readsFld W) h1
  cases e0
  cases e1
  have hargs : AllRel (heapI W) M0 [encF f, encF g] #[.agg cs0, .agg cs1] := ⟨rfl, fun i x v hx hv => by
    match i with
    | 0 => simp at hx hv; subst hx; subst hv; exact .pure _ _ r0
    | 1 => simp at hx hv; subst hx; subst hv; exact .pure _ _ r1
    | i + 2 => simp at hx⟩
  refine ((c_fields f g hf hg).2 (heapI W) W _ (fun _ _ h => h) hargs).mono fun e W' ⟨cv, I', he, _, _, hv, hbel, _⟩ => ?_
  subst he
  cases hv
  exact ⟨_, rfl, post_below (pa := p0 ++ p1) (pv := []) hW' (fun _ _ _ => trodAll_mk1 (shut_bool Try.underlying4 true))
    (fun sp hs => hkeep W' hbel sp hs) (fun _ _ => rfl) (by simp) hbel (ok_one (by kernel_rfl) rfl (okWide_bool_mk Try.underlying4 true))⟩

theorem treeFields_holds : Rows.TreeFieldsSaid :=
  OpenClaim.holds_of_wide 6 Try.f6 rfl rfl rfl rfl rfl rfl rfl ⟨rfl, rfl, rfl, rfl, rfl⟩ rfl rfl rfl rfl rfl (by kernel_rfl) Try.func6 (by kernel_rfl)
    (of_decide_eq_true (by kernel_rfl)) (by unfold Func.isWrapper; rw [if_neg (by decide +kernel)]; exact ⟨rfl, rfl⟩)
    (fun os started H enc _ => treeFields_lifted os started H enc)

end Go.Proofs.Ytmcejlhkohbdfaa
