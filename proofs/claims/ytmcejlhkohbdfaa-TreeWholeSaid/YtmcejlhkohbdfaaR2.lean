/-
  For every input TreeWhole returns true, and its argument reads behind the call as it read before. No condition.
-/
import Derived.Test.YtmcejlhkohbdfaaR1
import Derived.Test.YtmcejlhkohbdfaaT16
set_option linter.unusedVariables false
set_option linter.unusedSimpArgs false
namespace Go.Proofs.Ytmcejlhkohbdfaa
open Go.ChangeShapes Go.WideShapes Go.ChangeAt Go.RowKit Go.Ab

set_option maxRecDepth 100000 in
theorem treeWhole_lifted (os : Os) (started : os.Started) (H : Type) (enc : TypeId × Value → H) :
    ReturnsInHanded {} Try.checked os 4 .any (Rows.treeWholeSpec.pre6 enc Try.prog Try.f4 Rows.treeWholeRow.domain false) (Rows.treeWholeSpec.post enc Try.prog Try.f4 false true false false) := by
  refine returnsInHanded_of_change (C := Try.checked) Try.own started (by kernel_rfl) Try.func4
    (ChangeSpec.witness6 (enc := enc) (C := Try.checked) false ⟨#[], #[.slice none 0 0], []⟩ 8 (by kernel_rfl) (by kernel_rfl) (by kernel_rfl) (by kernel_rfl)) ?_
  intro W base args ds gs before hval0 hW hcnd _
  have hval : ∀ (j : Nat) t v, Try.f4.params[j]? = some t → args[j]? = some v → Value.okWide Try.prog W .any base t v := hval0
  have hW' := hW
  have hlt := hW.lt
  obtain ⟨p, q, hA0, hV, rfl, hfz, hnd⟩ := hW
  have hA : DataW.TrodAll enc Try.prog W 0 (fun _ => true) true Try.f4.params.toList args.toList ds p := hA0
  rw [Try.params4] at hA hval
  obtain ⟨v0, d0, rfl, rfl, h0⟩ := trodAll_one hA
  obtain ⟨rfl, rfl⟩ := trodVars_none hV
  obtain ⟨sa, sl, sc, rfl⟩ := okWide_slice Try.underlying22 (hval 0 _ v0 rfl rfl)
  obtain ⟨c, hgood, hrel⟩ := reads_arg (readsC W) (fun _ => rfl) rfl h0
  clear hA0 hval0
  simp only [List.append_nil] at hW' hlt
  have hargs : AllRel (heapI W) M0 [encC c] #[.slice sa sl sc] := ⟨rfl, fun i x v hx hv => by
    match i with
    | 0 => simp at hx hv; subst hx; subst hv; exact .pure _ _ hrel
    | i + 1 => simp at hx⟩
  refine ((c_whole c hgood).2 (heapI W) W _ (fun _ _ h => h) hargs).mono fun e W' ⟨cv, I', he, _, _, hv, hbel, _⟩ => ?_
  subst he
  cases hv
  exact ⟨_, rfl, post_below (pa := p) (pv := []) hW' (fun _ _ _ => trodAll_mk1 (shut_bool Try.underlying4 true))
    (fun sp hs => trodAll_mk1 (arg_kept Try.laidOut (by kernel_rfl) (of_decide_eq_true (by kernel_rfl)) h0 hbel hlt sp hs)) (fun _ _ => rfl) (by simp) hbel (ok_one (by kernel_rfl) rfl (okWide_bool_mk Try.underlying4 true))⟩

theorem treeWhole_holds : Rows.TreeWholeSaid :=
  OpenClaim.holds_of_wide 4 Try.f4 rfl rfl rfl rfl rfl rfl rfl ⟨rfl, rfl, rfl, rfl, rfl⟩ rfl rfl rfl rfl rfl (by kernel_rfl) Try.func4 (by kernel_rfl)
    (of_decide_eq_true (by kernel_rfl)) (by unfold Func.isWrapper; rw [if_neg (by decide +kernel)]; exact ⟨rfl, rfl⟩)
    (fun os started H enc _ => treeWhole_lifted os started H enc)

end Go.Proofs.Ytmcejlhkohbdfaa
