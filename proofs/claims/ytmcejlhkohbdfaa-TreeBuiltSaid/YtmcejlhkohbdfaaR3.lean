/-
  For every input TreeBuilt returns true, and its arguments read behind the call as they read before. No condition.
-/
import Derived.Test.YtmcejlhkohbdfaaR1
import Derived.Test.YtmcejlhkohbdfaaT17
set_option linter.unusedVariables false
set_option linter.unusedSimpArgs false
namespace Go.Proofs.Ytmcejlhkohbdfaa
open Go.ChangeShapes Go.WideShapes Go.ChangeAt Go.RowKit Go.Ab

set_option maxRecDepth 100000 in
theorem treeBuilt_lifted (os : Os) (started : os.Started) (H : Type) (enc : TypeId × Value → H) :
    ReturnsInHanded {} Try.checked os 5 .any (Rows.treeBuiltSpec.pre6 enc Try.prog Try.f5 Rows.treeBuiltRow.domain false) (Rows.treeBuiltSpec.post enc Try.prog Try.f5 false true false false) := by
  refine returnsInHanded_of_change (C := Try.checked) Try.own started (by kernel_rfl) Try.func5
    (ChangeSpec.witness6 (enc := enc) (C := Try.checked) false ⟨#[], #[.slice none 0 0, .slice none 0 0, .int .i64 0], []⟩ 8 (by kernel_rfl) (by kernel_rfl) (by kernel_rfl) (by kernel_rfl)) ?_
  intro W base args ds gs before hval0 hW hcnd _
  have hval : ∀ (j : Nat) t v, Try.f5.params[j]? = some t → args[j]? = some v → Value.okWide Try.prog W .any base t v := hval0
  have hW' := hW
  have hlt := hW.lt
  obtain ⟨p, q, hA0, hV, rfl, hfz, hnd⟩ := hW
  have hA : DataW.TrodAll enc Try.prog W 0 (fun _ => true) true Try.f5.params.toList args.toList ds p := hA0
  rw [Try.params5] at hA hval
  obtain ⟨v0, v1, v2, d0, d1, d2, p0, p1, p2, rfl, rfl, rfl, h0, h1, h2⟩ := trodAll_three hA
  obtain ⟨rfl, rfl⟩ := trodVars_none hV
  obtain ⟨sa, sl, sc, rfl⟩ := okWide_slice Try.underlying22 (hval 0 _ v0 rfl rfl)
  obtain ⟨c, hgood, hrel⟩ := reads_arg (readsC W) (fun _ => rfl) rfl h0
  obtain ⟨sa', sl', sc', rfl⟩ := okWide_slice Try.underlying22 (hval 1 _ v1 rfl rfl)
  obtain ⟨c', hgood', hrel'⟩ := reads_arg (readsC W) (fun _ => rfl) rfl h1
  obtain ⟨b, rfl, rfl, rfl, wb⟩ := open_int Try.underlying3 (hval 2 _ v2 rfl rfl) h2
  clear hA0 hval0
  simp only [List.append_nil] at hW' hlt
  have hargs : AllRel (heapI W) M0 [encC c, encC c', .int .i64 b] #[.slice sa sl sc, .slice sa' sl' sc', .int .i64 b] := ⟨rfl, fun i x v hx hv => by
    match i with
    | 0 => simp at hx hv; subst hx; subst hv; exact .pure _ _ hrel
    | 1 => simp at hx hv; subst hx; subst hv; exact .pure _ _ hrel'
    | 2 => simp at hx hv; subst hx; subst hv; exact .pure _ _ (.int _ _)
    | i + 3 => simp at hx⟩
  refine ((c_built c c' b hgood hgood').2 (heapI W) W _ (fun _ _ h => h) hargs).mono fun e W' ⟨cv, I', he, _, _, hv, hbel, _⟩ => ?_
  subst he
  cases hv
  exact ⟨_, rfl, post_below (pa := p0 ++ p1) (pv := []) hW' (fun _ _ _ => trodAll_mk1 (shut_bool Try.underlying4 true))
    (fun sp hs => by
      have := trodAll_mk3 (arg_kept Try.laidOut (by kernel_rfl) (of_decide_eq_true (by kernel_rfl)) h0 hbel (fun x hx => hlt x (by simp [hx])) sp (fun x hx => hs x (by simp [hx]))) (arg_kept Try.laidOut (by kernel_rfl) (of_decide_eq_true (by kernel_rfl)) h1 hbel (fun x hx => hlt x (by simp [hx])) sp (fun x hx => hs x (by simp [hx]))) (shut_int (enc := enc) (w := W') (base := 0) (spare := sp) (held := true) Try.underlying3 wb)
      rw [List.append_nil] at this
      exact this) (fun _ _ => rfl) (by simp) hbel (ok_one (by kernel_rfl) rfl (okWide_bool_mk Try.underlying4 true))⟩

theorem treeBuilt_holds : Rows.TreeBuiltSaid :=
  OpenClaim.holds_of_wide 5 Try.f5 rfl rfl rfl rfl rfl rfl rfl ⟨rfl, rfl, rfl, rfl, rfl⟩ rfl rfl rfl rfl rfl (by kernel_rfl) Try.func5 (by kernel_rfl)
    (of_decide_eq_true (by kernel_rfl)) (by unfold Func.isWrapper; rw [if_neg (by decide +kernel)]; exact ⟨rfl, rfl⟩)
    (fun os started H enc _ => treeBuilt_lifted os started H enc)

end Go.Proofs.Ytmcejlhkohbdfaa
