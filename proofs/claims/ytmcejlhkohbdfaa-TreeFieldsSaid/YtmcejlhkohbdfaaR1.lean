/-
  For every input TreeTells returns true, and its arguments read behind the call as they read before. No condition.
-/
import Derived.Test.YtmcejlhkohbdfaaRows
import Derived.Test.YtmcejlhkohbdfaaT15
import Derived.Test.YtmcejlhkohbdfaaAb12
set_option linter.unusedVariables false
set_option linter.unusedSimpArgs false
namespace Go.Proofs.Ytmcejlhkohbdfaa
open Go.ChangeShapes Go.WideShapes Go.ChangeAt Go.RowKit Go.Ab

theorem Try.own : ownKnob Try.prog.godebug = none := by kernel_rfl
theorem Try.laidOut : laidOutB Try.prog = true := by kernel_rfl

theorem readsW (W : World) : Reads Try.prog W 39 (fun l : List Nat => AV.sl 1 (l.map fun x : Nat => .int .u32 (x : Int))) (fun l => ∀ a ∈ l, a < 4294967296) :=
  reads_slice (reads_u32 Try.underlying72 (cellsOf_eq ts_72)) Try.underlying39 (cellsOf_eq ts_72) (by omega) (cellsOf_eq ts_39)
theorem readsN (W : World) : Reads Try.prog W 59 encN (fun x => Num.Wd x.n) :=
  reads_struct3 Try.underlying59 (cellsOf_eq ts_59) rfl rfl rfl (cellsOf_eq ts_3) (cellsOf_eq ts_3) (cellsOf_eq ts_39)
    (reads_int Try.underlying3 (cellsOf_eq ts_3)) (reads_int Try.underlying3 (cellsOf_eq ts_3)) (readsW W) (fun _ => rfl) (fun _ => rfl) (fun _ => rfl) Nd.mk encN _ (fun _ _ _ => rfl) (fun _ _ _ _ _ h => h)
theorem readsC (W : World) : Reads Try.prog W 22 encC (fun c => ∀ x ∈ c, Num.Wd x.n) :=
  reads_slice (readsN W) Try.underlying22 (cellsOf_eq ts_59) (by omega) (cellsOf_eq ts_22)

set_option maxRecDepth 100000 in
theorem treeTells_lifted (os : Os) (started : os.Started) (H : Type) (enc : TypeId × Value → H) :
    ReturnsInHanded {} Try.checked os 3 .any (Rows.treeTellsSpec.pre6 enc Try.prog Try.f3 Rows.treeTellsRow.domain false) (Rows.treeTellsSpec.post enc Try.prog Try.f3 false true false false) := by
  refine returnsInHanded_of_change (C := Try.checked) Try.own started (by kernel_rfl) Try.func3
    (ChangeSpec.witness6 (enc := enc) (C := Try.checked) false ⟨#[], #[.slice none 0 0, .int .i64 0], []⟩ 8 (by kernel_rfl) (by kernel_rfl) (by kernel_rfl) (by kernel_rfl)) ?_
  intro W base args ds gs before hval0 hW hcnd _
  have hval : ∀ (j : Nat) t v, Try.f3.params[j]? = some t → args[j]? = some v → Value.okWide Try.prog W .any base t v := hval0
  have hW' := hW
  have hlt := hW.lt
  obtain ⟨p, q, hA0, hV, rfl, hfz, hnd⟩ := hW
  have hA : DataW.TrodAll enc Try.prog W 0 (fun _ => true) true Try.f3.params.toList args.toList ds p := hA0
  rw [Try.params3] at hA hval
  obtain ⟨v0, v1, d0, d1, p0, p1, rfl, rfl, rfl, h0, h1⟩ := trodAll_two hA
  obtain ⟨rfl, rfl⟩ := trodVars_none hV
  obtain ⟨sa, sl, sc, rfl⟩ := okWide_slice Try.underlying22 (hval 0 _ v0 rfl rfl)
  obtain ⟨c, hgood, hrel⟩ := reads_arg (readsC W) (fun _ => rfl) rfl h0
  obtain ⟨b, rfl, rfl, rfl, wb⟩ := open_int Try.underlying3 (hval 1 _ v1 rfl rfl) h1
  clear hA0 hval0
  simp only [List.append_nil] at hW' hlt
  have hargs : AllRel (heapI W) M0 [encC c, .int .i64 b] #[.slice sa sl sc, .int .i64 b] := ⟨rfl, fun i x v hx hv => by
    match i with
    | 0 => simp at hx hv; subst hx; subst hv; exact .pure _ _ hrel
    | 1 => simp at hx hv; subst hx; subst hv; exact .pure _ _ (.int _ _)
    | i + 2 => simp at hx⟩
  refine ((c_tells c b hgood).2 (heapI W) W _ (fun _ _ h => h) hargs).mono fun e W' ⟨cv, I', he, _, _, hv, hbel, _⟩ => ?_
  subst he
  cases hv
  exact ⟨_, rfl, post_below (pa := p0) (pv := []) hW' (fun _ _ _ => trodAll_mk1 (shut_bool Try.underlying4 true))
    (fun sp hs => by
      have := trodAll_mk2 (arg_kept Try.laidOut (by kernel_rfl) (of_decide_eq_true (by kernel_rfl)) h0 hbel hlt sp hs) (shut_int (enc := enc) (w := W') (base := 0) (spare := sp) (held := true) Try.underlying3 wb)
      rw [List.append_nil] at this
      exact this) (fun _ _ => rfl) (by simp) hbel (ok_one (by kernel_rfl) rfl (okWide_bool_mk Try.underlying4 true))⟩

theorem treeTells_holds : Rows.TreeTellsSaid :=
  OpenClaim.holds_of_wide 3 Try.f3 rfl rfl rfl rfl rfl rfl rfl ⟨rfl, rfl, rfl, rfl, rfl⟩ rfl rfl rfl rfl rfl (by kernel_rfl) Try.func3 (by kernel_rfl)
    (of_decide_eq_true (by kernel_rfl)) (by unfold Func.isWrapper; rw [if_neg (by decide +kernel)]; exact ⟨rfl, rfl⟩)
    (fun os started H enc _ => treeTells_lifted os started H enc)

end Go.Proofs.Ytmcejlhkohbdfaa
