/-
  For every input PullPush returns true, and its arguments read behind the call as they read before; the tables of Go's library that its row lists are tied to the program's text (the card). No condition.
-/
import Derived.Test.YtopmghclhgihfaaGreatDoorZ6
import Derived.Test.YtopmghclhgihfaaGreatDoorCards
import Derived.Test.YtopmghclhgihfaaGreatDoorTie
import Derived.LaidMore
import Derived.Lay
import Derived.SevenTiedAt
import Derived.Stop.Joined
set_option linter.unusedVariables false
set_option linter.unusedSimpArgs false
set_option maxRecDepth 10000
namespace Go.Proofs.YtopmghclhgihfaaGreatDoor
open Go.ChangeShapes Go.WideShapes Go.ChangeAt Go.RowKit Go.Ab Go.Num

theorem Tryz.ownPullPush : ownKnob Tryz.prog.godebug = none := by kernel_rfl
theorem Tryz.laidOutPullPush : laidOutB Tryz.prog = true := by kernel_rfl

set_option maxRecDepth 100000 in
theorem pullPush_lifted (os : Os) (started : os.Started) (H : Type) (enc : TypeId × Value → H) :
    ReturnsInHanded {} Tryz.checked os 4 .any (fun w args => (Rows.pullPushSpec.pre enc Tryz.prog Tryz.f4 Rows.pullPushRow.domain false w args ∧ laidMetH Tryz.prog Rows.pullPushRow.laid w) ∧ sizedMet enc Tryz.prog Tryz.f4 (OpenSpec.ofChange Rows.pullPushSpec) false w args)
      (Rows.pullPushSpec.post enc Tryz.prog Tryz.f4 false true false false) := by
  refine returnsInHanded_of_change_and (C := Tryz.checked) (X := fun w _ => laidMetH Tryz.prog Rows.pullPushRow.laid w) (fun _ _ _ hh h => h.of_heap hh) Tryz.ownPullPush started (by kernel_rfl) Tryz.func4
    (ChangeSpec.witness_shaped (enc := enc) (C := Tryz.checked) (os := os) (X := fun w _ => laidMetH Tryz.prog Rows.pullPushRow.laid w) false (World.laidAll Tryz.prog os Rows.pullPushRow.laid) #[.agg #[.slice none 0 0, .slice none 0 0, .int .i64 0, .int .i64 0], .agg #[.bool false, .slice none 0 0, .slice none 0 0, .slice none 0 0, .slice none 0 0, .bool false, .slice none 0 0, .slice none 0 0, .slice none 0 0, .slice none 0 0, .int .i64 0], .slice none 0 0] 8 (World.laidAll_os _ _ _)
      (World.shaped_of_ZipB (by kernel_rfl) (by kernel_rfl)) (by kernel_rfl) (by kernel_rfl) (by kernel_rfl)
      (by rw [MakeChecks.laidMetH_plain _ _ _ (by kernel_rfl)]; exact laidMet_laidAll _ (by kernel_rfl) (by kernel_rfl))) ?_
  intro W base args ds gs before hval0 hW hcnd _ hL _
  have hval : ∀ (j : Nat) t v, Tryz.f4.params[j]? = some t → args[j]? = some v → Value.okWide Tryz.prog W .any base t v := hval0
  have hW' := hW
  have hlt := hW.lt
  obtain ⟨p, q, hA0, hV, rfl, hfz, hnd⟩ := hW
  have hA : DataW.TrodAll enc Tryz.prog W 0 (fun _ => true) true Tryz.f4.params.toList args.toList ds p := hA0
  obtain ⟨rfl, rfl⟩ := trodVars_none hV
  simp only [List.append_nil] at hW' hlt
  have hkeep := fun W' hbel sp hs => trodAll_kept (W' := W') Tryz.laidOutPullPush hbel sp (ts := Tryz.f4.params.toList) (by kernel_rfl) hA hlt hs
  rw [Tryz.params4] at hA hval
  obtain ⟨v0, v1, v2, d0, d1, d2, p0, p1, p2, rfl, rfl, rfl, h0, h1, h2⟩ := trodAll_three hA
  obtain ⟨cs0, rfl, _⟩ := okWide_struct Tryz.underlying25 (hval 0 _ v0 rfl rfl)
  obtain ⟨ys0, ⟨t, k0, e0⟩, r0⟩ := arg_agg (readsTp W) h0
  cases e0
  obtain ⟨cs1, rfl, _⟩ := okWide_struct Tryz.underlying33 (hval 1 _ v1 rfl rfl)
  obtain ⟨ys1, ⟨w, k1, e1⟩, r1⟩ := arg_agg (readsWay W) h1
  cases e1
  obtain ⟨sa2, sl2, sc2, rfl⟩ := okWide_slice Tryz.underlying29 (hval 2 _ v2 rfl rfl)
  obtain ⟨c, k2, r2⟩ := reads_arg (readsFrs W) (fun _ => rfl) rfl h2
  have hargs : AllRel (heapI W) M0 [encT t, encWay w.1 w.2.1 w.2.2, .sl 3 (c.map encR)] #[.agg cs0, .agg cs1, .slice sa2 sl2 sc2] := ⟨rfl, fun i x v hx hv => by
    match i with
    | 0 => simp at hx hv; subst hx; subst hv; exact .pure _ _ r0
    | 1 => simp at hx hv; subst hx; subst hv; exact .pure _ _ r1
    | 2 => simp at hx hv; subst hx; subst hv; exact .pure _ _ r2
    | i + 3 => simp at hx⟩
  refine ((c_pp t w.1 w.2.1 w.2.2 c k0 k1.1 k1.2 k2).2 (heapI W) W _ (fun _ _ h => h) hargs).mono fun e W' ⟨cv, I', he, _, _, hv, hbel, _⟩ => ?_
  subst he
  cases hv
  exact ⟨_, rfl, post_below (pv := []) hW' (fun _ _ _ => trodAll_mk1 (shut_bool Tryz.underlying4 true))
    (fun sp hs => hkeep W' hbel sp hs) (fun _ _ => rfl) (by simp) hbel (ok_one (by kernel_rfl) rfl (okWide_bool_mk Tryz.underlying4 true))⟩

theorem pullPush_row : Rows.PullPushSaid :=
  OpenClaim.holds_of_wide 4 Tryz.f4 rfl rfl rfl rfl rfl rfl rfl ⟨rfl, rfl, rfl, rfl, rfl⟩ rfl rfl rfl rfl rfl (by kernel_rfl) Tryz.func4 (by kernel_rfl)
    (of_decide_eq_true (by kernel_rfl)) (by unfold Func.isWrapper; rw [if_neg (by decide +kernel)]; exact ⟨rfl, rfl⟩)
    (fun os started H enc _ => pullPush_lifted os started H enc)
theorem pullPush_holds : Rows.PullPushCardSaid :=
  Claim7.holds_tied_plain_at .later [] [.data, .pinned] true (true, "f5645b6c60808ae5e63b0321baa6e70ca1fcdfc8dc03b02005ec1e011e94f0e6") false pullPush_row (fun _ h => by cases h) (by kernel_rfl) (fun _ h => by cases h) pullPush_row_tie rfl ⟨rfl, rfl⟩ (by kernel_rfl) rfl
    (fun f fn hf hfn => by
      obtain rfl : f = 4 := Option.some.inj ((show Tryz.prog.funcNamed "retrospect/retrospectlaw28.PullPush" = some 4 by kernel_rfl).symm.trans hf) |>.symm
      obtain rfl : fn = Tryz.f4 := (Option.some.inj (Tryz.func4.symm.trans hfn)).symm
      exact ⟨by kernel_rfl, fun j t ht => by
        rw [Tryz.params4] at ht
        have hm : t ∈ [25, 33, 29] := by simpa using Array.mem_of_getElem? ht
        have hall : ([25, 33, 29].all fun u => !Tryz.prog.wantsStandIn u) = true := by kernel_rfl
        exact (show Tryz.prog.wantsStandIn t = false by simpa using List.all_eq_true.1 hall t hm)⟩)
    (by kernel_rfl)
end Go.Proofs.YtopmghclhgihfaaGreatDoor
