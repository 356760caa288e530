/- A call with arguments that say more. -/
import Derived.Test.YtmcejlhkohbdfaaAb9
set_option linter.unusedVariables false
set_option linter.unusedSimpArgs false
namespace Go.Ab
open Go.RowKit

theorem PRel.of_M0 {I : Imm} {x : AV} {v : Value} (h : VRel I M0 x v) : PRel I x v := by
  induction h with
  | pure x v h => exact h
  | own b off len e B sz A cap hm => cases hm
  | ownG b off len e A cap hm => cases hm
  | ptr b off A sz hm => cases hm
  | ptrG b off A hm => cases hm
  | agg cs vs h1 _ ih => exact .agg cs vs h1 ih
  | tup cs vs h1 _ ih => exact .tup cs vs h1 ih
  | func f cap vs h1 _ ih => exact .func f cap vs h1 ih

def LeL (a b : List AV) : Prop := a.length = b.length ∧ ∀ (i : Nat) x y, a[i]? = some x → b[i]? = some y → x.le y
theorem LeL.nil : LeL [] [] := ⟨rfl, fun i x y h => by simp at h⟩
theorem LeL.cons {x y : AV} {a b : List AV} (h : x.le y) (hr : LeL a b) : LeL (x :: a) (y :: b) := ⟨by simp [hr.1], fun i u v hu hv => by
  cases i with
  | zero => simp at hu hv; subst hu; subst hv; exact h
  | succ i => simp at hu hv; exact hr.2 i u v hu hv⟩
theorem LeL.refl (a : List AV) : LeL a a := ⟨rfl, fun i x y hx hy => by rw [hx] at hy; cases hy; exact AV.le_refl x⟩

theorem PCalls.args_le {P : Program} {f : FuncId} {a b : List AV} {v : AV} (h : PCalls P f b v) (hle : LeL a b) : PCalls P f a v :=
  ⟨h.1, fun I w cargs hi ha => h.2 I w cargs hi ⟨by rw [ha.1, hle.1], fun i y u hy hu => (by
    have hi : i < a.length := by have := (List.getElem?_eq_some_iff.1 hy).1; rw [hle.1]; exact this
    exact .pure _ _ (hle.2 i a[i] y (List.getElem?_eq_getElem hi) hy I u (PRel.of_M0 (ha.2 i a[i] u (List.getElem?_eq_getElem hi) hu))))⟩⟩

theorem AV.le_agg' {a b : List AV} (h : LeL a b) : (AV.agg a).le (.agg b) := AV.le_agg h.1 h.2
theorem AV.le_tup' {a b : List AV} (h : LeL a b) : (AV.tup a).le (.tup b) := AV.le_tup h.1 h.2

/-- Slices, element by element. -/
theorem AV.le_sl {e : Nat} {a b : List AV} (hl : a.length = b.length) (h : ∀ (i : Nat) x y, a[i]? = some x → b[i]? = some y → ∃ cs ds, x.cells? = some cs ∧ y.cells? = some ds ∧ LeL cs ds ∧ ds.all (·.single) = true) : (AV.sl e a).le (.sl e b) := fun I v hv => by
  cases hv with
  | sl0 e a' cap =>
    cases b with
    | nil => exact .sl0 _ _ _
    | cons y b => simp at hl
  | sl e l A n cap c el fr h1 h2 h3 h4 h5 h6 h7 h8 =>
    refine .sl _ _ A n cap c el fr (fun hb => h1 (by rw [hb] at hl; exact List.length_eq_zero_iff.1 hl)) (by omega) h3 h4 h5 h6 (fun i y hy => ?_) (fun i y ds j u w hy hds hu hw => ?_)
    · have hi : i < a.length := by have := (List.getElem?_eq_some_iff.1 hy).1; omega
      obtain ⟨cs, ds, g1, g2, g3, g4⟩ := h i a[i] y (List.getElem?_eq_getElem hi) hy
      obtain ⟨cs', k1, k2, k3⟩ := h7 i a[i] (List.getElem?_eq_getElem hi)
      rw [g1] at k1; cases k1
      exact ⟨ds, g2, by rw [← g3.1]; exact k2, g4⟩
    · have hi : i < a.length := by have := (List.getElem?_eq_some_iff.1 hy).1; omega
      obtain ⟨cs, ds', g1, g2, g3, g4⟩ := h i a[i] y (List.getElem?_eq_getElem hi) hy
      rw [g2] at hds; cases hds
      have hj : j < cs.length := by have := (List.getElem?_eq_some_iff.1 hu).1; rw [g3.1]; exact this
      exact g3.2 j cs[j] u (List.getElem?_eq_getElem hj) hu I w (h8 i a[i] cs j cs[j] w (List.getElem?_eq_getElem hi) g1 (List.getElem?_eq_getElem hj) hw)
end Go.Ab
