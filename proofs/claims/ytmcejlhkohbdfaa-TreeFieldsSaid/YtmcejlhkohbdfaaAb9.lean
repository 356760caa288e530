/- Slices that a loop builds by append. -/
import Derived.Test.YtmcejlhkohbdfaaAb8
set_option linter.unusedVariables false
set_option linter.unusedSimpArgs false
namespace Go.Ab

/-- Elements of 'e' cells, written as values. -/
def Elt {α : Type} (e : Nat) (enc : α → AV) : Prop :=
  0 < e ∧ ∀ x, ∃ cs, (enc x).cells? = some cs ∧ cs.length = e ∧ cs.all (·.flat1) = true ∧ enc x = if e = 1 then cs.headD .undef else .agg cs

def flatC {α : Type} (enc : α → AV) (l : List α) : List AV := l.flatMap fun x => ((enc x).cells?).getD []

section
variable {α : Type} {e : Nat} {enc : α → AV}
theorem cellsD_map {α : Type} (enc : α → AV) (l : List α) : (l.map enc).flatMap cellsD = flatC enc l := by simp only [List.flatMap_map, flatC]; rfl
theorem flatC_nil : flatC enc [] = [] := rfl
theorem flatC_snoc (l : List α) (x : α) : flatC enc (l ++ [x]) = flatC enc l ++ ((enc x).cells?).getD [] := by simp [flatC]
theorem flatC_length (he : Elt e enc) (l : List α) : (flatC enc l).length = l.length * e := by
  induction l with
  | nil => simp [flatC]
  | cons x l ih =>
    obtain ⟨cs, h1, h2, _⟩ := he.2 x
    simp only [flatC, List.flatMap_cons, h1, Option.getD_some, List.length_append, h2, List.length_cons, Nat.succ_mul] at ih ⊢
    omega
theorem flatC_flat (he : Elt e enc) (l : List α) : (flatC enc l).all (·.flat1) = true := by
  induction l with
  | nil => rfl
  | cons x l ih =>
    obtain ⟨cs, h1, h2, h3, _⟩ := he.2 x
    simp only [flatC, List.flatMap_cons, h1, Option.getD_some, List.all_append, h3, Bool.true_and] at ih ⊢
    exact ih
theorem chunk_flatC (he : Elt e enc) (l : List α) (rest : List AV) : chunk e l.length (flatC enc l ++ rest) = l.map enc := by
  induction l with
  | nil => rfl
  | cons x l ih =>
    obtain ⟨cs, h1, h2, h3, h4⟩ := he.2 x
    have hpos := he.1
    have hf : flatC enc (x :: l) = cs ++ flatC enc l := by simp [flatC, h1]
    simp only [hf, List.length_cons, chunk, List.map_cons, List.append_assoc]
    have hd : (cs ++ (flatC enc l ++ rest)).drop e = flatC enc l ++ rest := by rw [← h2]; simp
    have ht : (cs ++ (flatC enc l ++ rest)).take e = cs := by rw [← h2]; simp
    rw [hd, ih, ht, h4]
    congr 1
    by_cases h5 : e = 1
    · rw [if_pos h5, if_pos h5]
      cases cs with
      | nil => simp at h2; omega
      | cons c cs => rfl
    · rw [if_neg h5, if_neg h5]

/-- What an own slice that holds some elements is, as a value. -/
theorem frz1_flatC (he : Elt e enc) {h : Heap} {b : Nat} {l : List α} (hb : h b = some (flatC enc l)) : frz1 h (.own b 0 l.length e) = .sl e (l.map enc) := by
  have hc : cut (flatC enc l) 0 (l.length * e) = flatC enc l := by
    unfold cut
    rw [List.drop_zero, List.take_of_length_le (by rw [flatC_length he]; exact Nat.le_refl _)]
  simp only [frz1, hb]
  rw [if_pos ⟨by rw [flatC_length he]; omega, he.1, by rw [hc]; exact flatC_flat he l⟩, hc]
  have := chunk_flatC he l []
  rw [List.append_nil] at this
  rw [this]

/-- A slice that is nil, or an own one that holds some elements. -/
def Acc (e : Nat) (enc : α → AV) (st : ASt) (v : AV) (l : List α) : Prop := (l = [] ∧ v = .nilsl) ∨ ∃ b, v = .own b 0 l.length e ∧ st.h b = some (flatC enc l) ∧ b < st.n

theorem Acc.ret (he : Elt e enc) {st : ASt} {t : Nat} {l : List α} (h : Acc e enc st (st.τ t) l) : Ret [t] (.sl e (l.map enc)) st := by
  unfold Ret
  simp only [resV]
  rcases h with ⟨rfl, h⟩ | ⟨b, h1, h2, _⟩
  · rw [h]; exact AV.le_nil e
  · rw [h1]; exact AV.le_of_eq (frz1_flatC he h2)
end

theorem take_snoc {α : Type} {l : List α} {i : Nat} (h : i < l.length) : l.take (i + 1) = l.take i ++ [l[i]] := by
  rw [List.take_succ_eq_append_getElem h]
end Go.Ab
