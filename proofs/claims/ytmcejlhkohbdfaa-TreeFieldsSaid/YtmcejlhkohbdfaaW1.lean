/- Naturals as lists of words, the lowest first. No program in sight. -/
import Derived.Test.YtmcejlhkohbdfaaAb9
set_option linter.unusedVariables false
set_option linter.unusedSimpArgs false
namespace Go.Num

def B : Nat := 4294967296
theorem B_pos : 0 < B := by decide
def val : List Nat → Nat
  | [] => 0
  | w :: r => w + B * val r
/-- Words alone. -/
def Wd (a : List Nat) : Prop := ∀ w ∈ a, w < B
theorem Wd.nil : Wd [] := fun w h => by simp at h
theorem Wd.cons {w : Nat} {a : List Nat} (h : w < B) (ha : Wd a) : Wd (w :: a) := fun x hx => by rcases List.mem_cons.1 hx with rfl | hx; exact h; exact ha x hx
theorem Wd.append {a b : List Nat} (ha : Wd a) (hb : Wd b) : Wd (a ++ b) := fun x hx => (List.mem_append.1 hx).elim (ha x) (hb x)
theorem Wd.take {a : List Nat} (h : Wd a) (n : Nat) : Wd (a.take n) := fun x hx => h x (List.mem_of_mem_take hx)
theorem Wd.drop {a : List Nat} (h : Wd a) (n : Nat) : Wd (a.drop n) := fun x hx => h x (List.mem_of_mem_drop hx)
theorem Wd.tail {w : Nat} {a : List Nat} (h : Wd (w :: a)) : Wd a := fun x hx => h x (by simp [hx])
theorem Wd.getD {a : List Nat} (h : Wd a) (i : Nat) : a.getD i 0 < B := by
  by_cases hi : i < a.length
  · simp only [List.getD, List.getElem?_eq_getElem hi, Option.getD_some]; exact h _ (List.getElem_mem hi)
  · simp only [List.getD, List.getElem?_eq_none (Nat.le_of_not_lt hi), Option.getD_none]; exact B_pos

theorem val_append (a b : List Nat) : val (a ++ b) = val a + B ^ a.length * val b := by
  induction a with
  | nil => simp [val]
  | cons w a ih =>
    simp only [List.cons_append, val, ih, List.length_cons, Nat.pow_succ, Nat.mul_add]
    rw [← Nat.mul_assoc, Nat.mul_comm B (B ^ a.length)]; omega
theorem val_lt {a : List Nat} (h : Wd a) : val a < B ^ a.length := by
  induction a with
  | nil => simp [val]
  | cons w a ih =>
    have h1 := ih h.tail
    have h2 := h w (by simp)
    simp only [val, List.length_cons, Nat.pow_succ]
    have h3 : B * (val a + 1) ≤ B * B ^ a.length := Nat.mul_le_mul_left _ h1
    rw [Nat.mul_comm (B ^ a.length)]
    rw [Nat.mul_add, Nat.mul_one] at h3
    omega
theorem val_take_succ (a : List Nat) (j : Nat) : val (a.take (j + 1)) = val (a.take j) + B ^ j * a.getD j 0 := by
  by_cases hj : j < a.length
  · rw [List.take_succ_eq_append_getElem hj, val_append]
    simp [val, List.getD, hj, Nat.min_eq_left (Nat.le_of_lt hj)]
  · rw [List.take_of_length_le (by omega), List.take_of_length_le (by omega)]
    simp [List.getD, List.getElem?_eq_none (Nat.le_of_not_lt hj)]
theorem val_take_ge (a : List Nat) {j : Nat} (h : a.length ≤ j) : val (a.take j) = val a := by rw [List.take_of_length_le h]
theorem val_take_lt {a : List Nat} (h : Wd a) (j : Nat) : val (a.take j) < B ^ j := by
  have := val_lt (h.take j)
  exact Nat.lt_of_lt_of_le this (Nat.pow_le_pow_right B_pos (by simp; omega))

/-- Words that are alike from a place on. -/
theorem val_lt_of {a b : List Nat} (ha : Wd a) (j : Nat) (hlt : a.getD j 0 < b.getD j 0) (n : Nat) (hn : j + 1 ≤ n) (h : ∀ k, j < k → k < n → a.getD k 0 = b.getD k 0) : val (a.take n) < val (b.take n) := by
  induction hn with
  | refl =>
    rw [val_take_succ, val_take_succ]
    have h1 := val_take_lt ha j
    have h2 : B ^ j * (a.getD j 0 + 1) ≤ B ^ j * b.getD j 0 := Nat.mul_le_mul_left _ hlt
    rw [Nat.mul_add, Nat.mul_one] at h2
    omega
  | @step n hn ih =>
    have hn : j + 1 ≤ n := hn
    rw [val_take_succ, val_take_succ, h n (by omega) (by omega)]
    have := ih fun k h1 h2 => h k h1 (by omega)
    omega
theorem val_eq_of {a b : List Nat} (n : Nat) (h : ∀ k, k < n → a.getD k 0 = b.getD k 0) : val (a.take n) = val (b.take n) := by
  induction n with
  | zero => simp
  | succ n ih => rw [val_take_succ, val_take_succ, h n (by omega), ih fun k hk => h k (by omega)]

/-- Which of two is the greater one. -/
def cmpN (x y : Nat) : Int := if x < y then -1 else if y < x then 1 else 0
theorem cmpN_lt {x y : Nat} (h : x < y) : cmpN x y = -1 := if_pos h
theorem cmpN_gt {x y : Nat} (h : y < x) : cmpN x y = 1 := by unfold cmpN; rw [if_neg (by omega), if_pos h]
theorem cmpN_eq {x y : Nat} (h : x = y) : cmpN x y = 0 := by unfold cmpN; rw [if_neg (by omega), if_neg (by omega)]
theorem cmpN_zero {x y : Nat} : cmpN x y = 0 ↔ x = y := by unfold cmpN; split <;> (try split) <;> omega

/-- A list without the noughts at its end. -/
def trim (a : List Nat) : List Nat := (a.reverse.dropWhile (· == 0)).reverse
theorem trim_nil : trim [] = [] := rfl
theorem trim_snoc0 (a : List Nat) : trim (a ++ [0]) = trim a := by simp [trim]
theorem trim_snoc (a : List Nat) {w : Nat} (h : w ≠ 0) : trim (a ++ [w]) = a ++ [w] := by simp [trim, List.dropWhile_cons, h]
theorem snoc_cases (a : List Nat) : a = [] ∨ ∃ b w, a = b ++ [w] := by
  rcases List.eq_nil_or_concat a with h | ⟨b, w, h⟩
  · exact .inl h
  · exact .inr ⟨b, w, by simpa using h⟩
theorem trim_take (a : List Nat) : ∃ n, n ≤ a.length ∧ trim a = a.take n ∧ (∀ k, n ≤ k → a.getD k 0 = 0) ∧ (0 < n → a.getD (n - 1) 0 ≠ 0) := by
  induction hn : a.length generalizing a with
  | zero => rw [List.length_eq_zero_iff] at hn; subst hn; exact ⟨0, by simp, rfl, by simp, by simp⟩
  | succ n ih =>
    rcases snoc_cases a with rfl | ⟨b, w, rfl⟩
    · simp at hn
    · simp at hn
      by_cases hw : w = 0
      · subst hw
        obtain ⟨m, h1, h2, h3, h4⟩ := ih b hn
        refine ⟨m, by omega, ?_, ?_, ?_⟩
        · rw [trim_snoc0, h2, List.take_append_of_le_length (by omega)]
        · intro k hk
          by_cases hb : k < b.length
          · have := h3 k hk
            simp only [List.getD, List.getElem?_append_left hb] at this ⊢; exact this
          · simp only [List.getD, List.getElem?_append_right (Nat.le_of_not_lt hb)]
            cases k - b.length <;> simp
        · intro h0
          have := h4 h0
          simp only [List.getD, List.getElem?_append_left (show m - 1 < b.length by omega)] at this ⊢; exact this
      · refine ⟨n + 1, by omega, ?_, ?_, ?_⟩
        · rw [trim_snoc _ hw, List.take_of_length_le (by simp; omega)]
        · intro k hk
          simp only [List.getD]
          rw [List.getElem?_eq_none (by simp; omega)]; rfl
        · intro _
          simp only [List.getD, Nat.add_sub_cancel]
          rw [List.getElem?_append_right (by omega), hn]; simpa using hw
theorem val_trim (a : List Nat) : val (trim a) = val a := by
  obtain ⟨n, h1, h2, h3, h4⟩ := trim_take a
  rw [h2]
  have key : ∀ m, n ≤ m → val (a.take m) = val (a.take n) := fun m hm => by
    induction hm with
    | refl => rfl
    | @step m hm ih => rw [val_take_succ, h3 m hm, ih]; simp
  rw [← key a.length h1, List.take_length]
theorem Wd.trim {a : List Nat} (h : Wd a) : Wd (trim a) := by
  obtain ⟨n, h1, h2, _⟩ := trim_take a
  rw [h2]; exact h.take n

/-- Words without noughts at the end. -/
def Nrm (a : List Nat) : Prop := Wd a ∧ (a ≠ [] → a.getD (a.length - 1) 0 ≠ 0)
theorem nrm_trim {a : List Nat} (h : Wd a) : Nrm (Num.trim a) := by
  refine ⟨h.trim, fun hne => ?_⟩
  obtain ⟨n, h1, h2, h3, h4⟩ := trim_take a
  rw [h2] at hne ⊢
  have hl : (a.take n).length = n := by simp; omega
  have hn : 0 < n := by rcases n with _ | n; simp at hne; omega
  rw [hl]
  have := h4 hn
  simp only [List.getD] at this ⊢
  rw [List.getElem?_take_of_lt (by omega)]; exact this
theorem nrm_ge {a : List Nat} (h : Nrm a) (hne : a ≠ []) : B ^ (a.length - 1) ≤ val a := by
  have h1 := h.2 hne
  have hl : 0 < a.length := List.length_pos_iff.2 hne
  have h2 := val_take_succ a (a.length - 1)
  rw [show a.length - 1 + 1 = a.length by omega, List.take_length] at h2
  rw [h2]
  have : B ^ (a.length - 1) * 1 ≤ B ^ (a.length - 1) * a.getD (a.length - 1) 0 := Nat.mul_le_mul_left _ (by omega)
  omega
theorem nrm_lt {a b : List Nat} (ha : Nrm a) (hb : Nrm b) (h : a.length < b.length) : val a < val b := by
  have h1 := val_lt ha.1
  have h2 := nrm_ge hb (by intro h0; rw [h0] at h; simp at h)
  have h3 : B ^ a.length ≤ B ^ (b.length - 1) := Nat.pow_le_pow_right B_pos (by omega)
  omega
theorem wd_inj {a b : List Nat} (ha : Wd a) (hb : Wd b) (hl : a.length = b.length) (h : val a = val b) : a = b := by
  induction a generalizing b with
  | nil => cases b with | nil => rfl | cons => simp at hl
  | cons w a ih =>
    cases b with
    | nil => simp at hl
    | cons x b =>
      simp only [val] at h
      have h1 := ha w (by simp)
      have h2 := hb x (by simp)
      have e1 : (w + B * val a) % B = w := by rw [Nat.add_mul_mod_self_left, Nat.mod_eq_of_lt h1]
      have e2 : (x + B * val b) % B = x := by rw [Nat.add_mul_mod_self_left, Nat.mod_eq_of_lt h2]
      have hx : w = x := by rw [← e1, ← e2, h]
      subst hx
      have : B * val a = B * val b := by omega
      rw [ih ha.tail hb.tail (by simpa using hl) (Nat.eq_of_mul_eq_mul_left B_pos this)]
theorem nrm_inj {a b : List Nat} (ha : Nrm a) (hb : Nrm b) (h : val a = val b) : a = b := by
  rcases Nat.lt_trichotomy a.length b.length with hl | hl | hl
  · have := nrm_lt ha hb hl; omega
  · exact wd_inj ha.1 hb.1 hl h
  · have := nrm_lt hb ha hl; omega
end Go.Num
