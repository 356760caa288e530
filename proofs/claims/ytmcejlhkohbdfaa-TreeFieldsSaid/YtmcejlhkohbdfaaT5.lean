/- Trees, and the lists of nodes that are one. No program in sight. -/
import Derived.Test.YtmcejlhkohbdfaaT4
set_option linter.unusedVariables false
set_option linter.unusedSimpArgs false
namespace Go.Proofs.Ytmcejlhkohbdfaa
open Go Go.Ab

inductive Tr where
  | leaf (x : Nd)
  | un (x : Nd) (a : Tr)
  | bin (x : Nd) (a b : Tr)

namespace Tr
def flat : Tr → List Nd
  | leaf x => [x]
  | un x a => a.flat ++ [x]
  | bin x a b => a.flat ++ (b.flat ++ [x])
def ok : Tr → Prop
  | leaf x => arity x.op = 0
  | un x a => arity x.op = 1 ∧ a.ok
  | bin x a b => arity x.op = 2 ∧ a.ok ∧ b.ok
def depth : Tr → Nat
  | leaf _ => 1
  | un _ a => a.depth + 1
  | bin _ a b => max a.depth b.depth + 1
def kids : Tr → List Tr
  | leaf _ => []
  | un _ a => [a]
  | bin _ a b => [a, b]
def root : Tr → Nd
  | leaf x => x
  | un x _ => x
  | bin x _ _ => x
/-- All but the last node. -/
def front : Tr → List Nd
  | leaf _ => []
  | un _ a => a.flat
  | bin _ a b => a.flat ++ b.flat
theorem flat_eq (t : Tr) : t.flat = t.front ++ [t.root] := by cases t <;> simp [flat, front, root]
theorem flat_pos (t : Tr) : 0 < t.flat.length := by rw [flat_eq]; simp
theorem depth_pos (t : Tr) : 0 < t.depth := by cases t <;> simp [depth]
theorem depth_le (t : Tr) : t.depth ≤ t.flat.length := by
  induction t with
  | leaf x => simp [depth, flat]
  | un x a ih => simp only [depth, flat, List.length_append, List.length_singleton]; omega
  | bin x a b iha ihb => simp only [depth, flat, List.length_append, List.length_singleton]; omega
theorem arity_root {t : Tr} (h : t.ok) : arity t.root.op = t.kids.length := by cases t <;> simp_all [ok, root, kids]
theorem front_kids (t : Tr) : t.front = t.kids.flatMap flat := by cases t <;> simp [front, kids]
theorem kids_ok {t : Tr} (h : t.ok) : ∀ a ∈ t.kids, a.ok := by cases t <;> simp_all [ok, kids]
end Tr

/-- Nodes, one after the other, onto a stack of trees. -/
def stk : List Nd → List Tr → Option (List Tr)
  | [], s => some s
  | x :: r, s =>
    if arity x.op = 0 then stk r (.leaf x :: s)
    else if arity x.op = 1 then match s with
      | a :: s => stk r (.un x a :: s)
      | [] => none
    else if arity x.op = 2 then match s with
      | b :: a :: s => stk r (.bin x a b :: s)
      | _ => none
    else none

theorem stk_flat {t : Tr} (h : t.ok) (r : List Nd) (s : List Tr) : stk (t.flat ++ r) s = stk r (t :: s) := by
  induction t generalizing r s with
  | leaf x => simp only [Tr.ok] at h; simp only [Tr.flat, List.cons_append, List.nil_append, stk]; rw [if_pos h]
  | un x a ih =>
    simp only [Tr.flat, List.append_assoc]
    rw [ih h.2]
    simp only [List.cons_append, List.nil_append, stk]
    rw [if_neg (by rw [h.1]; decide), if_pos h.1]
  | bin x a b iha ihb =>
    simp only [Tr.flat, List.append_assoc]
    rw [iha h.2.1, ihb h.2.2]
    simp only [List.cons_append, List.nil_append, stk]
    rw [if_neg (by rw [h.1]; decide), if_neg (by rw [h.1]; decide), if_pos h.1]

/-- What lies on the stack, in the text's order. -/
def flatS (s : List Tr) : List Nd := s.reverse.flatMap Tr.flat
theorem flatS_cons (t : Tr) (s : List Tr) : flatS (t :: s) = flatS s ++ t.flat := by simp [flatS]

theorem stk_sound : ∀ (c : List Nd) (s s' : List Tr), stk c s = some s' → (∀ t ∈ s, t.ok) → (∀ t ∈ s', t.ok) ∧ flatS s' = flatS s ++ c
  | [], s, s', h, hs => by simp only [stk, Option.some.injEq] at h; subst h; exact ⟨hs, by simp⟩
  | x :: r, s, s', h, hs => by
    simp only [stk] at h
    split at h
    · rename_i h0
      obtain ⟨h1, h2⟩ := stk_sound r _ s' h (by simp only [List.mem_cons, forall_eq_or_imp]; exact ⟨h0, hs⟩)
      exact ⟨h1, by rw [h2, flatS_cons]; simp [Tr.flat]⟩
    · split at h
      · rename_i h1
        split at h
        · rename_i a s
          obtain ⟨g1, g2⟩ := stk_sound r _ s' h (by
            simp only [List.mem_cons, forall_eq_or_imp] at hs ⊢; exact ⟨⟨h1, hs.1⟩, hs.2⟩)
          exact ⟨g1, by rw [g2, flatS_cons, flatS_cons]; simp [Tr.flat]⟩
        · simp at h
      · split at h
        · rename_i h1
          split at h
          · rename_i b a s
            obtain ⟨g1, g2⟩ := stk_sound r _ s' h (by
              simp only [List.mem_cons, forall_eq_or_imp] at hs ⊢; exact ⟨⟨h1, hs.2.1, hs.1⟩, hs.2.2⟩)
            exact ⟨g1, by rw [g2, flatS_cons, flatS_cons, flatS_cons]; simp [Tr.flat]⟩
          · simp at h
        · simp at h

theorem wr_flat {t : Tr} (h : t.ok) (tot : Nat) (r : List Nd) (o : Int) (ho : 0 ≤ o) (i : Nat) : wr tot (t.flat ++ r) o i = wr tot r (o + 1) (i + t.flat.length) := by
  induction t generalizing r o i with
  | leaf x => simp only [Tr.ok] at h; simp only [Tr.flat, List.cons_append, List.nil_append, wr, h]; rw [if_neg (by omega)]; rfl
  | un x a ih =>
    simp only [Tr.flat, List.append_assoc]
    rw [ih h.2 _ _ ho]
    simp only [List.cons_append, List.nil_append, wr, h.1]
    rw [if_neg (by omega)]; simp [Nat.add_assoc]
  | bin x a b iha ihb =>
    simp only [Tr.flat, List.append_assoc]
    rw [iha h.2.1 _ _ ho, ihb h.2.2 _ _ (by omega)]
    simp only [List.cons_append, List.nil_append, wr, h.1]
    rw [if_neg (by omega)]
    have e1 : o + 1 + 1 + (1 - 2) = o + 1 := by omega
    rw [e1]; simp [Nat.add_assoc]

theorem wrong_flat {t : Tr} (h : t.ok) : wrong t.flat = -1 := by
  have := wr_flat h t.flat.length [] 0 (by omega) 0
  rw [List.append_nil] at this
  unfold wrong
  rw [this]; simp [wr]

theorem wr_stk (tot : Nat) : ∀ (c : List Nd) (s : List Tr) (i : Nat), wr tot c s.length i < 0 → ∃ t, stk c s = some [t]
  | [], s, i, h => by
    simp only [wr] at h
    split at h
    · rename_i h1
      match s, h1 with
      | [t], _ => exact ⟨t, rfl⟩
      | [], h1 => simp at h1
      | a :: b :: s, h1 => simp at h1; omega
    · omega
  | x :: r, s, i, h => by
    simp only [wr] at h
    split at h
    · omega
    · rename_i h1
      obtain ⟨b1, b2⟩ := arity_bd x.op
      simp only [stk]
      by_cases e0 : arity x.op = 0
      · rw [if_pos e0]
        exact wr_stk tot r (.leaf x :: s) (i + 1) (by rw [e0] at h; simpa using h)
      · rw [if_neg e0]
        by_cases e1 : arity x.op = 1
        · rw [if_pos e1]
          rw [e1] at h h1
          match s with
          | [] => simp at h1
          | a :: s => exact wr_stk tot r (.un x a :: s) (i + 1) (by simpa using h)
        · have e2 : arity x.op = 2 := by omega
          rw [if_neg e1, if_pos e2]
          rw [e2] at h h1
          match s with
          | [] => simp at h1
          | [a] => simp at h1
          | b :: a :: s => exact wr_stk tot r (.bin x a b :: s) (i + 1) (by
              simp only [List.length_cons] at h ⊢
              have e3 : ((s.length + 1 + 1 : Nat) : Int) + (1 - 2) = ((s.length + 1 : Nat) : Int) := by omega
              rw [e3] at h; exact h)

/-- Nodes that are an expression are a tree's. -/
theorem parse {c : List Nd} (h : wrong c < 0) : ∃ t : Tr, t.ok ∧ t.flat = c := by
  obtain ⟨t, ht⟩ := wr_stk c.length c [] 0 h
  obtain ⟨h1, h2⟩ := stk_sound c [] [t] ht (by simp)
  exact ⟨t, h1 t (by simp), by simpa [flatS] using h2⟩
theorem wrong_nil : wrong [] = 0 := rfl
theorem wrong_ge (c : List Nd) : wrong c = -1 ∨ 0 ≤ wrong c := by
  by_cases h : wrong c < 0
  · obtain ⟨t, h1, rfl⟩ := parse h; exact .inl (wrong_flat h1)
  · exact .inr (by omega)

end Go.Proofs.Ytmcejlhkohbdfaa
