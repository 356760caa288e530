/- Arguments that can be read as data, as values of the abstract machine. -/
import Derived.Test.YtmcejlhkohbdfaaAb10
import Derived.ProofKit
import Derived.Deep.Strs
set_option linter.unusedVariables false
set_option linter.unusedSimpArgs false
namespace Go.Ab
open Go.RowKit

def heapI (w : World) : Imm := fun b => w.heap[b]?

/-- What can be read at type 't' is what 'f' makes of something good. -/
def Reads (P : Program) (w : World) (t : TypeId) {α : Type} (f : α → AV) (good : α → Prop) : Prop :=
  ∀ (H : Type) (enc : TypeId × Value → H) (base : Nat) (sp : Nat → Bool) (held : Bool) (fuel : Nat) (cs : List Value) (x : DataW H × List MemPlace), DataW.trod enc P w base sp held fuel t cs = some x →
    ∃ a ys, good a ∧ (f a).cells? = some ys ∧ ys.length = cs.length ∧ cs.length = P.cellsOf t ∧ ys.all (·.single) = true ∧ ∀ (j : Nat) y v, ys[j]? = some y → cs[j]? = some v → PRel (heapI w) y v

section
variable {P : Program} {w : World}

theorem rel_one {y : AV} {v : Value} (h : PRel (heapI w) y v) : ∀ (j : Nat) y' v', [y][j]? = some y' → [v][j]? = some v' → PRel (heapI w) y' v' := fun j y' v' h1 h2 => by
  cases j with
  | zero => simp at h1 h2; subst h1; subst h2; exact h
  | succ j => simp at h1

theorem reads_int {t : TypeId} {k : IntKind} (ht : P.underlying t = some (.int k)) (hc : P.cellsOf t = 1) : Reads P w t (fun n : Int => .int k n) (fun n => (Lit.int k n).wf = true) := fun H enc base sp held fuel cs x h => by
  obtain ⟨n, rfl, _, hw⟩ := DataW.trod_int ht h
  exact ⟨n, [.int k n], hw, rfl, rfl, by simp [hc], rfl, rel_one (.int k n)⟩

theorem reads_u32 {t : TypeId} (ht : P.underlying t = some (.int .u32)) (hc : P.cellsOf t = 1) : Reads P w t (fun n : Nat => .int .u32 (n : Int)) (fun n => n < 4294967296) := fun H enc base sp held fuel cs x h => by
  obtain ⟨n, rfl, _, hw⟩ := DataW.trod_int ht h
  simp only [Lit.wf, Bool.and_eq_true, decide_eq_true_eq] at hw
  have h0 : 0 ≤ n := hw.1
  have h1 : n ≤ 4294967295 := hw.2
  have e : ((n.toNat : Nat) : Int) = n := Int.toNat_of_nonneg h0
  exact ⟨n.toNat, [.int .u32 n], by omega, by simp only [e]; rfl, rfl, by simp [hc], rfl, rel_one (.int _ n)⟩

theorem listOf {α : Type} {Q : Nat → α → Prop} : ∀ (n : Nat), (∀ i, i < n → ∃ a, Q i a) → ∃ l : List α, l.length = n ∧ ∀ (i : Nat) a, l[i]? = some a → Q i a
  | 0, _ => ⟨[], rfl, fun i a h => by simp at h⟩
  | n + 1, h => by
    obtain ⟨l, h1, h2⟩ := listOf n fun i hi => h i (by omega)
    obtain ⟨a, ha⟩ := h n (by omega)
    refine ⟨l ++ [a], by simp [h1], fun i b hb => ?_⟩
    by_cases hi : i < l.length
    · rw [List.getElem?_append_left hi] at hb; exact h2 i b hb
    · rw [List.getElem?_append_right (by omega)] at hb
      have hl : i < (l ++ [a]).length := by
        have := (List.getElem?_eq_some_iff.1 hb).1
        simp at this ⊢; omega
      have : i = n := by simp at hl; omega
      subst this
      rw [h1, Nat.sub_self] at hb
      simp at hb; subst hb; exact ha

theorem addOffs {a : Addr} {k : Nat} : (a.add k).off = a.off + k ∧ (a.add k).block = a.block := by
  unfold Addr.add; split <;> simp_all

theorem cell_block {a : Addr} {v : Value} (h : w.cell? a = some v) : ∃ c el fr, w.heap[a.block]? = some (.cells c el fr) ∧ a.spot = none ∧ c[a.off]? = some v := by
  unfold World.cell? at h
  split at h
  · rename_i c el fr hb
    split at h
    · cases h
    · rename_i hs
      exact ⟨c, el, fr, hb, by simpa using hs, h⟩
  · cases h

theorem reads_slice {t e : TypeId} {α : Type} {f : α → AV} {good : α → Prop} {c : Nat} (he : Reads P w e f good) (ht : P.underlying t = some (.slice e)) (hc : P.cellsOf e = c) (hpos : 0 < c) (hc1 : P.cellsOf t = 1) :
    Reads P w t (fun l : List α => .sl c (l.map f)) (fun l => ∀ a ∈ l, good a) := fun H enc base sp held fuel cs x h => by
  rcases DataW.trod_slice ht h with ⟨rfl, _⟩ | ⟨a, len, cap, elems, rest, n, _, rfl, _, hb, hl, hm, hlen, hel, _, _⟩
  · exact ⟨[], [.sl c []], (fun a h => by simp at h), rfl, rfl, by simp [hc1], rfl, rel_one (.sl0 _ _ _)⟩
  · have each : ∀ i, i < len → ∃ x, ∃ es ys, good x ∧ w.cells? base (a.add (i * c)) c = some es ∧ (f x).cells? = some ys ∧ ys.length = c ∧ ys.all (·.single) = true ∧ ∀ (j : Nat) y v, ys[j]? = some y → es[j]? = some v → PRel (heapI w) y v := fun i hi => by
      have h1 := hel i hi
      rw [hc, List.getElem?_eq_getElem (by omega), Option.bind_eq_some_iff] at h1
      obtain ⟨es, h2, h3⟩ := h1
      obtain ⟨x, ys, g1, g2, g3, g4, g5, g6⟩ := he H enc base sp held n es _ h3
      exact ⟨x, es, ys, g1, h2, g2, by rw [g3, g4, hc], g5, g6⟩
    obtain ⟨l, h1, h2⟩ := listOf len each
    refine ⟨l, [.sl c (l.map f)], fun x hx => ?_, rfl, rfl, by simp [hc1], rfl, rel_one ?_⟩
    · obtain ⟨i, hi⟩ := List.getElem?_of_mem hx
      obtain ⟨es, ys, g, _⟩ := h2 i x hi
      exact g
    · by_cases h0 : len = 0
      · subst h0
        have : l = [] := List.length_eq_zero_iff.1 h1
        subst this
        exact .sl0 _ _ _
      · have cellAt : ∀ i, i < len → ∀ j, j < c → ∃ v, w.cell? ((a.add (i * c)).add j) = some v := fun i hi j hj => by
          obtain ⟨es, ys, _, h3, _⟩ := h2 i l[i] (List.getElem?_eq_getElem (by omega))
          obtain ⟨_, h4, h5⟩ := World.cells?_some h3
          exact ⟨es[j], by rw [h5 j hj, List.getElem?_eq_getElem (by omega)]⟩
        obtain ⟨v0, hv0⟩ := cellAt 0 (by omega) 0 hpos
        have ea : (a.add (0 * c)).add 0 = a := by simp [Addr.add]
        rw [ea] at hv0
        obtain ⟨car, el, fr, hcar, hspot, _⟩ := cell_block hv0
        have inCar : ∀ i j v, w.cell? ((a.add (i * c)).add j) = some v → car[a.off + (i * c + j)]? = some v := fun i j v hv => by
          obtain ⟨car', el', fr', k1, _, k3⟩ := cell_block hv
          rw [addOffs.2, addOffs.2, hcar] at k1
          cases k1
          rw [addOffs.1, addOffs.1, Nat.add_assoc] at k3
          exact k3
        refine .sl c _ a len cap car el fr (fun hnil => h0 (by rw [← h1]; simpa using congrArg List.length hnil)) (by simp [h1]) hl hspot hcar ?_ (fun i y hy => ?_) (fun i y ds j u v hy hds hu hv => ?_)
        · obtain ⟨v, hv⟩ := cellAt (len - 1) (by omega) (c - 1) (by omega)
          have := inCar _ _ _ hv
          have hlt := (Array.getElem?_eq_some_iff.1 this).1
          have e1 : (len - 1) * c + (c - 1) + 1 = len * c := by
            obtain ⟨k, rfl⟩ : ∃ k, len = k + 1 := ⟨len - 1, by omega⟩
            rw [Nat.add_sub_cancel, Nat.succ_mul]; omega
          omega
        · simp only [List.getElem?_map, Option.map_eq_some_iff] at hy
          obtain ⟨z, hz, rfl⟩ := hy
          obtain ⟨es, ys, _, _, h4, h5, h6, _⟩ := h2 i z hz
          exact ⟨ys, h4, h5, h6⟩
        · simp only [List.getElem?_map, Option.map_eq_some_iff] at hy
          obtain ⟨z, hz, rfl⟩ := hy
          obtain ⟨es, ys, _, h3, h4, h5, h6, h7⟩ := h2 i z hz
          rw [h4] at hds; cases hds
          have hj : j < c := by have := (List.getElem?_eq_some_iff.1 hu).1; omega
          obtain ⟨_, k4, k5⟩ := World.cells?_some h3
          have hi : i < len := by have := (List.getElem?_eq_some_iff.1 hz).1; omega
          obtain ⟨v', hv'⟩ := cellAt i hi j hj
          have := inCar _ _ _ hv'
          rw [hv] at this; cases this
          exact h7 j u v hu (by rw [← k5 j hj]; exact hv')

theorem single_cells {y : AV} (h : y.single = true) : y.cells? = some [y] := by cases y <;> first | rfl | (simp [AV.single] at h)

/-- A struct of three fields, one cell each. -/
theorem reads_struct3 {t : TypeId} {f0 f1 f2 : Field} (ht : P.underlying t = some (.struct #[f0, f1, f2])) (hc : P.cellsOf t = 3) (o0 : f0.offset = 0) (o1 : f1.offset = 1) (o2 : f2.offset = 2)
    (s0 : P.cellsOf f0.type = 1) (s1 : P.cellsOf f1.type = 1) (s2 : P.cellsOf f2.type = 1) {α β γ δ : Type} {e0 : α → AV} {e1 : β → AV} {e2 : γ → AV} {g0 : α → Prop} {g1 : β → Prop} {g2 : γ → Prop}
    (r0 : Reads P w f0.type e0 g0) (r1 : Reads P w f1.type e1 g1) (r2 : Reads P w f2.type e2 g2) (n0 : ∀ a, (e0 a).single = true) (n1 : ∀ a, (e1 a).single = true) (n2 : ∀ a, (e2 a).single = true)
    (mk : α → β → γ → δ) (F : δ → AV) (G : δ → Prop) (hF : ∀ a b c, F (mk a b c) = .agg [e0 a, e1 b, e2 c]) (hG : ∀ a b c, g0 a → g1 b → g2 c → G (mk a b c)) : Reads P w t F G := fun H enc base sp held fuel cs x h => by
  obtain ⟨y0, y1, y2, n, _, hl, h0, h1, h2⟩ := Go.Deep.trod_struct3 ht h
  rw [hc] at hl
  match cs, hl with
  | [c0, c1, c2], _ =>
    rw [o0, s0] at h0
    rw [o1, s1] at h1
    rw [o2, s2] at h2
    obtain ⟨a, ys0, k0, k1, k2, _, _, k5⟩ := r0 H enc base sp held n _ _ h0
    obtain ⟨b, ys1, l0, l1, l2, _, _, l5⟩ := r1 H enc base sp held n _ _ h1
    obtain ⟨c, ys2, m0, m1, m2, _, _, m5⟩ := r2 H enc base sp held n _ _ h2
    rw [single_cells (n0 a)] at k1
    rw [single_cells (n1 b)] at l1
    rw [single_cells (n2 c)] at m1
    cases k1; cases l1; cases m1
    refine ⟨mk a b c, _, hG a b c k0 l0 m0, by rw [hF]; rfl, rfl, by simp [hc], by simp [n0, n1, n2], fun j y v hy hv => ?_⟩
    match j with
    | 0 => simp at hy hv; subst hy; subst hv; exact k5 0 _ _ rfl rfl
    | 1 => simp at hy hv; subst hy; subst hv; exact l5 0 _ _ rfl rfl
    | 2 => simp at hy hv; subst hy; subst hv; exact m5 0 _ _ rfl rfl
    | j + 3 => simp at hy

/-- An argument of one cell. -/
theorem reads_arg {H : Type} {enc : TypeId × Value → H} {base : Nat} {sp : Nat → Bool} {held : Bool} {t : TypeId} {α : Type} {f : α → AV} {good : α → Prop} (hr : Reads P w t f good) (hn : ∀ a, (f a).single = true) {v : Value} {d : DataW H} {ps : List MemPlace}
    (hv : v.cells = #[v]) (h : DataW.Trod enc P w base sp held t v d ps) : ∃ a, good a ∧ PRel (heapI w) (f a) v := by
  obtain ⟨fuel, h⟩ := h
  obtain ⟨a, ys, g1, g2, g3, g4, g5, g6⟩ := hr H enc base sp held fuel _ _ h
  rw [single_cells (hn a)] at g2
  cases g2
  exact ⟨a, g1, g6 0 _ _ rfl (by rw [hv]; rfl)⟩
end
end Go.Ab
