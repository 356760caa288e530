/- Arguments out of data: structs and arrays of any parts; all arguments kept. -/
import Derived.Test.YtmcejlhkohbdfaaAb13
import Derived.OpenShut
set_option linter.unusedVariables false
set_option linter.unusedSimpArgs false
namespace Go.Ab
open Go.ChangeShapes Go.WideShapes Go.ChangeAt Go.RowKit

/-- What can be read at type 't': its cells are good ones. -/
def ReadsC (P : Program) (w : World) (t : TypeId) (Q : List AV → Prop) : Prop :=
  ∀ (H : Type) (enc : TypeId × Value → H) (base : Nat) (sp : Nat → Bool) (held : Bool) (fuel : Nat) (cs : List Value) (x : DataW H × List MemPlace), DataW.trod enc P w base sp held fuel t cs = some x →
    ∃ ys, Q ys ∧ ys.length = cs.length ∧ cs.length = P.cellsOf t ∧ ys.all (·.single) = true ∧ ∀ (j : Nat) y v, ys[j]? = some y → cs[j]? = some v → PRel (heapI w) y v

section
variable {P : Program} {w : World}
theorem Reads.toC {t : TypeId} {α : Type} {f : α → AV} {good : α → Prop} (h : Reads P w t f good) : ReadsC P w t (fun ys => ∃ a, good a ∧ (f a).cells? = some ys) := fun H enc base sp held fuel cs x hx => by
  obtain ⟨a, ys, g1, g2, g3⟩ := h H enc base sp held fuel cs x hx
  exact ⟨ys, ⟨a, g1, g2⟩, g3⟩
theorem ReadsC.toReads {t : TypeId} {Q : List AV → Prop} (h : ReadsC P w t Q) {α : Type} (f : α → AV) (good : α → Prop) (hq : ∀ ys, Q ys → ∃ a, good a ∧ (f a).cells? = some ys) : Reads P w t f good := fun H enc base sp held fuel cs x hx => by
  obtain ⟨ys, g1, g3⟩ := h H enc base sp held fuel cs x hx
  obtain ⟨a, g1, g2⟩ := hq ys g1
  exact ⟨a, ys, g1, g2, g3⟩
theorem reads_bool {t : TypeId} (ht : P.underlying t = some .bool) (hc : P.cellsOf t = 1) : Reads P w t (fun b : Bool => .bool b) (fun _ => True) := fun H enc base sp held fuel cs x h => by
  obtain ⟨b, rfl, _⟩ := DataW.trod_bool ht h
  exact ⟨b, [.bool b], trivial, rfl, rfl, by simp [hc], rfl, rel_one (.bool b)⟩
theorem reads_string {t : TypeId} (ht : P.underlying t = some .string) (hc : P.cellsOf t = 1) : Reads P w t (fun s : ByteArray => .str s) (fun s => s.size ≤ maxLen) := fun H enc base sp held fuel cs x h => by
  obtain ⟨s, rfl, _, hs⟩ := DataW.trod_string ht h
  exact ⟨s, [.str s], hs, rfl, rfl, by simp [hc], rfl, rel_one (.str s)⟩

def Flat : List (List AV → Prop) → List AV → Prop
  | [], ys => ys = []
  | Q :: Qs, ys => ∃ a b, ys = a ++ b ∧ Q a ∧ Flat Qs b

/-- Parts that lie one behind the other. -/
def contB (P : Program) (n : Nat) : Nat → List (TypeId × Nat) → Bool
  | o, [] => o == n
  | o, (t, o') :: r => o' == o && contB P n (o + P.cellsOf t) r
theorem contB_le {P : Program} {n : Nat} : ∀ {o : Nat} {l : List (TypeId × Nat)}, contB P n o l = true → o ≤ n
  | o, [], h => by simp [contB] at h; omega
  | o, (t, o') :: r, h => by
    simp only [contB, Bool.and_eq_true] at h
    have := contB_le h.2; omega

theorem parts_read {H : Type} {enc : TypeId × Value → H} {base : Nat} {sp : Nat → Bool} {held : Bool} {fuel : Nat} {cs : List Value} : ∀ (l : List (TypeId × Nat)) (Qs : List (List AV → Prop)) (o : Nat), contB P cs.length o l = true → l.length = Qs.length →
    (∀ (i : Nat) p Q, l[i]? = some p → Qs[i]? = some Q → ReadsC P w p.1 Q) → (∀ p ∈ l, ∃ y, DataW.trod enc P w base sp held fuel p.1 ((cs.drop p.2).take (P.cellsOf p.1)) = some y) →
    ∃ ys, Flat Qs ys ∧ o + ys.length = cs.length ∧ ys.all (·.single) = true ∧ ∀ (j : Nat) y v, ys[j]? = some y → cs[o + j]? = some v → PRel (heapI w) y v
  | [], Qs, o, hc, hl, _, _ => by
    cases Qs with
    | nil => simp [contB] at hc; exact ⟨[], rfl, by simp [hc], rfl, fun j y v h => by simp at h⟩
    | cons => simp at hl
  | (t, o') :: l, Qs, o, hc, hl, hq, ht => by
    cases Qs with
    | nil => simp at hl
    | cons Q Qs =>
      simp only [contB, Bool.and_eq_true, beq_iff_eq] at hc
      obtain ⟨rfl, hc⟩ := hc
      obtain ⟨y, hy⟩ := ht (t, o') (by simp)
      obtain ⟨a, a1, a2, a3, a4, a5⟩ := hq 0 (t, o') Q rfl rfl H enc base sp held fuel _ _ hy
      obtain ⟨b, b1, b2, b3, b4⟩ := parts_read l Qs _ hc (by simpa using hl) (fun i p Q h1 h2 => hq (i + 1) p Q (by simpa using h1) (by simpa using h2)) (fun p hp => ht p (by simp [hp]))
      have hle := contB_le hc
      refine ⟨a ++ b, ⟨a, b, rfl, a1, b1⟩, by rw [List.length_append, a2, a3]; show o' + (P.cellsOf t + b.length) = _; omega, by simp [a4, b3], fun j y v hy hv => ?_⟩
      have ha : a.length = P.cellsOf t := by rw [a2, a3]
      by_cases hj : j < a.length
      · rw [List.getElem?_append_left hj] at hy
        refine a5 j y v hy ?_
        rw [List.getElem?_take_of_lt (by omega), List.getElem?_drop]; exact hv
      · rw [List.getElem?_append_right (by omega)] at hy
        exact b4 (j - a.length) y v hy (by rw [← hv]; congr 1; omega)

theorem readsC_struct {t : TypeId} {fs : Array Field} (ht : P.underlying t = some (.struct fs)) (Qs : List (List AV → Prop)) (hl : fs.size = Qs.length) (hc : contB P (P.cellsOf t) 0 (fs.toList.map fun f => (f.type, f.offset)) = true)
    (hq : ∀ (i : Nat) f Q, fs[i]? = some f → Qs[i]? = some Q → ReadsC P w f.type Q) : ReadsC P w t (Flat Qs) := fun H enc base sp held fuel cs x h => by
  obtain ⟨xs, n, _, _, hlen, hx, hf⟩ := DataW.trod_struct ht h
  obtain ⟨ys, y1, y2, y3, y4⟩ := parts_read (w := w) (enc := enc) (base := base) (sp := sp) (held := held) (fuel := n) (cs := cs) (fs.toList.map fun f => (f.type, f.offset)) Qs 0 (by rw [hlen]; exact hc) (by simpa using hl) (fun i p Q h1 h2 => by
    simp only [List.getElem?_map, Option.map_eq_some_iff] at h1
    obtain ⟨f, hf1, rfl⟩ := h1
    exact hq i f Q (by simpa using hf1) h2) (fun p hp => by
    obtain ⟨f, hf1, rfl⟩ := List.mem_map.1 hp
    obtain ⟨i, hi⟩ := List.getElem?_of_mem hf1
    have hi' : fs[i]? = some f := by simpa using hi
    have := hf i f hi'
    have hlt : i < xs.length := by rw [hx]; exact (Array.getElem?_eq_some_iff.1 hi').1
    exact ⟨xs[i], by rw [this, List.getElem?_eq_getElem hlt]⟩)
  exact ⟨ys, y1, by omega, hlen, y3, fun j y v h1 h2 => y4 j y v h1 (by rw [Nat.zero_add]; exact h2)⟩

def AllQ (P : Program) (w : World) : List TypeId → List (List AV → Prop) → Prop
  | [], [] => True
  | t :: ts, Q :: Qs => ReadsC P w t Q ∧ AllQ P w ts Qs
  | _, _ => False
theorem allQ_get : ∀ {ts : List TypeId} {Qs : List (List AV → Prop)}, AllQ P w ts Qs → ts.length = Qs.length ∧ ∀ (i : Nat) t Q, ts[i]? = some t → Qs[i]? = some Q → ReadsC P w t Q
  | [], [], _ => ⟨rfl, fun i t Q h => by simp at h⟩
  | t :: ts, Q :: Qs, h => by
    obtain ⟨h1, h2⟩ := allQ_get h.2
    refine ⟨by simp [h1], fun i t' Q' ht hQ => ?_⟩
    cases i with
    | zero => simp at ht hQ; subst ht; subst hQ; exact h.1
    | succ i => exact h2 i t' Q' (by simpa using ht) (by simpa using hQ)
  | [], _ :: _, h => h.elim
  | _ :: _, [], h => h.elim
/-- As 'readsC_struct', the parts in a row. -/
theorem readsC_st {t : TypeId} {fs : Array Field} (ht : P.underlying t = some (.struct fs)) (hc : contB P (P.cellsOf t) 0 (fs.toList.map fun f => (f.type, f.offset)) = true) {Qs : List (List AV → Prop)}
    (hq : AllQ P w (fs.toList.map (·.type)) Qs) : ReadsC P w t (Flat Qs) := by
  obtain ⟨h1, h2⟩ := allQ_get hq
  exact readsC_struct ht Qs (by simpa using h1) hc fun i f Q hf hQ => h2 i f.type Q (by simp [hf]) hQ
/-- Cells of a good value. -/
def QR {α : Type} (f : α → AV) (good : α → Prop) (ys : List AV) : Prop := ∃ a, good a ∧ (f a).cells? = some ys

theorem readsC_array {t e : TypeId} {n : Nat} (ht : P.underlying t = some (.array n e)) (Q : List AV → Prop) (hc : contB P (P.cellsOf t) 0 ((List.range n).map fun i => (e, i * P.cellsOf e)) = true)
    (hq : ReadsC P w e Q) : ReadsC P w t (Flat (List.replicate n Q)) := fun H enc base sp held fuel cs x h => by
  obtain ⟨xs, m, _, _, hlen, hx, hf⟩ := DataW.trod_array ht h
  obtain ⟨ys, y1, y2, y3, y4⟩ := parts_read (w := w) (enc := enc) (base := base) (sp := sp) (held := held) (fuel := m) (cs := cs) ((List.range n).map fun i => (e, i * P.cellsOf e)) (List.replicate n Q) 0 (by rw [hlen]; exact hc) (by simp) (fun i p Q' h1 h2 => by
    simp only [List.getElem?_map, Option.map_eq_some_iff] at h1
    obtain ⟨f, hf1, rfl⟩ := h1
    rw [List.getElem?_replicate] at h2
    split at h2
    · cases h2; exact hq
    · cases h2) (fun p hp => by
    obtain ⟨i, hi, rfl⟩ := List.mem_map.1 hp
    have hi := List.mem_range.1 hi
    exact ⟨xs[i], by rw [hf i hi, List.getElem?_eq_getElem (by omega)]⟩)
  exact ⟨ys, y1, by omega, hlen, y3, fun j y v h1 h2 => y4 j y v h1 (by rw [Nat.zero_add]; exact h2)⟩

/-- An argument of several cells. -/
theorem arg_agg {H : Type} {enc : TypeId × Value → H} {base : Nat} {sp : Nat → Bool} {held : Bool} {t : TypeId} {Q : List AV → Prop} (hr : ReadsC P w t Q) {cs : Array Value} {d : DataW H} {ps : List MemPlace}
    (h : DataW.Trod enc P w base sp held t (.agg cs) d ps) : ∃ ys, Q ys ∧ PRel (heapI w) (.agg ys) (.agg cs) := by
  obtain ⟨fuel, h⟩ := h
  obtain ⟨ys, g1, g2, g3, g4, g5⟩ := hr H enc base sp held fuel _ _ h
  exact ⟨ys, g1, .agg _ _ (by rw [g2]; rfl) (fun i y u hy hu => g5 i y u hy (by simpa [Value.cells] using hu))⟩

theorem okWide_array {n : Nat} {e : TypeId} {r : Reach} {base : Nat} {t : TypeId} {v : Value} (ht : P.underlying t = some (.array n e)) (h : Value.okWide P w r base t v) : ∃ cs, v = .agg cs := by
  simp only [Value.okWide, ht] at h
  obtain ⟨cs, h1, _⟩ := h
  exact ⟨cs, h1⟩
end

/-- Arguments that were only read. -/
theorem trodAll_kept {H : Type} {enc : TypeId × Value → H} {P : Program} {W W' : World} (hl : laidOutB P = true) (hb : Below W.heap.size W W') (sp : Nat → Bool) : ∀ {ts : List TypeId} {vs : List Value} {ds : List (DataW H)} {ps : List MemPlace},
    ts.all (fun t => P.readableRec t && decide (t < P.types.size)) = true → DataW.TrodAll enc P W 0 (fun _ => true) true ts vs ds ps → (∀ x ∈ ps, x.block < W.heap.size) → (∀ x ∈ ps, sp x.block = true) → DataW.TrodAll enc P W' 0 sp true ts vs ds ps
  | [], vs, ds, ps, _, h, _, _ => by
    obtain ⟨rfl, rfl, rfl⟩ := trodAll_nil h
    exact trodAll_mk0
  | t :: ts, vs, ds, ps, hr, h, hlt, hs => by
    obtain ⟨v, vs', d, ds', p, q, rfl, rfl, rfl, hd, hrest⟩ := trodAll_cons h
    simp only [List.all_cons, Bool.and_eq_true, decide_eq_true_eq] at hr
    exact trodAll_cons_mk (arg_kept hl hr.1.1 hr.1.2 hd hb (fun x hx => hlt x (by simp [hx])) sp (fun x hx => hs x (by simp [hx])))
      (trodAll_kept hl hb sp hr.2 hrest (fun x hx => hlt x (by simp [hx])) (fun x hx => hs x (by simp [hx])))
end Go.Ab
