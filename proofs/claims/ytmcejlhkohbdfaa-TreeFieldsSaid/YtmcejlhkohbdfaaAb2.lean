/- What an abstract state says of a world. -/
import Derived.Test.YtmcejlhkohbdfaaAb1
import Derived.Below
import Derived.Laws.Cells
import Derived.Laws.CopyRow
set_option linter.unusedVariables false
set_option linter.unusedSimpArgs false
namespace Go.Ab
open Go.RowKit

/-- Where an own block lies: not there yet; gone; at 'A', in a row of 'sz' cells. -/
inductive MS where
  | fresh
  | gone
  | live (A : Addr) (sz : Nat)

abbrev Imm := Nat → Option Obj
abbrev Mp := Nat → MS

inductive PRel (I : Imm) : AV → Value → Prop
  | undef (v) : PRel I .undef v
  | int (k n) : PRel I (.int k n) (.int k n)
  | bool (b) : PRel I (.bool b) (.bool b)
  | str (s) : PRel I (.str s) (.string s)
  | agg (cs : List AV) (vs : Array Value) : vs.size = cs.length → (∀ (i : Nat) (x : AV) (v : Value), cs[i]? = some x → vs[i]? = some v → PRel I x v) → PRel I (.agg cs) (.agg vs)
  | tup (cs : List AV) (vs : Array Value) : vs.size = cs.length → (∀ (i : Nat) (x : AV) (v : Value), cs[i]? = some x → vs[i]? = some v → PRel I x v) → PRel I (.tup cs) (.tuple vs)
  | nilsl : PRel I .nilsl (.slice none 0 0)
  | sl0 (e a cap) : PRel I (.sl e []) (.slice a 0 cap)
  | sl (e : Nat) (l : List AV) (A : Addr) (n cap : Nat) (c : Array Value) (el : TypeId) (fr : Nat × Nat) : l ≠ [] → n = l.length → n ≤ cap → A.spot = none → I A.block = some (.cells c el fr) → A.off + n * e ≤ c.size →
      (∀ (i : Nat) (x : AV), l[i]? = some x → ∃ cs, x.cells? = some cs ∧ cs.length = e ∧ cs.all (·.single) = true) →
      (∀ (i : Nat) (x : AV) (cs : List AV) (j : Nat) (y : AV) (v : Value), l[i]? = some x → x.cells? = some cs → cs[j]? = some y → c[A.off + (i * e + j)]? = some v → PRel I y v) → PRel I (.sl e l) (.slice (some A) n cap)
  | pp (cs : List AV) (A : Addr) (c : Array Value) (el : TypeId) (fr : Nat × Nat) : A.spot = none → I A.block = some (.cells c el fr) → A.off + cs.length ≤ c.size → cs.all (·.single) = true →
      (∀ (j : Nat) (y : AV) (v : Value), cs[j]? = some y → c[A.off + j]? = some v → PRel I y v) → PRel I (.pp cs) (.pointer (some A))
  | nilp : PRel I .nilp (.pointer none)
  | func (f : FuncId) (cap : List AV) (vs : Array Value) : vs.size = cap.length → (∀ (i : Nat) (x : AV) (v : Value), cap[i]? = some x → vs[i]? = some v → PRel I x v) → PRel I (.func f cap) (.func (.func f) #[] vs)

inductive VRel (I : Imm) (M : Mp) : AV → Value → Prop
  | pure (x v) : PRel I x v → VRel I M x v
  | own (b off len e B sz A cap) : M b = .live B sz → A.spot = none → len ≤ cap → (cap = 0 ∨ (A = ⟨B.block, B.off + off, none⟩ ∧ B.off + off + cap * e ≤ sz)) → VRel I M (.own b off len e) (.slice (some A) len cap)
  | ownG (b off len e A cap) : M b = .gone → A.spot = none → len ≤ cap → VRel I M (.own b off len e) (.slice (some A) len cap)
  | ptr (b off A sz) : M b = .live A sz → VRel I M (.ptr b off) (.pointer (some ⟨A.block, A.off + off, none⟩))
  | ptrG (b off A) : M b = .gone → A.spot = none → VRel I M (.ptr b off) (.pointer (some A))
  | agg (cs : List AV) (vs : Array Value) : vs.size = cs.length → (∀ (i : Nat) (x : AV) (v : Value), cs[i]? = some x → vs[i]? = some v → VRel I M x v) → VRel I M (.agg cs) (.agg vs)
  | tup (cs : List AV) (vs : Array Value) : vs.size = cs.length → (∀ (i : Nat) (x : AV) (v : Value), cs[i]? = some x → vs[i]? = some v → VRel I M x v) → VRel I M (.tup cs) (.tuple vs)
  | func (f : FuncId) (cap : List AV) (vs : Array Value) : vs.size = cap.length → (∀ (i : Nat) (x : AV) (v : Value), cap[i]? = some x → vs[i]? = some v → VRel I M x v) → VRel I M (.func f cap) (.func (.func f) #[] vs)

def ILe (I I' : Imm) : Prop := ∀ b o, I b = some o → I' b = some o
def MLe (M M' : Mp) : Prop := ∀ i, match M i with
  | .fresh => True
  | .gone => M' i = .gone
  | .live A sz => M' i = .live A sz ∨ M' i = .gone

theorem ILe.refl (I : Imm) : ILe I I := fun _ _ h => h
theorem ILe.trans {I I' I'' : Imm} (h : ILe I I') (k : ILe I' I'') : ILe I I'' := fun b o e => k b o (h b o e)
theorem MLe.refl (M : Mp) : MLe M M := fun i => by cases h : M i <;> simp
theorem MLe.trans {M M' M'' : Mp} (h : MLe M M') (k : MLe M' M'') : MLe M M'' := fun i => by
  have h1 := h i
  have k1 := k i
  cases e : M i with
  | fresh => trivial
  | gone => rw [e] at h1; simp only at h1; rw [h1] at k1; exact k1
  | live A sz =>
    rw [e] at h1
    rcases h1 with h1 | h1
    · rw [h1] at k1; exact k1
    · rw [h1] at k1; exact .inr k1

theorem PRel.mono {I I' : Imm} (hI : ILe I I') {x : AV} {v : Value} (h : PRel I x v) : PRel I' x v := by
  induction h with
  | undef v => exact .undef v
  | int k n => exact .int k n
  | bool b => exact .bool b
  | str s => exact .str s
  | agg cs vs hs _ ih => exact .agg cs vs hs ih
  | tup cs vs hs _ ih => exact .tup cs vs hs ih
  | nilsl => exact .nilsl
  | sl0 e a cap => exact .sl0 e a cap
  | sl e l A n cap c el fr h1 h2 h3 h4 h5 h6 h7 _ ih => exact .sl e l A n cap c el fr h1 h2 h3 h4 (hI _ _ h5) h6 h7 ih
  | pp cs A c el fr h1 h2 h3 h4 _ ih => exact .pp cs A c el fr h1 (hI _ _ h2) h3 h4 ih
  | nilp => exact .nilp
  | func f cap vs hs _ ih => exact .func f cap vs hs ih

theorem VRel.mono {I I' : Imm} {M M' : Mp} (hI : ILe I I') (hM : MLe M M') {x : AV} {v : Value} (h : VRel I M x v) : VRel I' M' x v := by
  induction h with
  | pure x v h => exact .pure x v (h.mono hI)
  | own b off len e B sz A cap h1 h2 h3 h4 =>
    have := hM b
    rw [h1] at this
    rcases this with h | h
    · exact .own b off len e B sz A cap h h2 h3 h4
    · exact .ownG b off len e _ _ h h2 h3
  | ownG b off len e A cap h1 h2 h3 => have := hM b; rw [h1] at this; exact .ownG _ _ _ _ _ _ this h2 h3
  | ptr b off A sz h1 =>
    have := hM b
    rw [h1] at this
    rcases this with h | h
    · exact .ptr b off A sz h
    · exact .ptrG b off _ h rfl
  | ptrG b off A h1 h2 => have := hM b; rw [h1] at this; exact .ptrG _ _ _ this h2
  | agg cs vs hs _ ih => exact .agg cs vs hs ih
  | tup cs vs hs _ ih => exact .tup cs vs hs ih
  | func f cap vs hs _ ih => exact .func f cap vs hs ih

def M0 : Mp := fun _ => .fresh
theorem MLe.zero (M : Mp) : MLe M0 M := fun _ => trivial
theorem VRel.ofP {I : Imm} {M : Mp} {x : AV} {v : Value} (h : PRel I x v) : VRel I M x v := .pure _ _ h

/-! ### Inversions -/
section
variable {I : Imm} {M : Mp} {v : Value}
theorem VRel.int_inv {k n} (h : VRel I M (.int k n) v) : v = .int k n := by cases h with | pure _ _ h => cases h; rfl
theorem VRel.bool_inv {b} (h : VRel I M (.bool b) v) : v = .bool b := by cases h with | pure _ _ h => cases h; rfl
theorem VRel.str_inv {s} (h : VRel I M (.str s) v) : v = .string s := by cases h with | pure _ _ h => cases h; rfl
theorem VRel.nilsl_inv (h : VRel I M .nilsl v) : v = .slice none 0 0 := by cases h with | pure _ _ h => cases h; rfl
theorem VRel.nilp_inv (h : VRel I M .nilp v) : v = .pointer none := by cases h with | pure _ _ h => cases h; rfl
theorem VRel.sl_inv {e l} (h : VRel I M (.sl e l) v) : PRel I (.sl e l) v := by cases h with | pure _ _ h => exact h
theorem VRel.pp_inv {cs} (h : VRel I M (.pp cs) v) : PRel I (.pp cs) v := by cases h with | pure _ _ h => exact h
theorem VRel.agg_inv {cs} (h : VRel I M (.agg cs) v) : ∃ vs, v = .agg vs ∧ vs.size = cs.length ∧ ∀ (i : Nat) x u, cs[i]? = some x → vs[i]? = some u → VRel I M x u := by
  cases h with
  | pure _ _ h => cases h with | agg _ vs hs h => exact ⟨vs, rfl, hs, fun i x u hx hu => .pure _ _ (h i x u hx hu)⟩
  | agg _ vs hs h => exact ⟨vs, rfl, hs, h⟩
theorem VRel.tup_inv {cs} (h : VRel I M (.tup cs) v) : ∃ vs, v = .tuple vs ∧ vs.size = cs.length ∧ ∀ (i : Nat) x u, cs[i]? = some x → vs[i]? = some u → VRel I M x u := by
  cases h with
  | pure _ _ h => cases h with | tup _ vs hs h => exact ⟨vs, rfl, hs, fun i x u hx hu => .pure _ _ (h i x u hx hu)⟩
  | tup _ vs hs h => exact ⟨vs, rfl, hs, h⟩
theorem VRel.func_inv {f cap} (h : VRel I M (.func f cap) v) : ∃ vs, v = .func (.func f) #[] vs ∧ vs.size = cap.length ∧ ∀ (i : Nat) x u, cap[i]? = some x → vs[i]? = some u → VRel I M x u := by
  cases h with
  | pure _ _ h => cases h with | func _ _ vs hs h => exact ⟨vs, rfl, hs, fun i x u hx hu => .pure _ _ (h i x u hx hu)⟩
  | func _ _ vs hs h => exact ⟨vs, rfl, hs, h⟩
theorem VRel.own_inv {b off len e} (h : VRel I M (.own b off len e) v) : ∃ A cap, v = .slice (some A) len cap ∧ A.spot = none ∧ len ≤ cap ∧ (M b = .gone ∨ ∃ B sz, M b = .live B sz ∧ (cap = 0 ∨ (A = ⟨B.block, B.off + off, none⟩ ∧ B.off + off + cap * e ≤ sz))) := by
  cases h with
  | pure _ _ h => cases h
  | own _ _ _ _ B sz A cap h1 h2 h3 h4 => exact ⟨A, cap, rfl, h2, h3, .inr ⟨B, sz, h1, h4⟩⟩
  | ownG _ _ _ _ A cap h1 h2 h3 => exact ⟨A, cap, rfl, h2, h3, .inl h1⟩
theorem VRel.own_mk {b off len e A cap} (hs : A.spot = none) (hl : len ≤ cap) (h : M b = .gone ∨ ∃ B sz, M b = .live B sz ∧ (cap = 0 ∨ (A = ⟨B.block, B.off + off, none⟩ ∧ B.off + off + cap * e ≤ sz))) : VRel I M (.own b off len e) (.slice (some A) len cap) := by
  rcases h with h | ⟨B, sz, h1, h3⟩
  · exact .ownG _ _ _ _ _ _ h hs hl
  · exact .own _ _ _ _ _ _ _ _ h1 hs hl h3
theorem VRel.ptr_inv {b off} (h : VRel I M (.ptr b off) v) : ∃ A, v = .pointer (some A) ∧ A.spot = none ∧ (M b = .gone ∨ ∃ B sz, M b = .live B sz ∧ A = ⟨B.block, B.off + off, none⟩) := by
  cases h with
  | pure _ _ h => cases h
  | ptr _ _ A sz h1 => exact ⟨_, rfl, rfl, .inr ⟨A, sz, h1, rfl⟩⟩
  | ptrG _ _ A h1 h2 => exact ⟨A, rfl, h2, .inl h1⟩
theorem VRel.ptr_mk {b off A} (hs : A.spot = none) (h : M b = .gone ∨ ∃ B sz, M b = .live B sz ∧ A = ⟨B.block, B.off + off, none⟩) : VRel I M (.ptr b off) (.pointer (some A)) := by
  rcases h with h | ⟨B, sz, h1, rfl⟩
  · exact .ptrG _ _ _ h hs
  · exact .ptr _ _ _ _ h1
end

theorem VRel.one {I : Imm} {M : Mp} {x : AV} {v : Value} (h : VRel I M x v) (hs : x.single = true) : v.oneCell' = true := by
  cases h with
  | pure _ _ h => cases h <;> first | rfl | simp [AV.single] at hs
  | _ => first | rfl | simp [AV.single] at hs

/-- A value's cells are its value's cells. -/
theorem VRel.cells {I : Imm} {M : Mp} {x : AV} {v : Value} (h : VRel I M x v) {cs : List AV} (hc : x.cells? = some cs) :
    v.cells.size = cs.length ∧ ∀ (j : Nat) y u, cs[j]? = some y → v.cells[j]? = some u → VRel I M y u := by
  by_cases hs : x.single = true
  · have h1 : x.cells? = some [x] := by cases x <;> first | rfl | simp [AV.single] at hs
    have h2 : v.cells = #[v] := by have := h.one hs; cases v <;> first | rfl | simp [Value.oneCell'] at this
    rw [h1] at hc
    cases hc
    rw [h2]
    refine ⟨rfl, fun j y u hy hu => ?_⟩
    cases j with
    | zero => simp at hy hu; subst hy; subst hu; exact h
    | succ j => simp at hy
  · cases x with
    | agg cs' =>
      cases hc
      obtain ⟨vs, rfl, hsz, hv⟩ := h.agg_inv
      exact ⟨hsz, hv⟩
    | undef => cases hc
    | tup => cases hc
    | _ => simp [AV.single] at hs

/-! ### The heap -/
structure HRel (I : Imm) (M : Mp) (h : Heap) (n : Nat) (w : World) : Prop where
  imm : ∀ b o, I b = some o → w.heap[b]? = some o
  fr : ∀ i, n ≤ i → M i = .fresh
  no : ∀ i, (∀ A sz, M i ≠ .live A sz) → h i = none
  live : ∀ i A sz, M i = .live A sz → A.spot = none ∧ I A.block = none ∧ ∃ blk c el, h i = some blk ∧ w.heap[A.block]? = some (.cells c el (0, 0)) ∧ c.size = sz ∧
    A.off + blk.length ≤ sz ∧ blk.all (·.single) = true ∧ ∀ (j : Nat) x v, blk[j]? = some x → c[A.off + j]? = some v → VRel I M x v
  inj : ∀ i j A sz B sz', M i = .live A sz → M j = .live B sz' → A.block = B.block → i = j

def Live (M : Mp) (b : Nat) : Prop := ∃ i A sz, M i = .live A sz ∧ A.block = b

/-- From one state to a later one: nothing else has turned. -/
structure Ext (I : Imm) (M : Mp) (w : World) (I' : Imm) (M' : Mp) (w' : World) : Prop where
  os : w'.os = w.os
  tape : w'.tape = w.tape
  output : w'.output = w.output
  size : w.heap.size ≤ w'.heap.size
  keep : ∀ b, b < w.heap.size → ¬ Live M b → w'.heap[b]? = w.heap[b]?
  imm : ILe I I'
  mp : MLe M M'
  newI : ∀ b, b < w.heap.size → I b = none → ¬ Live M b → I' b = none
  newL : ∀ b, Live M' b → Live M b ∨ w.heap.size ≤ b

theorem Ext.refl (I : Imm) (M : Mp) (w : World) : Ext I M w I M w := ⟨rfl, rfl, rfl, Nat.le_refl _, fun _ _ _ => rfl, .refl _, .refl _, fun _ _ h _ => h, fun _ h => .inl h⟩

theorem Ext.trans {I I' I'' : Imm} {M M' M'' : Mp} {w w' w'' : World} (h : Ext I M w I' M' w') (k : Ext I' M' w' I'' M'' w'') : Ext I M w I'' M'' w'' := by
  have nl : ∀ b, b < w.heap.size → ¬ Live M b → ¬ Live M' b := fun b hb hn hl => (h.newL b hl).elim hn (fun h1 => by omega)
  refine ⟨k.os.trans h.os, k.tape.trans h.tape, k.output.trans h.output, Nat.le_trans h.size k.size, ?_, h.imm.trans k.imm, h.mp.trans k.mp, ?_, ?_⟩
  · intro b hb hn
    rw [k.keep b (Nat.lt_of_lt_of_le hb h.size) (nl b hb hn), h.keep b hb hn]
  · intro b hb hi hn
    exact k.newI b (Nat.lt_of_lt_of_le hb h.size) (h.newI b hb hi hn) (nl b hb hn)
  · intro b hl
    rcases k.newL b hl with h1 | h1
    · exact h.newL b h1
    · exact .inr (Nat.le_trans h.size h1)

/-- A draw. -/
theorem HRel.drew {I : Imm} {M : Mp} {h : Heap} {n : Nat} {w : World} (H : HRel I M h n w) : HRel I M h n w.drew := ⟨H.imm, H.fr, H.no, H.live, H.inj⟩
theorem Ext.drew (I : Imm) (M : Mp) (w : World) : Ext I M w I M w.drew := ⟨rfl, rfl, rfl, Nat.le_refl _, fun _ _ _ => rfl, .refl _, .refl _, fun _ _ h _ => h, fun _ h => .inl h⟩

def updM (M : Mp) (i : Nat) (s : MS) : Mp := fun j => if j = i then s else M j
def upd1 (h : Heap) (i : Nat) (b : Option Blk) : Heap := fun j => if j = i then b else h j

theorem updM_le {M : Mp} {i : Nat} {s : MS} (h : M i = .fresh ∨ s = .gone) (hs : s = .gone ∨ ∃ A sz, s = .live A sz) : MLe M (updM M i s) := by
  intro j
  unfold updM
  by_cases hj : j = i
  · subst hj
    rw [if_pos rfl]
    rcases h with h | h
    · rw [h]; trivial
    · subst h; cases M j <;> simp
  · rw [if_neg hj]; cases M j <;> simp

theorem Live.lt {I : Imm} {M : Mp} {h : Heap} {n : Nat} {w : World} (H : HRel I M h n w) {b : Nat} (hl : Live M b) : b < w.heap.size := by
  obtain ⟨i, A, sz, hm, rfl⟩ := hl
  obtain ⟨_, _, blk, c, el, _, hw, _⟩ := H.live i A sz hm
  rcases Nat.lt_or_ge A.block w.heap.size with h | h
  · exact h
  · simp [Array.getElem?_eq_none h] at hw

/-- A NEW BLOCK at a slot that was not there yet. -/
theorem HRel.alloc {I : Imm} {M : Mp} {h : Heap} {n : Nat} {w : World} (H : HRel I M h n w) {i : Nat} (hi : M i = .fresh) (hn : i < n) {blk : Blk} {c : Array Value} {el : TypeId}
    (hl : blk.length ≤ c.size) (h1 : blk.all (·.single) = true) (hc : ∀ (j : Nat) x v, blk[j]? = some x → c[j]? = some v → VRel I M x v) :
    HRel I (updM M i (.live ⟨w.heap.size, 0, none⟩ c.size)) (upd1 h i (some blk)) n (w.alloc (.cells c el)) ∧
    Ext I M w I (updM M i (.live ⟨w.heap.size, 0, none⟩ c.size)) (w.alloc (.cells c el)) := by
  have hle : MLe M (updM M i (.live ⟨w.heap.size, 0, none⟩ c.size)) := updM_le (.inl hi) (.inr ⟨_, _, rfl⟩)
  have hold : ∀ b, b < w.heap.size → (w.alloc (.cells c el)).heap[b]? = w.heap[b]? := fun b hb => Below.heap_alloc w _ b hb
  have hnew : (w.alloc (.cells c el)).heap[w.heap.size]? = some (.cells c el (0, 0)) := by
    show (w.heap.push _)[w.heap.size]? = _
    simp
  have hImm : ∀ b o, I b = some o → b < w.heap.size := fun b o hb => by
    have := H.imm b o hb
    rcases Nat.lt_or_ge b w.heap.size with h | h
    · exact h
    · simp [Array.getElem?_eq_none h] at this
  refine ⟨⟨?_, ?_, ?_, ?_, ?_⟩, ⟨rfl, rfl, rfl, by simp, fun b hb _ => hold b hb, .refl _, hle, fun _ _ h _ => h, ?_⟩⟩
  · intro b o hb
    rw [hold b (hImm b o hb)]; exact H.imm b o hb
  · intro j hj
    have : j ≠ i := by omega
    simp only [updM, if_neg this]; exact H.fr j hj
  · intro j hj
    by_cases e : j = i
    · subst e; exact absurd (by simp [updM]) (hj ⟨w.heap.size, 0, none⟩ c.size)
    · simp only [upd1, if_neg e]; exact H.no j (fun A sz hm => hj A sz (by simp only [updM, if_neg e]; exact hm))
  · intro j A sz hm
    by_cases e : j = i
    · subst e
      simp only [updM, if_pos] at hm
      cases hm
      refine ⟨rfl, ?_, blk, c, el, by simp [upd1], hnew, rfl, by simpa using hl, h1, fun k x v hx hv => (hc k x v hx (by simpa using hv)).mono (.refl _) hle⟩
      cases hI : I w.heap.size with
      | none => rfl
      | some o => exact absurd (hImm _ _ hI) (by omega)
    · simp only [updM, if_neg e] at hm
      obtain ⟨g1, g2, b', c', el', g3, g4, g5, g6, g7, g8⟩ := H.live j A sz hm
      refine ⟨g1, g2, b', c', el', by simp only [upd1, if_neg e]; exact g3, ?_, g5, g6, g7, fun k x v hx hv => (g8 k x v hx hv).mono (.refl _) hle⟩
      rw [hold _ (Live.lt H ⟨j, A, sz, hm, rfl⟩)]; exact g4
  · intro j k A sz B sz' hj hk hb
    by_cases ej : j = i <;> by_cases ek : k = i
    · omega
    · simp only [updM, ej, if_pos, if_neg ek] at hj hk
      cases hj
      have := Live.lt H ⟨k, B, sz', hk, rfl⟩
      simp only at hb
      omega
    · simp only [updM, ek, if_pos, if_neg ej] at hj hk
      cases hk
      have := Live.lt H ⟨j, A, sz, hj, rfl⟩
      simp only at hb
      omega
    · simp only [updM, if_neg ej, if_neg ek] at hj hk
      exact H.inj j k A sz B sz' hj hk hb
  · rintro b ⟨j, A, sz, hm, rfl⟩
    by_cases e : j = i
    · simp only [updM, e, if_pos] at hm; cases hm; exact .inr (Nat.le_refl _)
    · simp only [updM, if_neg e] at hm; exact .inl ⟨j, A, sz, hm, rfl⟩

/-- A BLOCK'S CELLS WRITTEN. -/
theorem HRel.write {I : Imm} {M : Mp} {h : Heap} {n : Nat} {w w' : World} (H : HRel I M h n w) {i : Nat} {A : Addr} {sz : Nat} (hm : M i = .live A sz) {blk : Blk} {c : Array Value} {el : TypeId}
    (hos : w'.os = w.os) (htape : w'.tape = w.tape) (hout : w'.output = w.output) (hsize : w'.heap.size = w.heap.size)
    (hother : ∀ b, b ≠ A.block → w'.heap[b]? = w.heap[b]?) (hthis : w'.heap[A.block]? = some (.cells c el (0, 0))) (hc : c.size = sz)
    (hl : A.off + blk.length ≤ sz) (h1 : blk.all (·.single) = true) (hr : ∀ (j : Nat) x v, blk[j]? = some x → c[A.off + j]? = some v → VRel I M x v) :
    HRel I M (upd1 h i (some blk)) n w' ∧ Ext I M w I M w' := by
  obtain ⟨g1, g2, _⟩ := H.live i A sz hm
  refine ⟨⟨?_, H.fr, ?_, ?_, H.inj⟩, ⟨hos, htape, hout, Nat.le_of_eq hsize.symm, ?_, .refl _, .refl _, fun _ _ h _ => h, fun _ h => .inl h⟩⟩
  · intro b o hb
    have : b ≠ A.block := fun e => by rw [e, g2] at hb; cases hb
    rw [hother b this]; exact H.imm b o hb
  · intro j hj
    have : j ≠ i := fun e => hj A sz (e ▸ hm)
    simp only [upd1, if_neg this]; exact H.no j hj
  · intro j B sz' hj
    by_cases e : j = i
    · subst e
      rw [hm] at hj
      cases hj
      exact ⟨g1, g2, blk, c, el, by simp [upd1], hthis, hc, hl, h1, hr⟩
    · obtain ⟨k1, k2, b', c', el', k3, k4, k5⟩ := H.live j B sz' hj
      have hne : B.block ≠ A.block := fun hb => e (H.inj j i B sz' A sz hj hm hb)
      exact ⟨k1, k2, b', c', el', by simp only [upd1, if_neg e]; exact k3, by rw [hother _ hne]; exact k4, k5⟩
  · intro b _ hn
    exact hother b (fun e => hn ⟨i, A, sz, hm, e.symm⟩)

/-- A BLOCK IS GONE. -/
theorem HRel.drop {I : Imm} {M : Mp} {h : Heap} {n : Nat} {w : World} (H : HRel I M h n w) {i : Nat} (hi : i < n) :
    HRel I (updM M i .gone) (upd1 h i none) n w ∧ Ext I M w I (updM M i .gone) w := by
  have hle : MLe M (updM M i .gone) := updM_le (.inr rfl) (.inl rfl)
  refine ⟨⟨H.imm, ?_, ?_, ?_, ?_⟩, ⟨rfl, rfl, rfl, Nat.le_refl _, fun _ _ _ => rfl, .refl _, hle, fun _ _ h _ => h, ?_⟩⟩
  · intro j hj
    have : j ≠ i := by omega
    simp only [updM, if_neg this]; exact H.fr j hj
  · intro j hj
    by_cases e : j = i
    · simp [upd1, e]
    · simp only [upd1, if_neg e]; exact H.no j (fun A sz hm => hj A sz (by simp only [updM, if_neg e]; exact hm))
  · intro j A sz hm
    by_cases e : j = i
    · simp only [updM, e, if_pos] at hm; cases hm
    · simp only [updM, if_neg e] at hm
      obtain ⟨g1, g2, b', c', el', g3, g4, g5, g6, g7, g8⟩ := H.live j A sz hm
      exact ⟨g1, g2, b', c', el', by simp only [upd1, if_neg e]; exact g3, g4, g5, g6, g7, fun k x v hx hv => (g8 k x v hx hv).mono (.refl _) hle⟩
  · intro j k A sz B sz' hj hk hb
    by_cases ej : j = i
    · simp only [updM, ej, if_pos] at hj; cases hj
    · by_cases ek : k = i
      · simp only [updM, ek, if_pos] at hk; cases hk
      · simp only [updM, if_neg ej, if_neg ek] at hj hk
        exact H.inj j k A sz B sz' hj hk hb
  · rintro b ⟨j, A, sz, hm, rfl⟩
    by_cases e : j = i
    · simp only [updM, e, if_pos] at hm; cases hm
    · simp only [updM, if_neg e] at hm; exact .inl ⟨j, A, sz, hm, rfl⟩

/-- A BLOCK THAT IS GONE LENDS ITS PLACE TO A NEW ONE (an append in place): 'i' was live and becomes gone, 'k' was not there yet. -/
theorem HRel.move {I : Imm} {M : Mp} {h : Heap} {n : Nat} {w : World} (H : HRel I M h n w) {i k : Nat} {A : Addr} {sz : Nat} (hm : M i = .live A sz) (hk : M k = .fresh) (hkn : k < n) {d m : Nat} {blk : Blk}
    (hi : h i = some blk) (hd : d + m ≤ blk.length) :
    HRel I (updM (updM M i .gone) k (.live ⟨A.block, A.off + d, none⟩ sz)) (upd1 (upd1 h i none) k (some (cut blk d m))) n w ∧
    Ext I M w I (updM (updM M i .gone) k (.live ⟨A.block, A.off + d, none⟩ sz)) w := by
  have hin : i < n := by
    rcases Nat.lt_or_ge i n with h | h
    · exact h
    · rw [H.fr i h] at hm; cases hm
  have hne : k ≠ i := fun e => by rw [e, hm] at hk; cases hk
  have hle1 : MLe M (updM M i .gone) := updM_le (.inr rfl) (.inl rfl)
  have hk' : (updM M i .gone) k = .fresh := by simp only [updM, if_neg hne]; exact hk
  have hle2 : MLe (updM M i .gone) (updM (updM M i .gone) k (.live ⟨A.block, A.off + d, none⟩ sz)) := updM_le (.inl hk') (.inr ⟨_, _, rfl⟩)
  have hle := hle1.trans hle2
  obtain ⟨g1, g2, b0, c0, el0, g3, g4, g5, g6, g7, g8⟩ := H.live i A sz hm
  rw [hi] at g3
  cases g3
  have hcut : (cut blk d m).length = m := by simp [cut]; omega
  have hcutget : ∀ j x, (cut blk d m)[j]? = some x → blk[d + j]? = some x := fun j x hx => by
    unfold cut at hx
    rw [List.getElem?_take] at hx
    split at hx
    · rw [List.getElem?_drop] at hx; exact hx
    · cases hx
  refine ⟨⟨H.imm, ?_, ?_, ?_, ?_⟩, ⟨rfl, rfl, rfl, Nat.le_refl _, fun _ _ _ => rfl, .refl _, hle, fun _ _ h _ => h, ?_⟩⟩
  · intro j hj
    simp only [updM, if_neg (show j ≠ k by omega), if_neg (show j ≠ i by omega)]; exact H.fr j hj
  · intro j hj
    by_cases e : j = k
    · subst e; exact absurd (by simp [updM]) (hj ⟨A.block, A.off + d, none⟩ sz)
    · by_cases e2 : j = i
      · simp only [upd1, if_neg e, if_pos e2]
      · simp only [upd1, if_neg e, if_neg e2]; exact H.no j (fun B s hB => hj B s (by simp only [updM, if_neg e, if_neg e2]; exact hB))
  · intro j B s hB
    by_cases e : j = k
    · subst e
      simp only [updM, if_pos] at hB
      cases hB
      refine ⟨rfl, g2, cut blk d m, c0, el0, by simp [upd1], g4, g5, by simp only [hcut]; omega, ?_, fun t x v hx hv => (g8 (d + t) x v (hcutget t x hx) (by simpa [Nat.add_assoc] using hv)).mono (.refl _) hle⟩
      rw [List.all_eq_true] at g7 ⊢
      intro x hx
      exact g7 x (List.mem_of_mem_drop (List.mem_of_mem_take hx))
    · by_cases e2 : j = i
      · simp only [updM, if_neg e, if_pos e2] at hB; cases hB
      · simp only [updM, if_neg e, if_neg e2] at hB
        obtain ⟨k1, k2, b', c', el', k3, k4, k5, k6, k7, k8⟩ := H.live j B s hB
        exact ⟨k1, k2, b', c', el', by simp only [upd1, if_neg e, if_neg e2]; exact k3, k4, k5, k6, k7, fun t x v hx hv => (k8 t x v hx hv).mono (.refl _) hle⟩
  · intro j l B s C s' hj hl hb
    have key : ∀ j B s, updM (updM M i .gone) k (.live ⟨A.block, A.off + d, none⟩ sz) j = .live B s → (j = k ∧ B.block = A.block) ∨ (j ≠ k ∧ j ≠ i ∧ M j = .live B s) := fun j B s hj => by
      by_cases e : j = k
      · subst e; simp only [updM, if_pos] at hj; cases hj; exact .inl ⟨rfl, rfl⟩
      · by_cases e2 : j = i
        · simp only [updM, if_neg e, if_pos e2] at hj; cases hj
        · simp only [updM, if_neg e, if_neg e2] at hj; exact .inr ⟨e, e2, hj⟩
    rcases key j B s hj with ⟨rfl, h1⟩ | ⟨a1, a2, a3⟩ <;> rcases key l C s' hl with ⟨rfl, h2⟩ | ⟨b1, b2, b3⟩
    · rfl
    · exact absurd (H.inj l i C s' A sz b3 hm (by rw [← hb, h1])) b2
    · exact absurd (H.inj j i B s A sz a3 hm (by rw [hb, h2])) a2
    · exact H.inj j l B s C s' a3 b3 hb
  · rintro b ⟨j, B, s, hB, rfl⟩
    by_cases e : j = k
    · subst e; simp only [updM, if_pos] at hB; cases hB; exact .inl ⟨i, A, sz, hm, rfl⟩
    · by_cases e2 : j = i
      · simp only [updM, if_neg e, if_pos e2] at hB; cases hB
      · simp only [updM, if_neg e, if_neg e2] at hB; exact .inl ⟨j, B, s, hB, rfl⟩

end Go.Ab
