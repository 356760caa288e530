/- Calls, statements, orders: the abstract machine's run. -/
import Derived.Test.YtmcejlhkohbdfaaAb4d
set_option linter.unusedVariables false
set_option linter.unusedSimpArgs false
namespace Go.Ab
open Go.RowKit

/-! ### Contracts -/
def Callable (P : Program) (f : FuncId) : Prop := ∃ fn c, P.funcs[f]? = some fn ∧ fn.body = some c ∧ (fn.name == "runtime.NumGoroutine") = false

/-- Two lists of values, one beside the other. -/
def AllRel (I : Imm) (M : Mp) (args : List AV) (vs : Array Value) : Prop := vs.size = args.length ∧ ∀ (i : Nat) x v, args[i]? = some x → vs[i]? = some v → VRel I M x v

/-- A call whose arguments and answer are values without memory of the call's own: it leaves all that was there as it was. -/
def PCalls (P : Program) (f : FuncId) (args : List AV) (v : AV) : Prop :=
  Callable P f ∧ ∀ (I : Imm) (w : World) (cargs : Array Value), (∀ b o, I b = some o → w.heap[b]? = some o) → AllRel I M0 args cargs →
    Calls P f cargs w fun e w' => ∃ cv I', e = .returned cv ∧ ILe I I' ∧ (∀ b o, I' b = some o → w'.heap[b]? = some o) ∧ PRel I' v cv ∧ Below w.heap.size w w' ∧
      (∀ b, b < w.heap.size → I b = none → I' b = none)

/-- A call that may come to own blocks, read and change them: 'post' tells of the answer, and of the heap. -/
def HCalls (P : Program) (f : FuncId) (args : List AV) (h : Heap) (n : Nat) (post : AV → Heap → Nat → Prop) : Prop :=
  Callable P f ∧ ∀ (I : Imm) (M : Mp) (w : World) (cargs : Array Value), HRel I M h n w → AllRel I M args cargs →
    Calls P f cargs w fun e w' => ∃ cv v I' M' h' n', e = .returned cv ∧ post v h' n' ∧ VRel I' M' v cv ∧ HRel I' M' h' n' w' ∧ Ext I M w I' M' w' ∧ n ≤ n' ∧
      (∀ i, i < n → M i = .fresh → M' i = .fresh)

/-! ### Own slices turned to values -/
/-- A cell that is no own block's. -/
def AV.flat1 : AV → Bool
  | .own .. | .ptr .. | .func .. | .undef | .agg _ | .tup _ => false
  | _ => true

def frz1 (h : Heap) : AV → AV
  | .own b off len e => match h b with
    | some blk => if off + len * e ≤ blk.length ∧ 0 < e ∧ (cut blk off (len * e)).all (·.flat1) then .sl e (chunk e len (cut blk off (len * e))) else .undef
    | none => .undef
  | .ptr _ _ => .undef
  | .func _ _ => .undef
  | .agg _ => .undef
  | .tup _ => .undef
  | x => x

def frz2 (h : Heap) : AV → AV
  | .agg cs => .agg (cs.map (frz1 h))
  | x => frz1 h x

/-- A value without own blocks, as it stands. -/
def frz (h : Heap) : AV → AV
  | .tup vs => .tup (vs.map (frz2 h))
  | x => frz2 h x

def ids1 : AV → List Nat
  | .own b .. => [b]
  | _ => []
def ids2 : AV → List Nat
  | .agg cs => cs.flatMap ids1
  | x => ids1 x

def AV.scal1 : AV → Bool
  | .int .. | .bool _ | .str _ => true
  | _ => false
def AV.scal2 : AV → Bool
  | .agg cs => cs.all (·.scal1)
  | x => x.scal1
/-- Numbers, bools and texts alone. -/
def AV.scalar : AV → Bool
  | .tup vs => vs.all (·.scal2)
  | x => x.scal2

structure ASt where
  τ : Nat → AV
  h : Heap
  n : Nat

def app (st : ASt) (o : Oper) (out : Out) : ASt := { st with τ := putT st.τ o.dst out.v, h := updH st.h out.up }

def awant (ops : Array Oper) (o : Oper) (τ : Nat → AV) : Option Bool :=
  match o.guard with
  | none => some true
  | some (g, want) => match (ops[g]?).bind (·.dst) with
    | some d => match τ d with
      | .bool b => some (b == want)
      | .tup _ => some false
      | _ => none
    | none => some false

/-- Is the slice that is made here only read? ('pa': the slots of such ones) -/
def isPure (pa : List Tmp) (o : Oper) : Bool := match o.dst with | some d => pa.contains d | none => false

def skipOut : Out := { v := .tup [] }

/-- What a call of this kind comes to, as an outcome. -/
def callOut (v : AV) (ids : List Nat) : Out := { v, rd := ids, up := if v.scalar then [] else ids.map (·, none) }

/-- Operation 'o' (its slot 'slot') comes to 'out'. -/
def Res (P : Program) (pa : List Tmp) (ops : Array Oper) (slot : Nat) (o : Oper) (st : ASt) (out : Out) : Prop :=
  (awant ops o st.τ = some true ∧ (aop P (isPure pa o) o.op slot (aev st.τ) st.h = some (.out out) ∨
    ∃ f args v, aop P (isPure pa o) o.op slot (aev st.τ) st.h = some (.call f args) ∧ PCalls P f (args.map (frz2 st.h)) v ∧ out = callOut v (args.flatMap ids2))) ∨
  (awant ops o st.τ = some false ∧ out = skipOut)

/-! ### Statements in the text's order -/
def callK (P : Program) (f : FuncId) (args : List AV) (st : ASt) (K : AV → Heap → Nat → Prop) : Prop :=
  (∃ v, PCalls P f (args.map (frz2 st.h)) v ∧ K v (updH st.h (callOut v (args.flatMap ids2)).up) st.n) ∨
  (∃ post, HCalls P f args st.h st.n post ∧ ∀ v h' n', st.n ≤ n' → post v h' n' → K v h' n')

/-- Own slices of some blocks, taken as only read from here on. -/
def frzT1 (ids : List Nat) (h : Heap) : AV → AV
  | .own b off len e => if b ∈ ids then frz1 h (.own b off len e) else .own b off len e
  | x => x
def frzT (ids : List Nat) (h : Heap) : AV → AV
  | .agg cs => .agg (cs.map (frzT1 ids h))
  | x => frzT1 ids h x

def frzτ (ids : List Nat) (h : Heap) (τ : Nat → AV) : Nat → AV := fun t => frzT ids h (τ t)
def frzSt (ids : List Nat) (st : ASt) (d : Option Tmp) (v : AV) : ASt := { τ := putT (frzτ ids st.h st.τ) d v, h := updH st.h (ids.map (·, none)), n := st.n }

def SWalk (P : Program) (pa : List Tmp) (ops : Array Oper) : List Oper → Nat → ASt → (ASt → Prop) → Prop
  | [], _, st, K => K st
  | o :: rest, slot, st, K =>
    match awant ops o st.τ with
    | some true => match aop P (isPure pa o) o.op slot (aev st.τ) st.h with
      | some (.out out) => SWalk P pa ops rest (slot + 1) (app st o out) K
      | some (.call f args) => (callK P f args st fun v h' n' => SWalk P pa ops rest (slot + 1) { τ := putT st.τ o.dst v, h := h', n := n' } K) ∨
          ∃ v, PCalls P f (args.map (frz2 st.h)) v ∧ SWalk P pa ops rest (slot + 1) (frzSt (args.flatMap ids2) st o.dst v) K
      | none => False
    | some false => SWalk P pa ops rest (slot + 1) (app st o skipOut) K
    | none => False

/-! ### Statements that draw their order -/
def disj (a b : List Nat) : Prop := ∀ x ∈ a, x ∉ b
def outOk (a b : Out) : Prop := disj (a.up.map (·.1)) (b.rd ++ b.up.map (·.1)) ∧ disj (b.up.map (·.1)) a.rd

/-- Does operation 'o' wait for number 'i'? -/
def waitsB (i : Nat) (o : Oper) : Bool := o.after.any fun e => Region.binds .any e && e.on == i

/-- An operation's outcome against those ahead of it: they touch other blocks, or it waits for them. -/
def logOk : List (Nat × Out) → Oper → Out → Prop
  | [], _, _ => True
  | (i, a) :: r, o, b => (outOk a b ∨ waitsB i o = true) ∧ logOk r o b

def hotB (out : Out) : Bool := !(out.up.isEmpty && out.rd.isEmpty)

def DWalk (P : Program) (pa : List Tmp) (ops : Array Oper) : List Oper → Nat → Nat → ASt → List (Nat × Out) → (ASt → Prop) → Prop
  | [], _, _, st, _, K => K st
  | o :: rest, i, slot, st, log, K =>
    match awant ops o st.τ with
    | some true => match aop P (isPure pa o) o.op slot (aev st.τ) st.h with
      | some (.out out) => (if hotB out then logOk log o out else True) ∧ DWalk P pa ops rest (i + 1) (slot + 1) (app st o out) (if hotB out then (i, out) :: log else log) K
      | some (.call f args) => ∃ v, PCalls P f (args.map (frz2 st.h)) v ∧
          (if hotB (callOut v (args.flatMap ids2)) then logOk log o (callOut v (args.flatMap ids2)) else True) ∧
          DWalk P pa ops rest (i + 1) (slot + 1) (app st o (callOut v (args.flatMap ids2))) (if hotB (callOut v (args.flatMap ids2)) then (i, callOut v (args.flatMap ids2)) :: log else log) K
      | none => False
    | some false => DWalk P pa ops rest (i + 1) (slot + 1) (app st o skipOut) log K
    | none => False

def ARegion (P : Program) (pa : List Tmp) (ops : Array Oper) (draw : Bool) (st : ASt) (K : ASt → Prop) : Prop :=
  if draw then DWalk P pa ops ops.toList 0 st.n { st with n := st.n + ops.size } [] K
  else SWalk P pa ops ops.toList st.n { st with n := st.n + ops.size } K

/-! ### The whole -/
def stepF (P : Program) (pa : List Tmp) (Q : ASt → Prop) (X : List Item → ASt → Prop) : List Item → ASt → Prop
  | [], st => Q st
  | .code .skip :: k, st => X k st
  | .code (.seq a b) :: k, st => X (.code a :: .code b :: k) st
  | .code (.cond c a b) :: k, st => match aev st.τ c with
    | .bool t => (t = true → X (.code a :: k) st) ∧ (t = false → X (.code b :: k) st)
    | _ => False
  | .code (.block id c) :: k, st => X (.code c :: .inBlock id :: k) st
  | .code (.loop c) :: k, st => X (.code c :: .inLoop c :: k) st
  | .code (.exit id) :: k, st => match exitTo id k with
    | some k' => X k' st
    | none => False
  | .code .ret :: _, st => Q st
  | .code (.region _ ops draw) :: k, st => ARegion P pa ops draw st (X k)
  | .inBlock _ :: k, st => X k st
  | .inLoop c :: k, st => X (.code c :: .inLoop c :: k) st
  | _, _ => False

def AW (P : Program) (pa : List Tmp) (Q : ASt → Prop) (k : List Item) (st : ASt) : Prop :=
  ∀ S : List Item → ASt → Prop, (∀ k st, stepF P pa Q S k st → S k st) → S k st

theorem SWalk_mono {P : Program} {pa : List Tmp} {ops : Array Oper} {K K' : ASt → Prop} (hK : ∀ st, K st → K' st) : ∀ (l : List Oper) (slot : Nat) (st : ASt), SWalk P pa ops l slot st K → SWalk P pa ops l slot st K'
  | [], _, st, h => hK st h
  | o :: rest, slot, st, h => by
    simp only [SWalk] at h ⊢
    split at h
    · split at h
      · exact SWalk_mono hK rest _ _ h
      · refine h.imp (fun h => h.imp (fun ⟨v, h1, h3⟩ => ⟨v, h1, SWalk_mono hK rest _ _ h3⟩) (fun ⟨post, h1, h2⟩ => ⟨post, h1, fun v h' n' hn hp => SWalk_mono hK rest _ _ (h2 v h' n' hn hp)⟩)) (fun ⟨v, h1, h3⟩ => ⟨v, h1, SWalk_mono hK rest _ _ h3⟩)
      · exact h
    · exact SWalk_mono hK rest _ _ h
    · exact h

theorem DWalk_mono {P : Program} {pa : List Tmp} {ops : Array Oper} {K K' : ASt → Prop} (hK : ∀ st, K st → K' st) : ∀ (l : List Oper) (i slot : Nat) (st : ASt) (log : List (Nat × Out)), DWalk P pa ops l i slot st log K → DWalk P pa ops l i slot st log K'
  | [], _, _, st, _, h => hK st h
  | o :: rest, i, slot, st, log, h => by
    simp only [DWalk] at h ⊢
    split at h
    · split at h
      · exact ⟨h.1, DWalk_mono hK rest _ _ _ _ h.2⟩
      · obtain ⟨v, h1, h3, h4⟩ := h
        exact ⟨v, h1, h3, DWalk_mono hK rest _ _ _ _ h4⟩
      · exact h
    · exact DWalk_mono hK rest _ _ _ _ h
    · exact h

theorem ARegion_mono {P : Program} {pa : List Tmp} {ops : Array Oper} {draw : Bool} {K K' : ASt → Prop} (hK : ∀ st, K st → K' st) {st : ASt} (h : ARegion P pa ops draw st K) : ARegion P pa ops draw st K' := by
  unfold ARegion at *
  cases draw with
  | true => exact DWalk_mono hK _ _ _ _ _ h
  | false => exact SWalk_mono hK _ _ _ h

theorem stepF_mono {P : Program} {pa : List Tmp} {Q : ASt → Prop} {X Y : List Item → ASt → Prop} (hX : ∀ k st, X k st → Y k st) : ∀ (k : List Item) (st : ASt), stepF P pa Q X k st → stepF P pa Q Y k st := by
  intro k st h
  unfold stepF at *
  split at h <;> first
    | exact h
    | exact hX _ _ h
    | exact ARegion_mono (hX _) h
    | (split at h <;> first | exact hX _ _ h | exact ⟨fun e => hX _ _ (h.1 e), fun e => hX _ _ (h.2 e)⟩ | exact h)

theorem AW_unfold {P : Program} {pa : List Tmp} {Q : ASt → Prop} (k : List Item) (st : ASt) : AW P pa Q k st = stepF P pa Q (AW P pa Q) k st := by
  have fold : ∀ k st, stepF P pa Q (AW P pa Q) k st → AW P pa Q k st := fun k st h S hS =>
    hS k st (stepF_mono (fun k st h => h S hS) k st h)
  refine propext ⟨fun h => h _ fun k st h => stepF_mono fold k st h, fold k st⟩

section
variable {P : Program} {pa : List Tmp} {Q : ASt → Prop} {k : List Item} {st : ASt}
theorem AW_nil : AW P pa Q [] st = Q st := AW_unfold _ _
theorem AW_skip : AW P pa Q (.code .skip :: k) st = AW P pa Q k st := AW_unfold _ _
theorem AW_seq {a b : Code} : AW P pa Q (.code (.seq a b) :: k) st = AW P pa Q (.code a :: .code b :: k) st := AW_unfold _ _
theorem AW_cond {c : Operand} {a b : Code} : AW P pa Q (.code (.cond c a b) :: k) st = (match aev st.τ c with
    | .bool t => (t = true → AW P pa Q (.code a :: k) st) ∧ (t = false → AW P pa Q (.code b :: k) st)
    | _ => False) := AW_unfold _ _
theorem AW_block {id : Nat} {c : Code} : AW P pa Q (.code (.block id c) :: k) st = AW P pa Q (.code c :: .inBlock id :: k) st := AW_unfold _ _
theorem AW_loop {c : Code} : AW P pa Q (.code (.loop c) :: k) st = AW P pa Q (.code c :: .inLoop c :: k) st := AW_unfold _ _
theorem AW_exit {id : Nat} : AW P pa Q (.code (.exit id) :: k) st = (match exitTo id k with | some k' => AW P pa Q k' st | none => False) := AW_unfold _ _
theorem AW_ret : AW P pa Q (.code .ret :: k) st = Q st := AW_unfold _ _
theorem AW_region {id : Nat} {ops : Array Oper} {draw : Bool} : AW P pa Q (.code (.region id ops draw) :: k) st = ARegion P pa ops draw st (AW P pa Q k) := AW_unfold _ _
theorem AW_inBlock {id : Nat} : AW P pa Q (.inBlock id :: k) st = AW P pa Q k st := AW_unfold _ _
theorem AW_inLoop {c : Code} : AW P pa Q (.inLoop c :: k) st = AW P pa Q (.code c :: .inLoop c :: k) st := AW_unfold _ _

/-- A loop: what holds at each round's head, and how many rounds are left at most. -/
theorem AW_while (J : Nat → ASt → Prop) {c : Code} (m : Nat) (h0 : J m st) (round : ∀ m st, J m st → (∀ m' st', m' < m → J m' st' → AW P pa Q (.inLoop c :: k) st') → AW P pa Q (.code c :: .inLoop c :: k) st) : AW P pa Q (.code (.loop c) :: k) st := by
  rw [AW_loop]
  have key : ∀ m st, J m st → AW P pa Q (.code c :: .inLoop c :: k) st := by
    intro m
    induction m using Nat.strongRecOn with
    | _ m ih => exact fun st hJ => round m st hJ fun m' st' hm hJ' => by rw [AW_inLoop]; exact ih m' hm st' hJ'
  exact key m st h0
end
end Go.Ab
