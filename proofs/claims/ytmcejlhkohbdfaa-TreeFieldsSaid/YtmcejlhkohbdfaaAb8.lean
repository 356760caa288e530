/- Running the abstract machine by rewriting ('simp only [go_sem]'). -/
import Derived.Test.YtmcejlhkohbdfaaAb7
set_option linter.unusedVariables false
set_option linter.unusedSimpArgs false
namespace Go.Ab

section
variable {P : Program} {pa : List Tmp} {Q : ASt → Prop} {k : List Item} {st : ASt} {ops : Array Oper} {K : ASt → Prop}

theorem putT_same (τ : Nat → AV) (d : Nat) (v : AV) : putT τ (some d) v d = v := by simp [putT]
theorem putT_ne (τ : Nat → AV) (d t : Nat) (v : AV) (h : t ≠ d) : putT τ (some d) v t = τ t := by simp [putT, h]
theorem frzτ_app (ids : List Nat) (h : Heap) (τ : Nat → AV) (t : Nat) : frzτ ids h τ t = frzT ids h (τ t) := rfl
theorem putT_none (τ : Nat → AV) (v : AV) : putT τ none v = τ := rfl
theorem updH_nil (h : Heap) : updH h [] = h := rfl
theorem updH_cons (h : Heap) (i : Nat) (b : Option Blk) (r : List (Nat × Option Blk)) : updH h ((i, b) :: r) = updH (upd1 h i b) r := rfl
theorem upd1_same (h : Heap) (i : Nat) (b : Option Blk) : upd1 h i b i = b := by simp [upd1]
theorem upd1_ne (h : Heap) (i j : Nat) (b : Option Blk) (hne : j ≠ i) : upd1 h i b j = h j := by simp [upd1, hne]
/-- A block that was there already is none of those that the call itself has made since. -/
theorem upd1_old (h : Heap) (n i j : Nat) (b : Option Blk) (hj : j < n) : upd1 h (n + i) b j = h j := by simp only [upd1]; rw [if_neg (by omega)]

theorem AW_true {c : Operand} {a b : Code} (h : aev st.τ c = .bool true) : AW P pa Q (.code (.cond c a b) :: k) st = AW P pa Q (.code a :: k) st := by rw [AW_cond, h]; simp
theorem AW_false {c : Operand} {a b : Code} (h : aev st.τ c = .bool false) : AW P pa Q (.code (.cond c a b) :: k) st = AW P pa Q (.code b :: k) st := by rw [AW_cond, h]; simp
/-- A test that is not decided: both ways. -/
theorem AW_ite {c : Operand} {a b : Code} {t : Bool} (h : aev st.τ c = .bool t) (h1 : t = true → AW P pa Q (.code a :: k) st) (h2 : t = false → AW P pa Q (.code b :: k) st) : AW P pa Q (.code (.cond c a b) :: k) st := by
  rw [AW_cond, h]; exact ⟨h1, h2⟩

def waitsL (i : Nat) : List Edge → Bool
  | [] => false
  | e :: r => (Region.binds .any e && e.on == i) || waitsL i r
theorem waitsB_list (i : Nat) (o : Oper) : waitsB i o = waitsL i o.after.toList := by
  unfold waitsB
  rw [← Array.any_toList]
  induction o.after.toList with
  | nil => rfl
  | cons e r ih => simp only [List.any_cons, waitsL, ih]
theorem disj_nil (b : List Nat) : disj [] b = True := by simp [disj]
theorem disj_cons (x : Nat) (a b : List Nat) : disj (x :: a) b = (x ∉ b ∧ disj a b) := by simp [disj]
theorem old_ne {b n : Nat} (h : b < n) (k : Nat) : (b = n + k) = False := eq_false (by omega)
theorem old_ne0 {b n : Nat} (h : b < n) : (b = n) = False := eq_false (by omega)
theorem new_ne {b n : Nat} (h : b < n) (k : Nat) : (n + k = b) = False := eq_false (by omega)
theorem new_ne0 {b n : Nat} (h : b < n) : (n = b) = False := eq_false (by omega)
theorem binds_data (i : Nat) : Region.binds .any { on := i, ground := .data } = true := rfl
theorem binds_chain (i : Nat) : Region.binds .any { on := i, ground := .chain } = true := rfl
theorem binds_guard (i : Nat) : Region.binds .any { on := i, ground := .guard } = true := rfl
theorem binds_phase (i : Nat) : Region.binds .any { on := i, ground := .phase } = true := rfl

/-! ### Statement by statement -/
def callS (P : Program) (pa : List Tmp) (ops : Array Oper) (o : Oper) (rest : List Oper) (slot : Nat) (st : ASt) (K : ASt → Prop) (f : FuncId) (args pargs : List AV) (ids : List Nat) : Prop :=
  (callK P f args st fun v h' n' => SWalk P pa ops rest (slot + 1) { τ := putT st.τ o.dst v, h := h', n := n' } K) ∨
    ∃ v, PCalls P f (args.map (frz2 st.h)) v ∧ SWalk P pa ops rest (slot + 1) (frzSt (args.flatMap ids2) st o.dst v) K

def SW1 (P : Program) (pa : List Tmp) (ops : Array Oper) (o : Oper) (rest : List Oper) (slot : Nat) (st : ASt) (K : ASt → Prop) : Option Bool → Option Did → Prop
  | some true, some (.out out) => SWalk P pa ops rest (slot + 1) (app st o out) K
  | some true, some (.call f args) => callS P pa ops o rest slot st K f args (args.map (frz2 st.h)) (args.flatMap ids2)
  | some false, _ => SWalk P pa ops rest (slot + 1) (app st o skipOut) K
  | _, _ => False

theorem SW1_out {o : Oper} {rest : List Oper} {slot : Nat} {out : Out} : SW1 P pa ops o rest slot st K (some true) (some (.out out)) = SWalk P pa ops rest (slot + 1) (app st o out) K := rfl
theorem SW1_call {o : Oper} {rest : List Oper} {slot : Nat} {f : FuncId} {args : List AV} : SW1 P pa ops o rest slot st K (some true) (some (.call f args)) = callS P pa ops o rest slot st K f args (args.map (frz2 st.h)) (args.flatMap ids2) := rfl
theorem SW1_skip {o : Oper} {rest : List Oper} {slot : Nat} {d : Option Did} : SW1 P pa ops o rest slot st K (some false) d = SWalk P pa ops rest (slot + 1) (app st o skipOut) K := rfl
theorem SWalk_nil {slot : Nat} : SWalk P pa ops [] slot st K = K st := rfl
theorem SWalk_cons {o : Oper} {rest : List Oper} {slot : Nat} : SWalk P pa ops (o :: rest) slot st K = SW1 P pa ops o rest slot st K (awant ops o st.τ) (aop P (isPure pa o) o.op slot (aev st.τ) st.h) := by
  simp only [SWalk]
  cases awant ops o st.τ with
  | none => rfl
  | some b => cases b with
    | false => simp only [SW1]
    | true => cases aop P (isPure pa o) o.op slot (aev st.τ) st.h with
      | none => rfl
      | some d => cases d <;> rfl

theorem callS_p {o : Oper} {rest : List Oper} {slot : Nat} {f : FuncId} {args pargs : List AV} {ids : List Nat} {v : AV} (hP : PCalls P f pargs v)
    (hk : SWalk P pa ops rest (slot + 1) (app st o (callOut v ids)) K) (ha : args.map (frz2 st.h) = pargs := by first | rfl | (simp only [go_sem]; done)) (hi : args.flatMap ids2 = ids := by first | rfl | (simp only [go_sem]; done)) : callS P pa ops o rest slot st K f args pargs ids := by
  subst ha; subst hi
  exact .inl (.inl ⟨v, hP, hk⟩)
/-- A call, after which its arguments are only read. -/
theorem callS_f {o : Oper} {rest : List Oper} {slot : Nat} {f : FuncId} {args pargs : List AV} {ids : List Nat} {v : AV} (hP : PCalls P f pargs v)
    (hk : SWalk P pa ops rest (slot + 1) (frzSt ids st o.dst v) K) (ha : args.map (frz2 st.h) = pargs := by first | rfl | (simp only [go_sem]; done)) (hi : args.flatMap ids2 = ids := by first | rfl | (simp only [go_sem]; done)) : callS P pa ops o rest slot st K f args pargs ids := by
  subst ha; subst hi
  exact .inr ⟨v, hP, hk⟩
/-- As 'callS_p', the arguments' values given apart. -/
theorem callS_q {o : Oper} {rest : List Oper} {slot : Nat} {f : FuncId} {args pargs pargs' : List AV} {ids ids' : List Nat} {v : AV} (hP : PCalls P f pargs' v) (ha : args.map (frz2 st.h) = pargs') (hi : args.flatMap ids2 = ids')
    (hk : SWalk P pa ops rest (slot + 1) (app st o (callOut v ids')) K) : callS P pa ops o rest slot st K f args pargs ids := by
  subst ha; subst hi
  exact .inl (.inl ⟨v, hP, hk⟩)
theorem callS_h {o : Oper} {rest : List Oper} {slot : Nat} {f : FuncId} {args pargs : List AV} {ids : List Nat} {post : AV → Heap → Nat → Prop} (hH : HCalls P f args st.h st.n post)
    (hk : ∀ v h' n', st.n ≤ n' → post v h' n' → SWalk P pa ops rest (slot + 1) { τ := putT st.τ o.dst v, h := h', n := n' } K) : callS P pa ops o rest slot st K f args pargs ids :=
  .inl (.inr ⟨post, hH, hk⟩)

def callD (P : Program) (pa : List Tmp) (ops : Array Oper) (o : Oper) (rest : List Oper) (i slot : Nat) (st : ASt) (log : List (Nat × Out)) (K : ASt → Prop) (f : FuncId) (pargs : List AV) (ids : List Nat) : Prop :=
  ∃ v, PCalls P f pargs v ∧ (if hotB (callOut v ids) then logOk log o (callOut v ids) else True) ∧
    DWalk P pa ops rest (i + 1) (slot + 1) (app st o (callOut v ids)) (if hotB (callOut v ids) then (i, callOut v ids) :: log else log) K

def logIf (b : Bool) (i : Nat) (out : Out) (log : List (Nat × Out)) : List (Nat × Out) := if b then (i, out) :: log else log
def okIf (b : Bool) (log : List (Nat × Out)) (o : Oper) (out : Out) : Prop := if b then logOk log o out else True
theorem logIf_true (i : Nat) (out : Out) (log : List (Nat × Out)) : logIf true i out log = (i, out) :: log := rfl
theorem logIf_false (i : Nat) (out : Out) (log : List (Nat × Out)) : logIf false i out log = log := rfl
theorem okIf_true (log : List (Nat × Out)) (o : Oper) (out : Out) : okIf true log o out = logOk log o out := rfl
theorem okIf_false (log : List (Nat × Out)) (o : Oper) (out : Out) : okIf false log o out = True := rfl

def DW1 (P : Program) (pa : List Tmp) (ops : Array Oper) (o : Oper) (rest : List Oper) (i slot : Nat) (st : ASt) (log : List (Nat × Out)) (K : ASt → Prop) : Option Bool → Option Did → Prop
  | some true, some (.out out) => okIf (hotB out) log o out ∧ DWalk P pa ops rest (i + 1) (slot + 1) (app st o out) (logIf (hotB out) i out log) K
  | some true, some (.call f args) => callD P pa ops o rest i slot st log K f (args.map (frz2 st.h)) (args.flatMap ids2)
  | some false, _ => DWalk P pa ops rest (i + 1) (slot + 1) (app st o skipOut) log K
  | _, _ => False

theorem DW1_out {o : Oper} {rest : List Oper} {i slot : Nat} {log : List (Nat × Out)} {out : Out} : DW1 P pa ops o rest i slot st log K (some true) (some (.out out)) = (okIf (hotB out) log o out ∧ DWalk P pa ops rest (i + 1) (slot + 1) (app st o out) (logIf (hotB out) i out log) K) := rfl
theorem DW1_call {o : Oper} {rest : List Oper} {i slot : Nat} {log : List (Nat × Out)} {f : FuncId} {args : List AV} : DW1 P pa ops o rest i slot st log K (some true) (some (.call f args)) = callD P pa ops o rest i slot st log K f (args.map (frz2 st.h)) (args.flatMap ids2) := rfl
theorem DW1_skip {o : Oper} {rest : List Oper} {i slot : Nat} {log : List (Nat × Out)} {d : Option Did} : DW1 P pa ops o rest i slot st log K (some false) d = DWalk P pa ops rest (i + 1) (slot + 1) (app st o skipOut) log K := rfl
theorem DWalk_nil {i slot : Nat} {log : List (Nat × Out)} : DWalk P pa ops [] i slot st log K = K st := rfl
theorem DWalk_cons {o : Oper} {rest : List Oper} {i slot : Nat} {log : List (Nat × Out)} : DWalk P pa ops (o :: rest) i slot st log K = DW1 P pa ops o rest i slot st log K (awant ops o st.τ) (aop P (isPure pa o) o.op slot (aev st.τ) st.h) := by
  simp only [DWalk]
  cases awant ops o st.τ with
  | none => rfl
  | some b => cases b with
    | false => simp only [DW1]
    | true => cases aop P (isPure pa o) o.op slot (aev st.τ) st.h with
      | none => rfl
      | some d => cases d <;> rfl

theorem callD_p {o : Oper} {rest : List Oper} {i slot : Nat} {log : List (Nat × Out)} {f : FuncId} {pargs : List AV} {ids : List Nat} {v : AV} (hP : PCalls P f pargs v)
    (hk : okIf (hotB (callOut v ids)) log o (callOut v ids) ∧ DWalk P pa ops rest (i + 1) (slot + 1) (app st o (callOut v ids)) (logIf (hotB (callOut v ids)) i (callOut v ids) log) K) : callD P pa ops o rest i slot st log K f pargs ids :=
  ⟨v, hP, hk.1, hk.2⟩

theorem ARegion_true : ARegion P pa ops true st K = DWalk P pa ops ops.toList 0 st.n { st with n := st.n + ops.size } [] K := rfl
theorem ARegion_false : ARegion P pa ops false st K = SWalk P pa ops ops.toList st.n { st with n := st.n + ops.size } K := rfl

theorem isPure_none (pa : List Tmp) (o : Oper) (h : o.dst = none) : isPure pa o = false := by unfold isPure; rw [h]
theorem isPure_some (pa : List Tmp) (o : Oper) : isPure pa o = (match o.dst with | some d => pa.contains d | none => false) := rfl
theorem isPure_nil (o : Oper) : isPure [] o = false := by unfold isPure; cases o.dst <;> rfl
end

theorem aev_tmp (τ : Nat → AV) (t : Nat) : aev τ (.tmp t) = τ t := rfl
theorem aev_const (τ : Nat → AV) (v : Value) : aev τ (.const v) = absV v := rfl
theorem aev_func (τ : Nat → AV) (f : FuncId) : aev τ (.func f) = .func f [] := rfl

theorem getAs_false (n : Nat) (cs : List AV) : getAs false n cs = cs.head? := rfl
theorem getAs_true {n : Nat} {cs : List AV} (h : n ≤ cs.length) : getAs true n cs = some (.agg (cs.take n)) := by simp [getAs, h]

/-- A value's cells. -/
def cellsD (x : AV) : List AV := (x.cells?).getD []
theorem cellsD_app (x : AV) : cellsD x = (x.cells?).getD [] := rfl
theorem srcCells_nil (h : Heap) (e : Nat) : srcCells h e .nilsl = some ([], 0, []) := rfl
theorem srcCells_sl (h : Heap) (e s : Nat) (xs : List AV) : srcCells h e (.sl s xs) = if s = e then some (xs.flatMap cellsD, xs.length, []) else none := rfl
theorem srcCells_own (h : Heap) (e b off len s : Nat) : srcCells h e (.own b off len s) = (match h b with
    | some blk => if s = e ∧ off + len * e ≤ blk.length then some (cut blk off (len * e), len, [b]) else none
    | none => none) := rfl

/-- A flat struct's types, where its values may be held against each other. -/
def flatTs (P : Program) (t : TypeId) : Option (List TypeId) := match P.underlying t with
  | some (.struct fs) => if flatType P t fs then some (fs.toList.map (·.type)) else none
  | _ => none
def tyEq (P : Program) : List TypeId → List AV → List AV → Option Bool
  | [], [], [] => some true
  | t :: ts, x :: xs, y :: ys => match scEq P t x y, tyEq P ts xs ys with
    | some a, some b => some (a && b)
    | _, _ => none
  | _, _, _ => none
theorem flatEq_ty (P : Program) : ∀ (fs : List Field) (xs ys : List AV), flatEq P fs xs ys = tyEq P (fs.map (·.type)) xs ys
  | [], [], [] => rfl
  | [], [], _ :: _ => rfl
  | [], _ :: _, [] => rfl
  | [], _ :: _, _ :: _ => rfl
  | _ :: _, [], _ => rfl
  | _ :: _, _ :: _, [] => rfl
  | f :: fs, x :: xs, y :: ys => by
    simp only [flatEq, List.map_cons, tyEq, flatEq_ty P fs xs ys]
    rcases scEq P f.type x y with _ | a <;> rcases tyEq P (fs.map (·.type)) xs ys with _ | b <;> rfl
theorem aeq_agg (P : Program) (t : TypeId) (xs ys : List AV) : aeq P t (.agg xs) (.agg ys) = (match flatTs P t with | some ts => tyEq P ts xs ys | none => none) := by
  unfold aeq flatTs
  rcases hu : P.underlying t with _ | u
  · rfl
  · cases u with
    | struct fs =>
      simp only
      by_cases hf : flatType P t fs = true
      · rw [if_pos hf, if_pos hf]; exact flatEq_ty P _ _ _
      · rw [if_neg hf, if_neg hf]
    | _ => rfl
theorem aeq_bool (P : Program) (t : TypeId) (a b : Bool) : aeq P t (.bool a) (.bool b) = (match P.underlying t with | some .bool => some (a == b) | _ => none) := rfl
theorem aeq_nil_nil (P : Program) (t : TypeId) : aeq P t .nilsl .nilsl = (match P.underlying t with | some (.slice _) => some true | _ => none) := rfl
theorem aeq_own_nil (P : Program) (t : TypeId) (b o l e : Nat) : aeq P t (.own b o l e) .nilsl = (match P.underlying t with | some (.slice _) => some false | _ => none) := rfl
theorem aeq_sl_nil (P : Program) (t : TypeId) (e : Nat) (x : AV) (l : List AV) : aeq P t (.sl e (x :: l)) .nilsl = (match P.underlying t with | some (.slice _) => some false | _ => none) := rfl
theorem aeq_nilp (P : Program) (t : TypeId) : aeq P t .nilp .nilp = (match P.underlying t with | some (.pointer _) => some true | _ => none) := rfl
theorem aeq_ptr (P : Program) (t : TypeId) (b o : Nat) : aeq P t (.ptr b o) .nilp = (match P.underlying t with | some (.pointer _) => some false | _ => none) := rfl
theorem aeq_pp (P : Program) (t : TypeId) (cs : List AV) : aeq P t (.pp cs) .nilp = (match P.underlying t with | some (.pointer _) => some false | _ => none) := rfl

theorem wrap64_id {x : Int} (h0 : -9223372036854775808 ≤ x) (h1 : x ≤ 9223372036854775807) : IntKind.i64.wrap x = x := by
  unfold IntKind.wrap
  simp only [show IntKind.i64.bits = 64 from rfl, show IntKind.i64.signed = true from rfl, Bool.true_and, decide_eq_true_eq]
  split <;> omega
theorem wrapu32_id {x : Int} (h0 : 0 ≤ x) (h1 : x < 4294967296) : IntKind.u32.wrap x = x := by
  unfold IntKind.wrap
  simp only [show IntKind.u32.bits = 32 from rfl, show IntKind.u32.signed = false from rfl, Bool.false_and, Bool.false_eq_true, if_false]
  omega
theorem wrapu64_id {x : Int} (h0 : 0 ≤ x) (h1 : x < 18446744073709551616) : IntKind.u64.wrap x = x := by
  unfold IntKind.wrap
  simp only [show IntKind.u64.bits = 64 from rfl, show IntKind.u64.signed = false from rfl, Bool.false_and, Bool.false_eq_true, if_false]
  omega

theorem getD_map_lt {α : Type} (f : α → AV) (l : List α) (i : Nat) (d : AV) (h : i < l.length) : (l.map f).getD i d = f l[i] := by simp [List.getD, h]
theorem cast0 : ((0 : Nat) : Int) = 0 := rfl
theorem cast1 : ((1 : Nat) : Int) = 1 := rfl
theorem cast2 : ((2 : Nat) : Int) = 2 := rfl
theorem toNat_cast (i : Nat) : ((i : Int)).toNat = i := rfl

theorem Ret.mk {ts : List Tmp} {v : AV} {st : ASt} (h : frz st.h (resV ts st.τ) = v) : Ret ts v st := AV.le_of_eq h

section
variable (h : Heap)
theorem frz1_int (k : IntKind) (n : Int) : frz1 h (.int k n) = .int k n := rfl
theorem frz1_bool (b : Bool) : frz1 h (.bool b) = .bool b := rfl
theorem frz1_str (s : ByteArray) : frz1 h (.str s) = .str s := rfl
theorem frz1_nilsl : frz1 h .nilsl = .nilsl := rfl
theorem frz1_sl (e : Nat) (l : List AV) : frz1 h (.sl e l) = .sl e l := rfl
theorem frz1_pp (l : List AV) : frz1 h (.pp l) = .pp l := rfl
theorem frz1_own (b off len e : Nat) : frz1 h (.own b off len e) = (match h b with
    | some blk => if off + len * e ≤ blk.length ∧ 0 < e ∧ (cut blk off (len * e)).all (·.flat1) then .sl e (chunk e len (cut blk off (len * e))) else .undef
    | none => .undef) := rfl
theorem frz2_int (k : IntKind) (n : Int) : frz2 h (.int k n) = .int k n := rfl
theorem frz2_bool (b : Bool) : frz2 h (.bool b) = .bool b := rfl
theorem frz2_str (s : ByteArray) : frz2 h (.str s) = .str s := rfl
theorem frz2_nilsl : frz2 h .nilsl = .nilsl := rfl
theorem frz2_sl (e : Nat) (l : List AV) : frz2 h (.sl e l) = .sl e l := rfl
theorem frz2_pp (l : List AV) : frz2 h (.pp l) = .pp l := rfl
theorem frz2_own (b off len e : Nat) : frz2 h (.own b off len e) = frz1 h (.own b off len e) := rfl
theorem frz2_agg (cs : List AV) : frz2 h (.agg cs) = .agg (cs.map (frz1 h)) := rfl
theorem frz_int (k : IntKind) (n : Int) : frz h (.int k n) = .int k n := rfl
theorem frz_bool (b : Bool) : frz h (.bool b) = .bool b := rfl
theorem frz_str (s : ByteArray) : frz h (.str s) = .str s := rfl
theorem frz_nilsl : frz h .nilsl = .nilsl := rfl
theorem frz_sl (e : Nat) (l : List AV) : frz h (.sl e l) = .sl e l := rfl
theorem frz_own (b off len e : Nat) : frz h (.own b off len e) = frz1 h (.own b off len e) := rfl
theorem frz_agg (cs : List AV) : frz h (.agg cs) = .agg (cs.map (frz1 h)) := rfl
theorem frz_tup (cs : List AV) : frz h (.tup cs) = .tup (cs.map (frz2 h)) := rfl
end

attribute [go_sem] frz1_int frz1_bool frz1_str frz1_nilsl frz1_sl frz1_pp frz1_own frz2_int frz2_bool frz2_str frz2_nilsl frz2_sl frz2_pp frz2_own frz2_agg frz_int frz_bool frz_str frz_nilsl frz_sl frz_own frz_agg frz_tup
attribute [go_sem] frzSt frzτ_app frzT frzT1 putT_same putT_ne putT_none updH_nil updH_cons upd1_same upd1_ne AW_true AW_false AW_seq AW_skip AW_block AW_exit AW_ret AW_inBlock AW_nil AW_region ARegion_true ARegion_false
  SWalk_nil SWalk_cons SW1_out SW1_call SW1_skip DWalk_nil DWalk_cons DW1_out DW1_call DW1_skip logIf_true logIf_false okIf_true okIf_false isPure_nil isPure_some List.contains_cons aev_tmp aev_const aev_func aop awant app skipOut absV absV.abs1 pureOut exitTo
  hotB outOk disj_nil disj_cons logOk waitsB_list waitsL binds_data binds_chain binds_guard binds_phase callOut ids1 ids2 AV.scalar AV.scal2 AV.scal1 AV.flat1 AV.single AV.cells?
  aload astore aint abin abinInt aslice afieldAddr apart afield aindexAddr aindex afill places abuild abuildSlice repCells amake cellsD_app srcCells_nil srcCells_sl srcCells_own aappend acopy alen abuiltin aconvert amax2 amin2 aun lay cut chunk scEq tyEq aeq_agg aeq_bool aeq_nil_nil aeq_own_nil aeq_sl_nil aeq_nilp aeq_ptr aeq_pp resV st0
  getAs_false getAs_true
  Option.bind_some Option.bind_none Option.map_some Option.map_none List.map_cons List.map_nil List.flatMap_cons List.flatMap_nil List.append_nil List.nil_append List.cons_append List.size_toArray List.length_cons List.length_nil List.length_map
  List.getElem?_toArray List.getElem?_cons_zero List.getElem?_cons_succ List.getElem?_nil List.head?_cons List.head?_nil List.headD_cons List.drop_zero List.drop_succ_cons List.drop_nil List.take_succ_cons List.take_zero List.take_nil List.all_cons List.all_nil List.isEmpty_nil List.isEmpty_cons
  List.toList_toArray List.getD_cons_zero List.getD_cons_succ List.getD_nil List.mem_cons List.not_mem_nil List.foldlM_cons List.foldlM_nil List.mapM_cons List.mapM_nil Option.pure_def Option.bind_eq_bind List.contains_nil
  Nat.zero_add Nat.add_zero Nat.mul_one Nat.one_mul Nat.zero_mul Nat.le_refl Nat.zero_le Nat.succ_ne_zero Int.toNat_natCast Int.natCast_nonneg Nat.add_assoc Nat.add_left_cancel_iff Nat.add_eq_left Nat.left_eq_add Nat.sub_zero
  beq_self_eq_true bne_self_eq_false beq_true beq_false ge_iff_le gt_iff_lt Bool.not_true Bool.not_false Bool.and_true Bool.true_and Bool.and_false Bool.false_and Bool.or_true Bool.true_or Bool.or_false Bool.false_or Bool.and_self Bool.or_self Bool.false_eq_true Bool.true_eq_false
  if_true if_false ite_true ite_false and_true true_and and_self and_false false_and or_true true_or or_false false_or or_self not_true not_false_eq_true true_implies false_implies implies_true forall_const forall_eq ne_eq decide_true decide_false decide_eq_true_eq eq_self

end Go.Ab
