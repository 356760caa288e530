/- The last operations: make, append, copy, len; equality; and all of them together. -/
import Derived.Test.YtmcejlhkohbdfaaAb4
set_option linter.unusedVariables false
set_option linter.unusedSimpArgs false
namespace Go.Ab
open Go.RowKit

section
variable {P : Program} {ρ : Operand → Value} {I : Imm} {M : Mp} {h : Heap} {n : Nat} {w : World} {slot : Nat} {ev : Operand → AV}

theorem run_typeInfo_bytes {t k : Nat} (ht : tbytes P t = some k) (w : World) : ∃ i, (typeInfo t).run P w = .ok i w ∧ i.bytes = k := by
  unfold tbytes at ht
  cases hi : P.info? t with
  | none => rw [hi] at ht; cases ht
  | some i => rw [hi] at ht; cases ht; exact ⟨i, by simp [typeInfo, hi], rfl⟩

theorem wrap_small {l : Int} (h0 : 0 ≤ l) (h1 : l ≤ 2 ^ 40) : IntKind.i64.wrap l = l := by
  unfold IntKind.wrap
  simp only [show IntKind.i64.bits = 64 from rfl, show IntKind.i64.signed = true from rfl, Bool.true_and, decide_eq_true_eq]
  split <;> omega

theorem make_sound {o : Oper} {t : TypeId} {l c : Operand} (ho : o.op = .makeSlice t l c) (H : HRel I M h n w) (hev : ∀ x, VRel I M (ev x) (ρ x)) (hs : M slot = .fresh) (hn : slot < n) {out : Out}
    (ha : amake P slot t (ev l) (ev c) = some (.out out)) : Yields1 P o ρ I M h n w slot out := by
  unfold amake at ha
  split at ha
  case h_2 => cases ha
  rename_i e li ci he hl hc
  split at ha
  case h_2 => cases ha
  rename_i s by_ z hsz hby hz
  split at ha
  case isFalse => cases ha
  rename_i hcond
  obtain ⟨c1, c2, c3, c4, c5⟩ := hcond
  subst c2
  simp only [Option.some.injEq, Did.out.injEq] at ha
  subst ha
  obtain ⟨kl, hkl⟩ := aint_rel (hev l) hl
  obtain ⟨kc, hkc⟩ := aint_rel (hev c) hc
  obtain ⟨v, hv, h1, h2, h3⟩ := zcells_spec hz
  obtain ⟨i, hi, hib⟩ := run_typeInfo_bytes hby w
  have hrep := rep_rel (I := I) (M := M) h2 (by omega) (h3 I M) li.toNat
  have hlen : (repCells li.toNat z).length = li.toNat * (s + 1) := by rw [repCells_length, c1]
  rw [c1] at hrep
  refine .ofNew (vs := (Array.range (li.toNat * (s + 1))).map (v.cells[· % v.cells.size]!)) (el := e) H hs hn (by rw [hrep.1]; exact Nat.le_refl _) (repCells_single h1 _) hrep.2
    (v := .slice (some ⟨w.heap.size, 0, none⟩) li.toNat li.toNat) ?_
    (.own_mk rfl (Nat.le_refl _) (.inr ⟨⟨w.heap.size, 0, none⟩, ((Array.range (li.toNat * (s + 1))).map (v.cells[· % v.cells.size]!)).size, by simp [updM], .inr ⟨rfl, by rw [hrep.1, hlen]; simp⟩⟩))
  have hw := wrap_small c3 c4
  have hb1 : ¬ ((i.bytes : Int) * li > 2 ^ 48) := by
    rw [hib]
    have : (by_ : Int) * li ≤ 128 * 2 ^ 40 := Int.mul_le_mul (by omega) c4 c3 (by omega)
    omega
  simp only [execOp, ho, Instr.makeSlice, Sem.run_bind, run_underlying (telem_spec he), Result.andThen_ok, hkl, hkc, asInt, asIntOf, Sem.run_pure, hi, hw]
  have hneg : ¬ li < 0 := by omega
  simp only [hneg, hb1, decide_false, Bool.or_self, Bool.false_eq_true, Int.lt_irrefl, gt_iff_lt, if_false, run_askRoom, Result.andThen_ok, run_sizeOf hsz, Sem.run_bind]
  by_cases h0 : li.toNat * (s + 1) = 0
  · simp [h0, newRow]
    rw [Array.range_zero', Array.map_empty, Array.map_empty]
  · simp [h0, run_zeroValue hv, newRow]

/-! ### What is appended, copied -/
theorem srcCells_sound {e : Nat} {x : AV} {v : Value} {new : List AV} {k : Nat} {rd : List Nat} (H : HRel I M h n w) (hv : VRel I M x v) (hx : srcCells h e x = some (new, k, rd)) :
    new.length = k * e ∧ new.all (·.single) = true ∧ (Builtin.lenOf v).run P w = .ok k w ∧
    ∀ m, m ≤ k → ∃ vs : List Value, (Builtin.firstCells e m v).run P w = .ok vs.toArray w ∧ vs.length = m * e ∧ ∀ (j : Nat) y u, new[j]? = some y → vs[j]? = some u → VRel I M y u := by
  unfold srcCells at hx
  split at hx
  · cases hx
    rw [hv.nilsl_inv]
    refine ⟨by simp, rfl, rfl, fun m hm => ⟨[], rfl, ?_, fun j y u hy => by simp at hy⟩⟩
    have h0 : m = 0 := by omega
    subst h0
    simp
  · rename_i s xs
    split at hx
    case isFalse => cases hx
    rename_i hs
    subst hs
    simp only [Option.some.injEq, Prod.mk.injEq] at hx
    obtain ⟨rfl, rfl, rfl⟩ := hx
    cases hv.sl_inv with
    | sl0 _ a cap =>
      refine ⟨by simp, rfl, rfl, fun m hm => ⟨[], ?_, by simp at hm; simp [hm], fun j y u hy => by simp at hy⟩⟩
      simp only [List.length_nil, Nat.le_zero] at hm
      subst hm
      cases a <;> simp [Builtin.firstCells, loadCells, loadCellsFrom]
    | sl _ _ A n' cap c el fr h1 h2 h3 h4 h5 h6 h7 h8 =>
      have hlen : ∀ (ys : List AV), (∀ (i : Nat) x, ys[i]? = some x → ∃ cs, x.cells? = some cs ∧ cs.length = s ∧ cs.all (·.single) = true) → (ys.flatMap (fun x => (x.cells?).getD [])).length = ys.length * s ∧ (ys.flatMap (fun x => (x.cells?).getD [])).all (·.single) = true := by
        intro ys
        induction ys with
        | nil => intro _; simp
        | cons y ys ih =>
          intro hy
          obtain ⟨cs, d1, d2, d3⟩ := hy 0 y rfl
          obtain ⟨e1, e2⟩ := ih fun i x hx => hy (i + 1) x hx
          simp only [List.flatMap_cons, d1, Option.getD_some, List.length_append, d2, e1, List.length_cons, Nat.succ_mul, List.all_append, d3, e2, Bool.and_self, and_true]
          omega
      have hget : ∀ (ys : List AV), (∀ (i : Nat) x, ys[i]? = some x → ∃ cs, x.cells? = some cs ∧ cs.length = s ∧ cs.all (·.single) = true) → ∀ (q : Nat) z, (ys.flatMap (fun x => (x.cells?).getD []))[q]? = some z → ∃ i j x cs, ys[i]? = some x ∧ x.cells? = some cs ∧ cs[j]? = some z ∧ q = i * s + j := by
        intro ys
        induction ys with
        | nil => intro _ q z hz; simp at hz
        | cons y ys ih =>
          intro hy q z hz
          obtain ⟨cs, d1, d2, d3⟩ := hy 0 y rfl
          simp only [List.flatMap_cons, d1, Option.getD_some] at hz
          by_cases hq : q < cs.length
          · rw [List.getElem?_append_left hq] at hz
            exact ⟨0, q, y, cs, rfl, d1, hz, by simp⟩
          · rw [List.getElem?_append_right (by omega)] at hz
            obtain ⟨i, j, x, cs', f1, f2, f3, f4⟩ := ih (fun i x hx => hy (i + 1) x hx) _ _ hz
            exact ⟨i + 1, j, x, cs', f1, f2, f3, by rw [Nat.succ_mul]; omega⟩
      obtain ⟨l1, l2⟩ := hlen xs h7
      refine ⟨l1, l2, by rw [h2]; rfl, fun m hm => ?_⟩
      have hcell : ∀ j, j < m * s → w.cell? (A.add j) = some (c.getD (A.off + j) undef) := fun j hj => by
        have : m * s ≤ n' * s := Nat.mul_le_mul_right _ (by omega)
        have hlt : A.off + j < c.size := by omega
        rw [add_off A h4]
        simp [World.cell?, H.imm _ _ h5, Array.getD, hlt]
      refine ⟨(List.range (m * s)).map fun j => c.getD (A.off + j) undef, ?_, by simp, fun q y u hy hu => ?_⟩
      · simp only [Builtin.firstCells]
        exact run_loadCells w A (m * s) _ hcell
      · obtain ⟨i, j, x, cs, f1, f2, f3, rfl⟩ := hget xs h7 q y hy
        have hq : i * s + j < m * s := by
          have := (List.getElem?_eq_some_iff.1 hu).1
          simpa using this
        simp only [List.getElem?_map, List.getElem?_range hq, Option.map_some, Option.some.injEq] at hu
        have hlt : A.off + (i * s + j) < c.size := by
          have : m * s ≤ n' * s := Nat.mul_le_mul_right _ (by omega)
          omega
        refine .pure _ _ (h8 i x cs j y u f1 f2 f3 ?_)
        rw [← hu]
        simp [Array.getD, hlt]
  · rename_i b off len s
    split at hx
    case h_2 => cases hx
    rename_i blk hb
    split at hx
    case isFalse => cases hx
    rename_i hcond
    obtain ⟨rfl, hle⟩ := hcond
    simp only [Option.some.injEq, Prod.mk.injEq] at hx
    obtain ⟨rfl, rfl, rfl⟩ := hx
    obtain ⟨A, cap, rfl, hA, hcap, hm⟩ := hv.own_inv
    rcases hm with hm | ⟨B, sz, hm, hB⟩
    · have := H.no b (fun A sz h => by rw [hm] at h; cases h)
      rw [hb] at this; cases this
    obtain ⟨g1, g2, blk', c, el, g3, g4, g5, g6, g7, g8⟩ := H.live b B sz hm
    rw [hb] at g3
    cases g3
    have hcl : (cut blk off (len * s)).length = len * s := by simp [cut]; omega
    have hcg : ∀ j y, (cut blk off (len * s))[j]? = some y → blk[off + j]? = some y := fun j y hy => by
      unfold cut at hy
      rw [List.getElem?_take] at hy
      split at hy
      · rw [List.getElem?_drop] at hy; exact hy
      · cases hy
    refine ⟨hcl, ?_, rfl, fun m hm' => ?_⟩
    · rw [List.all_eq_true] at g7 ⊢
      exact fun x hx => g7 x (List.mem_of_mem_drop (List.mem_of_mem_take hx))
    · rcases hB with hB | ⟨rfl, hB⟩
      · have : m = 0 := by omega
        subst this
        exact ⟨[], by simp [Builtin.firstCells, loadCells, loadCellsFrom], by simp, fun j y u _ hu => by simp at hu⟩
      · have hms : m * s ≤ len * s := Nat.mul_le_mul_right _ hm'
        have hcell : ∀ j, j < m * s → w.cell? ((⟨B.block, B.off + off, none⟩ : Addr).add j) = some (c.getD (B.off + off + j) undef) := fun j hj => by
          have hlt : B.off + off + j < c.size := by omega
          rw [add_off _ rfl]
          simp [World.cell?, g4, Array.getD, hlt]
        refine ⟨(List.range (m * s)).map fun j => c.getD (B.off + off + j) undef, ?_, by simp, fun q y u hy hu => ?_⟩
        · simp only [Builtin.firstCells]
          exact run_loadCells w _ (m * s) _ hcell
        · have hq : q < m * s := by
            have := (List.getElem?_eq_some_iff.1 hu).1
            simpa using this
          simp only [List.getElem?_map, List.getElem?_range hq, Option.map_some, Option.some.injEq] at hu
          have hlt : B.off + (off + q) < c.size := by omega
          refine g8 (off + q) y u (hcg q y hy) ?_
          rw [← hu]
          simp [Array.getD, hlt, Nat.add_assoc]
  · cases hx

/-- The cells of a slice that is only read, all of them. -/
theorem slCells_sound {e : Nat} {xs : List AV} {v : Value} (H : HRel I M h n w) (hv : PRel I (.sl e xs) v) :
    ∃ vs : List Value, (Builtin.firstCells e xs.length v).run P w = .ok vs.toArray w ∧ vs.length = xs.length * e ∧
      (∀ (i : Nat) (x : AV), xs[i]? = some x → ∃ cs, x.cells? = some cs ∧ cs.length = e ∧ cs.all (·.single) = true) ∧
      (∀ (i : Nat) (x : AV) (cs : List AV) (j : Nat) (y : AV) (u : Value), xs[i]? = some x → x.cells? = some cs → cs[j]? = some y → vs[i * e + j]? = some u → PRel I y u) := by
  cases hv with
  | sl0 _ a cap => exact ⟨[], by cases a <;> simp [Builtin.firstCells, loadCells, loadCellsFrom], by simp, fun i x hx => by simp at hx, fun i x cs j y u hx => by simp at hx⟩
  | sl _ _ A n' cap c el fr h1 h2 h3 h4 h5 h6 h7 h8 =>
    have hcell : ∀ j, j < xs.length * e → w.cell? (A.add j) = some (c.getD (A.off + j) undef) := fun j hj => by
      have hlt : A.off + j < c.size := by rw [h2] at h6; omega
      rw [add_off A h4]
      simp [World.cell?, H.imm _ _ h5, Array.getD, hlt]
    refine ⟨(List.range (xs.length * e)).map fun j => c.getD (A.off + j) undef, by simp only [Builtin.firstCells]; exact run_loadCells w A _ _ hcell, by simp, h7, fun i x cs j y u hx hcs hy hu => ?_⟩
    have hq : i * e + j < xs.length * e := by
      have := (List.getElem?_eq_some_iff.1 hu).1
      simpa using this
    simp only [List.getElem?_map, List.getElem?_range hq, Option.map_some, Option.some.injEq] at hu
    have hlt : A.off + (i * e + j) < c.size := by rw [h2] at h6; omega
    refine h8 i x cs j y u hx hcs hy ?_
    rw [← hu]
    simp [Array.getD, hlt]

/-- A new block that is only read from the beginning. -/
theorem HRel.allocImm (H : HRel I M h n w) (c : Array Value) (el : TypeId) :
    HRel (fun b => if b = w.heap.size then some (.cells c el (0, 0)) else I b) M h n (w.alloc (.cells c el)) ∧
    Ext I M w (fun b => if b = w.heap.size then some (.cells c el (0, 0)) else I b) M (w.alloc (.cells c el)) := by
  have hold : ∀ b, b < w.heap.size → (w.alloc (.cells c el)).heap[b]? = w.heap[b]? := fun b hb => Below.heap_alloc w _ b hb
  have hImm : ∀ b o, I b = some o → b < w.heap.size := fun b o hb => by
    have := H.imm b o hb
    rcases Nat.lt_or_ge b w.heap.size with h | h
    · exact h
    · simp [Array.getElem?_eq_none h] at this
  have hI : ILe I (fun b => if b = w.heap.size then some (.cells c el (0, 0)) else I b) := fun b o hb => by
    have := hImm b o hb
    simp only [if_neg (show b ≠ w.heap.size by omega), hb]
  refine ⟨⟨?_, H.fr, H.no, ?_, H.inj⟩, ⟨rfl, rfl, rfl, by simp, fun b hb _ => hold b hb, hI, .refl _, fun b hb hn _ => by simp only [if_neg (show b ≠ w.heap.size by omega), hn], fun _ h => .inl h⟩⟩
  · intro b o hb
    by_cases e : b = w.heap.size
    · subst e
      simp only [if_true] at hb
      cases hb
      show (w.heap.push _)[w.heap.size]? = _
      simp
    · simp only [if_neg e] at hb
      rw [hold b (hImm b o hb)]; exact H.imm b o hb
  · intro i A sz hm
    obtain ⟨g1, g2, b', c', el', g3, g4, g5, g6, g7, g8⟩ := H.live i A sz hm
    have hlt := Live.lt H ⟨i, A, sz, hm, rfl⟩
    refine ⟨g1, by simp only [if_neg (show A.block ≠ w.heap.size by omega), g2], b', c', el', g3, by rw [hold _ hlt]; exact g4, g5, g6, g7, fun j x v hx hv => (g8 j x v hx hv).mono hI (.refl _)⟩

theorem zeros_false {t : TypeId} {e : TypeId} (h : telem P t = some e) (w : World) : (underlying t).run P w = .ok (.slice e) w := run_underlying (telem_spec h) w

theorem nextslicecap_le (need cap : Nat) (hn : need ≤ 2 ^ 39) (hc : cap < need) : Builtin.nextslicecap need cap ≤ 2 ^ 41 := by
  unfold Builtin.nextslicecap
  split
  · omega
  · split
    · omega
    · have hg : ∀ rounds c, c ≤ need → Builtin.growBy need rounds c ≤ 2 * need + 192 := by
        intro rounds
        induction rounds with
        | zero => intro c hc; simp only [Builtin.growBy]; omega
        | succ r ih =>
          intro c hc'
          simp only [Builtin.growBy]
          split
          · omega
          · by_cases h1 : c + (c + 768) / 4 ≤ need
            · exact ih _ h1
            · cases r with
              | zero => simp only [Builtin.growBy]; omega
              | succ r => simp only [Builtin.growBy]; rw [if_pos (by omega)]; omega
      have := hg 4 cap (by omega)
      omega

theorem append_sound {o : Oper} {args : Array Operand} {argTypes : Array TypeId} (ho : o.op = .call { callee := .builtin .append, args, argTypes }) (H : HRel I M h n w) (hev : ∀ x, VRel I M (ev x) (ρ x)) (hs : M slot = .fresh) (hn : slot < n)
    {x y : Operand} {pu : Bool} (hargs : args.toList = [x, y]) {out : Out} (ha : aappend P pu slot h argTypes (ev x) (ev y) = some (.out out)) : Yields1 P o ρ I M h n w slot out := by
  have hargs' : args = #[x, y] := by rw [← Array.toArray_toList (xs := args), hargs]
  subst hargs'
  unfold aappend at ha
  split at ha
  case h_2 => cases ha
  rename_i e e' he he'
  split at ha
  case h_2 => cases ha
  rename_i s by_ z hsz hby hz
  split at ha
  case isFalse => cases ha
  rename_i hc1
  obtain ⟨_, hby', hby0, hzl⟩ := hc1
  obtain ⟨zv, hzv, hz1, hz2, hz3⟩ := zcells_spec hz
  replace hsz : tsize P e = some (s + 1) := hsz
  split at ha
  case h_2 => cases ha
  rename_i new k rd hsrc
  split at ha
  case isFalse => cases ha
  rename_i hk
  obtain ⟨s1, s2, s3, s4⟩ := srcCells_sound (P := P) H (hev y) hsrc
  obtain ⟨vs, v1, v2, v3⟩ := s4 k (Nat.le_refl _)
  obtain ⟨t0, ht0, ht0'⟩ : ∃ t0, argTypes[0]? = some t0 ∧ telem P t0 = some e := by
    cases h0 : argTypes[0]? with
    | none => simp [h0] at he
    | some t0 => exact ⟨t0, rfl, by simpa [h0] using he⟩
  obtain ⟨t1, ht1, ht1'⟩ : ∃ t1, argTypes[1]? = some t1 ∧ telem P t1 = some e' := by
    cases h0 : argTypes[1]? with
    | none => simp [h0] at he'
    | some t1 => exact ⟨t1, rfl, by simpa [h0] using he'⟩
  obtain ⟨ti, hti, hib⟩ := run_typeInfo_bytes hby w
  have hz0 : (s + 1 = 0) = False := by simp
  -- what the machine does, up to the room that there is
  have place : ∀ (base : Option Addr) (sLen sCap : Nat), ρ x = .slice base sLen sCap → sLen + k ≤ sCap → (execOp ρ o).run P w =
      (((match base with | some a => storeCells (a.add (sLen * (s + 1))) vs | none => pure ()) : Sem Unit).run P w).andThen fun _ w' => .ok (.value (.slice base (sLen + k) sCap)) w' := by
    intro base sLen sCap hx hle
    simp only [execOp, ho, resolve, invoke, builtin, Builtin.append_, List.map_toArray, List.map_cons, List.map_nil, List.getElem?_toArray, List.getElem?_cons_zero, List.getElem?_cons_succ, ht0, ht1, hx, Sem.run_bind, Sem.run_pure, Result.andThen_ok,
      run_underlying (telem_spec ht0'), run_underlying (telem_spec ht1'), run_sizeOf hsz, s3, v1, Bool.false_eq_true, if_false, Bool.not_false, if_true, if_pos hle, pure_bind]
    cases base with
    | none => simp
    | some a => simp only [Sem.run_bind, Sem.run_pure]; cases (storeCells (a.add (sLen * (s + 1))) vs).run P w <;> rfl
  have grow : ∀ (base : Option Addr) (sLen sCap : Nat) (os : List Value), ρ x = .slice base sLen sCap → ¬ sLen + k ≤ sCap → sLen + k ≤ 2 ^ 39 → (Builtin.firstCells (s + 1) sLen (ρ x)).run P w.drew = .ok os.toArray w.drew →
      ∃ (newCap : Nat) (rest : Array Value) (vs' : List Value), vs'.length = k * (s + 1) ∧ (∀ (j : Nat) y u, new[j]? = some y → vs'[j]? = some u → VRel I M y u) ∧ sLen + k ≤ newCap ∧ rest.size = (newCap - (sLen + k)) * (s + 1) ∧ (Builtin.firstCells (s + 1) k (ρ y)).run P w.drew = .ok vs'.toArray w.drew ∧
        (execOp ρ o).run P w = .ok (.value (.slice (some ⟨w.drew.heap.size, 0, none⟩) (sLen + k) newCap)) (w.drew.alloc (.cells (os.toArray ++ vs'.toArray ++ rest) e)) := by
    intro base sLen sCap os hx hle hneed hos
    obtain ⟨_, _, s3', s4'⟩ := srcCells_sound (P := P) H.drew (hev y) hsrc
    obtain ⟨vs', v1', v2', v3'⟩ := s4' k (Nat.le_refl _)
    have hn := nextslicecap_le (sLen + k) sCap hneed (by omega)
    have hroom : ¬ Builtin.nextslicecap (sLen + k) sCap * ti.bytes > 2 ^ 48 := by
      have : Builtin.nextslicecap (sLen + k) sCap * ti.bytes ≤ 2 ^ 41 * 128 := Nat.mul_le_mul hn (by omega)
      omega
    have hmax : ¬ (((sLen + k : Nat) : Int) > IntKind.i64.max ∧ (False ∨ ti.bytes = 0)) := by
      intro hh
      rcases hh.2 with h' | h'
      · cases h'
      · omega
    have hti' : (typeInfo e).run P w.drew = .ok ti w.drew := by
      obtain ⟨ti', h1, h2⟩ := run_typeInfo_bytes hby w.drew
      have : ti' = ti := by
        simp only [typeInfo, Sem.run_bind, run_program, Result.andThen_ok] at h1 hti
        split at h1 <;> split at hti <;> simp_all
      rw [this] at h1; exact h1
    refine ⟨(Question.appendCap (sLen + k) sCap e).cut (w.tape w.drawn (.appendCap (sLen + k) sCap e)), Builtin.zeroCells zv.cells ((Question.appendCap (sLen + k) sCap e).cut (w.tape w.drawn (.appendCap (sLen + k) sCap e)) - (sLen + k)), vs', v2', v3', ?_, ?_, v1', ?_⟩
    · simp only [Question.cut]; omega
    · simp only [Builtin.zeroCells, Array.size_map, Array.size_range, hz2, hzl]
    · rw [hx] at hos
      simp only [execOp, ho, resolve, invoke, builtin, Builtin.append_, List.map_toArray, List.map_cons, List.map_nil, List.getElem?_toArray, List.getElem?_cons_zero, List.getElem?_cons_succ, ht0, ht1, hx, Sem.run_bind, Sem.run_pure, Result.andThen_ok,
        run_underlying (telem_spec ht0'), run_underlying (telem_spec ht1'), run_sizeOf hsz, s3, v1, Bool.false_eq_true, if_false, Bool.not_false, if_true, if_neg hle, pure_bind, hti, if_neg hmax, if_neg hroom, run_choose, Question.forced, World.drew_eq, hti',
        run_askRoom, hos, v1', run_zeroValue hzv, newRow, run_newObj, World.alloc_eq]
  split at ha
  · -- onto nil
    rename_i hex
    have hx := hev x
    rw [hex] at hx
    have hρ := hx.nilsl_inv
    by_cases hk0 : k = 0
    · subst hk0
      have hrun := place none 0 0 hρ (by omega)
      simp only [Sem.run_pure, Result.andThen_ok] at hrun
      split at ha
      · -- only read
        split at ha
        case h_2 => cases ha
        rename_i hpu se xs hey
        cases ha
        rw [hey] at hsrc
        simp only [srcCells] at hsrc
        split at hsrc
        case isFalse => cases hsrc
        simp only [Option.some.injEq, Prod.mk.injEq] at hsrc
        have hxs : xs = [] := List.eq_nil_of_length_eq_zero hsrc.2.1
        subst hxs
        exact .ofRun H hrun (.pure _ _ (.sl0 _ _ _))
      · simp only [if_true, Option.some.injEq, Did.out.injEq] at ha
        subst ha
        exact .ofRun H hrun (.pure _ _ .nilsl)
    · obtain ⟨newCap, rest, vs', w1, w2, w3, w4, w6, w5⟩ := grow none 0 0 [] hρ (by omega) (by omega) (by rw [hρ]; rfl)
      simp only [Nat.zero_add] at w3 w4 w5
      split at ha
      · -- only read
        split at ha
        case h_2 => cases ha
        rename_i hpu se xs hey
        cases ha
        rw [hey] at hsrc
        have hy := hev y
        rw [hey] at hy
        have hsrc' := hsrc
        simp only [srcCells] at hsrc'
        split at hsrc'
        case isFalse => cases hsrc'
        rename_i hse
        subst hse
        simp only [Option.some.injEq, Prod.mk.injEq] at hsrc'
        obtain ⟨hnew, hxk, _⟩ := hsrc'
        subst hxk
        obtain ⟨vs2, q1, q2, q3, q4⟩ := slCells_sound (P := P) H.drew hy.sl_inv
        rw [w6] at q1
        simp only [Result.ok.injEq, and_true] at q1
        have hvv : vs' = vs2 := by simpa using q1
        subst hvv
        obtain ⟨r1, r2⟩ := H.drew.allocImm (([] : List Value).toArray ++ vs'.toArray ++ rest) e
        refine ⟨_, _, _, M, .inl w5, .pure _ _ ?_, r1, (Ext.drew I M w).trans r2, fun _ _ h => h⟩
        refine .sl (s + 1) xs ⟨w.drew.heap.size, 0, none⟩ xs.length newCap (([] : List Value).toArray ++ vs'.toArray ++ rest) e (0, 0) (fun h0 => hk0 (by rw [h0]; rfl)) rfl w3 rfl (by simp) ?_ q3 fun i x cs j y' u hx' hcs hy' hu => ?_
        · simp only [Array.size_append, List.size_toArray, List.length_nil, w1, w4]
          omega
        · obtain ⟨cs', d1, d2, _⟩ := q3 i x hx'
          rw [hcs] at d1
          cases d1
          have hj : j < s + 1 := by have := (List.getElem?_eq_some_iff.1 hy').1; omega
          have hi : i < xs.length := (List.getElem?_eq_some_iff.1 hx').1
          have hlt : i * (s + 1) + j < vs'.length := by
            rw [w1]
            have : (i + 1) * (s + 1) ≤ xs.length * (s + 1) := Nat.mul_le_mul_right _ hi
            rw [Nat.succ_mul] at this
            omega
          rw [Array.getElem?_append_left (by simp; omega)] at hu
          refine (q4 i x cs j y' u hx' hcs hy' (by simpa using hu)).mono fun b o hb => ?_
          exact r2.imm b o hb
      · simp only [if_neg hk0, Option.some.injEq, Did.out.injEq] at ha
        subst ha
        have hsz : (([] : List Value).toArray ++ vs'.toArray ++ rest).size = newCap * (s + 1) := by
          simp only [Array.size_append, List.size_toArray, List.length_nil, w1, w4]
          rw [Nat.zero_add, ← Nat.add_mul]; congr 1; omega
        have hlen : new.length ≤ (([] : List Value).toArray ++ vs'.toArray ++ rest).size := by
          rw [hsz, s1]; exact Nat.mul_le_mul_right _ w3
        obtain ⟨r1, r2⟩ := H.drew.alloc (el := e) hs hn hlen s2 (fun j y u hy hu => by
          have hj : j < vs'.length := by have := (List.getElem?_eq_some_iff.1 hy).1; omega
          rw [Array.getElem?_append_left (by simp; omega)] at hu
          exact w2 j y u hy (by simpa using hu))
        exact ⟨_, _, I, _, .inl w5, .own_mk rfl w3 (.inr ⟨⟨w.drew.heap.size, 0, none⟩, (([] : List Value).toArray ++ vs'.toArray ++ rest).size, by simp only [updM, if_pos], .inr ⟨rfl, by rw [hsz]; simp⟩⟩), r1, (Ext.drew I M w).trans r2, updM_other⟩
  · -- onto an own slice
    rename_i b off len s' hex
    have hx := hev x
    rw [hex] at hx
    split at ha
    case h_2 => cases ha
    rename_i blk hb
    split at ha
    case isFalse => cases ha
    rename_i hc2
    obtain ⟨rfl, hlen38, hoff⟩ := hc2
    simp only [Option.some.injEq, Did.out.injEq] at ha
    subst ha
    obtain ⟨A, cap, hρ, hA, hcap, hm⟩ := hx.own_inv
    rcases hm with hm | ⟨B, sz, hm, hB⟩
    · have := H.no b (fun A sz h => by rw [hm] at h; cases h)
      rw [hb] at this; cases this
    have hbs : slot ≠ b := fun e => by rw [e, hm] at hs; cases hs
    have hcl : (cut blk off (len * (s + 1))).length = len * (s + 1) := by simp [cut]; omega
    have hcs : (cut blk off (len * (s + 1))).all (·.single) = true := by
      obtain ⟨g1, g2, blk', c, el, g3, g4, g5, g6, g7, g8⟩ := H.live b B sz hm
      rw [hb] at g3
      cases g3
      rw [List.all_eq_true] at g7 ⊢
      exact fun x hx => g7 x (List.mem_of_mem_drop (List.mem_of_mem_take hx))
    by_cases hroom : len + k ≤ cap
    · -- there is room
      have hrun := place (some A) len cap hρ hroom
      obtain ⟨m1, m2⟩ := H.move hm hs hn hb hoff
      have hms : (updM (updM M b .gone) slot (.live ⟨B.block, B.off + off, none⟩ sz)) slot = .live ⟨B.block, B.off + off, none⟩ sz := by simp [updM]
      have hother : ∀ i, i ≠ slot → M i = .fresh → (updM (updM M b .gone) slot (.live ⟨B.block, B.off + off, none⟩ sz)) i = .fresh := fun i hi hf => by
        have : i ≠ b := fun e => by rw [e, hm] at hf; cases hf
        simp only [updM, if_neg hi, if_neg this]; exact hf
      rcases hB with hB | ⟨rfl, hB⟩
      · have hk0 : k = 0 := by omega
        have hl0 : len = 0 := by omega
        subst hk0; subst hl0
        have hvs : vs = [] := List.eq_nil_of_length_eq_zero (by rw [v2]; simp)
        have hnew : new = [] := List.eq_nil_of_length_eq_zero (by rw [s1]; simp)
        subst hvs; subst hnew
        simp only [storeCells, Sem.run_pure, Result.andThen_ok] at hrun
        simp only [List.append_nil]
        exact ⟨_, w, I, _, .inl hrun, .own_mk hA (by omega) (.inr ⟨_, sz, hms, .inl hB⟩), m1, m2, hother⟩
      · obtain ⟨g1, g2, blk', c, el, g3, g4, g5, g6, g7, g8⟩ := m1.live slot _ sz hms
        simp only [upd1, if_pos, Option.some.injEq] at g3
        subst g3
        have hsum : len * (s + 1) + k * (s + 1) ≤ cap * (s + 1) := by rw [← Nat.add_mul]; exact Nat.mul_le_mul_right _ hroom
        have hone : ∀ v ∈ vs, v.oneCell' = true := fun v hvm => by
          obtain ⟨j, hj, rfl⟩ := List.getElem_of_mem hvm
          have hj' : j < new.length := by omega
          exact (v3 j new[j] vs[j] (List.getElem?_eq_getElem hj') (List.getElem?_eq_getElem hj)).one ((List.all_eq_true.1 s2) _ (List.getElem_mem hj'))
        have hst := run_storeCells_at (P := P) B.block (B.off + off + len * (s + 1)) el vs 0 c w g4 (by omega) hone
        dsimp only at hrun
        rw [add_off ⟨B.block, B.off + off, none⟩ rfl] at hrun
        simp only [hst, Result.andThen_ok] at hrun
        obtain ⟨e1, e2, e3, e4, e5, e6⟩ := setRow_ext w B.block (c.toList.take (B.off + off + len * (s + 1) + 0) ++ vs ++ c.toList.drop (B.off + off + len * (s + 1) + 0 + vs.length)).toArray c el g4
        have hget : ∀ q : Nat, ((c.toList.take (B.off + off + len * (s + 1) + 0) ++ vs ++ c.toList.drop (B.off + off + len * (s + 1) + 0 + vs.length)).toArray)[q]? = if B.off + off + len * (s + 1) ≤ q ∧ q < B.off + off + len * (s + 1) + vs.length then vs[q - (B.off + off + len * (s + 1))]? else c[q]? := fun q => by
          simp only [Nat.add_zero, List.getElem?_toArray]
          have h1 : (c.toList.take (B.off + off + len * (s + 1))).length = B.off + off + len * (s + 1) := by simp; omega
          by_cases h2 : B.off + off + len * (s + 1) ≤ q ∧ q < B.off + off + len * (s + 1) + vs.length
          · rw [if_pos h2, List.append_assoc, List.getElem?_append_right (by omega), h1, List.getElem?_append_left (by omega)]
          · rw [if_neg h2]
            by_cases h3 : q < B.off + off + len * (s + 1)
            · rw [List.append_assoc, List.getElem?_append_left (by omega), List.getElem?_take, if_pos h3]; simp
            · rw [List.getElem?_append_right (by simp; omega), List.getElem?_drop]
              simp only [List.length_append, h1, Array.getElem?_toList]
              congr 1
              omega
        obtain ⟨r1, r2⟩ := m1.write hms e1 e2 e3 e4 e5 e6 (blk := cut blk off (len * (s + 1)) ++ new) (by simp; omega) (by rw [List.length_append, hcl, s1]; dsimp only; omega) (by rw [List.all_append, hcs, s2]; rfl) (fun j x' v' hx' hv' => by
          rw [hget] at hv'
          by_cases h2 : j < len * (s + 1)
          · rw [List.getElem?_append_left (by omega)] at hx'
            rw [if_neg (by dsimp only; omega)] at hv'
            exact g8 j x' v' hx' hv'
          · rw [List.getElem?_append_right (by omega), hcl] at hx'
            have hj : j - len * (s + 1) < new.length := (List.getElem?_eq_some_iff.1 hx').1
            rw [if_pos (by dsimp only; omega)] at hv'
            refine (v3 (j - len * (s + 1)) x' v' hx' ?_).mono m2.imm m2.mp
            rw [← hv']
            congr 1
            dsimp only
            omega)
        refine ⟨_, _, I, _, .inl hrun, .own_mk rfl hroom (.inr ⟨_, sz, hms, .inr ⟨by simp, by simpa using hB⟩⟩), ?_, m2.trans r2, hother⟩
        have hh : upd1 (upd1 (upd1 h b none) slot (some (cut blk off (len * (s + 1))))) slot (some (cut blk off (len * (s + 1)) ++ new)) = updH h [(b, none), (slot, some (cut blk off (len * (s + 1)) ++ new))] := by
          funext i
          simp only [upd1, updH]
          by_cases hi : i = slot <;> simp [hi]
        rw [← hh]
        exact r1
    · -- it moves
      obtain ⟨_, _, _, os4⟩ := srcCells_sound (P := P) (e := s + 1) (new := cut blk off (len * (s + 1))) (k := len) (rd := [b]) H.drew (x := .own b off len (s + 1)) (v := ρ x) hx (by simp [srcCells, hb, hoff])
      obtain ⟨os, o1, o2, o3⟩ := os4 len (Nat.le_refl _)
      obtain ⟨newCap, rest, vs', w1, w2, w3, w4, w6, w5⟩ := grow (some A) len cap os hρ hroom (by omega) o1
      have hin : b < n := by
        rcases Nat.lt_or_ge b n with h' | h'
        · exact h'
        · rw [H.fr b h'] at hm; cases hm
      obtain ⟨d1, d2⟩ := H.drew.drop (i := b) hin
      have hs' : (updM M b .gone) slot = .fresh := by simp only [updM, if_neg hbs]; exact hs
      have hsz : (os.toArray ++ vs'.toArray ++ rest).size = newCap * (s + 1) := by
        simp only [Array.size_append, List.size_toArray, o2, w1, w4]
        rw [← Nat.add_mul, ← Nat.add_mul]; congr 1; omega
      have hnl : (cut blk off (len * (s + 1)) ++ new).length = (len + k) * (s + 1) := by rw [List.length_append, hcl, s1, Nat.add_mul]
      obtain ⟨r1, r2⟩ := d1.alloc (el := e) (c := os.toArray ++ vs'.toArray ++ rest) (blk := cut blk off (len * (s + 1)) ++ new) hs' hn (by rw [hsz, hnl]; exact Nat.mul_le_mul_right _ w3) (by rw [List.all_append, hcs, s2]; rfl) (fun j x' u hx' hu => by
        by_cases h2 : j < len * (s + 1)
        · rw [List.getElem?_append_left (by omega)] at hx'
          rw [Array.append_assoc, Array.getElem?_append_left (by simp; omega)] at hu
          exact (o3 j x' u hx' (by simpa using hu)).mono d2.imm d2.mp
        · rw [List.getElem?_append_right (by omega), hcl] at hx'
          have hj : j - len * (s + 1) < new.length := (List.getElem?_eq_some_iff.1 hx').1
          rw [Array.append_assoc, Array.getElem?_append_right (by simp; omega), Array.getElem?_append_left (by simp; omega)] at hu
          refine (w2 (j - len * (s + 1)) x' u hx' ?_).mono d2.imm d2.mp
          rw [← hu]
          simp [o2])
      refine ⟨_, _, I, _, .inl w5, .own_mk rfl w3 (.inr ⟨⟨w.drew.heap.size, 0, none⟩, (os.toArray ++ vs'.toArray ++ rest).size, by simp only [updM, if_pos], .inr ⟨rfl, by rw [hsz]; simp⟩⟩), r1, ((Ext.drew I M w).trans d2).trans r2, fun i hi hf => ?_⟩
      have : i ≠ b := fun e => by rw [e, hm] at hf; cases hf
      simp only [updM, if_neg hi, if_neg this]; exact hf
  · cases ha

end
end Go.Ab
