/- Parts of the proof, joined: G3, G4, G5, G6, G7, G8, G9, G10, G11, G12, D1, D2, D3, D4, D5, D6, D7, G13, G14, G15, RD, RT, G16. -/
import Derived.Test.YtdbmdaefmlflaaaGreatDoorZ3

set_option linter.unusedVariables false
set_option linter.unusedSimpArgs false
set_option maxRecDepth 10000
namespace Go.Proofs.YtdbmdaefmlflaaaGreatDoor
open Go Go.Ab Go.Num

def badI (t : Tp) : List Ins → Nat → Option Nat
  | [], _ => none
  | i :: r, k => if mayB t i k then badI t r (k + 1) else some k
def wrongI (t : Tp) : Int :=
  if wholeB t then (match badI t t.code 0 with
    | some k => (k : Int)
    | none => if t.outs.all (fun o => belowB o t.code.length) then -1 else (t.code.length : Nat)) else -2
structure okT (t : Tp) : Prop where
  code : ∀ i ∈ t.code, okR 80000 i.n
  lo : -9223372036854775808 ≤ t.dim
  hi : t.dim ≤ 9223372036854775807
theorem whole_le {t : Tp} (ht : okT t) (h : wholeB t = true) : t.code.length ≤ 300 ∧ (t.outs.length : Int) = t.dim ∧ 1 ≤ t.dim ∧ t.dim ≤ 6 ∧ 0 ≤ t.par ∧ t.par ≤ 6 := by
  have h1 := ht.lo
  have h2 := ht.hi
  simp only [wholeB, belowB, Bool.and_eq_true, decide_eq_true_eq] at h
  have h3 : t.dim ≠ -9223372036854775808 := fun h => by
    have h4 : (t.outs.length : Int) = t.dim := by omega
    omega
  rw [wrap64_id (by omega) (by omega)] at h
  omega


set_option maxRecDepth 10000 in
set_option maxHeartbeats 1000000 in
theorem c_wrong (t : Tp) (ht : okT t) : PCalls Tryz.prog 40 [encT t] (.int .i64 (wrongI t)) := by
  have hw := c_whole t
  unfold wrongI
  refine pcalls_of_AW (pa := []) (fn := Tryz.f40) (ts := [2]) follows_mixed Tryz.func40 rfl rfl (by kernel_rfl) (by kernel_rfl) (by rw [Tryz.ntmps40]; simp) ?_
  simp only [go_sem, ↓reduceIte, encT]
  refine callS_p hw ?_
  cases ew : wholeB t with
  | false =>
    simp only [go_sem, ↓reduceIte]
    exact .mk (by simp only [go_sem, ↓reduceIte])
  | true =>
  obtain ⟨hlen, hol, _, hdim, _⟩ := whole_le ht ew
  simp only [go_sem, ↓reduceIte]
  refine AW_while (fun m st => ∃ i, i + m = t.code.length ∧ badI t (t.code.drop i) i = badI t t.code 0 ∧ st.τ 1 = .ptr 0 0 ∧ st.τ 11 = .int .i64 t.code.length ∧ st.τ 12 = .int .i64 (i : Nat) ∧ st.h 0 = some [.sl 6 (t.code.map encI), .sl 1 (t.outs.map i64), .int .i64 t.dim, .int .i64 t.par] ∧ 1 ≤ st.n) t.code.length ?_ ?_
  · exact ⟨0, by omega, rfl, by simp only [go_sem, ↓reduceIte], by simp only [go_sem, ↓reduceIte], by simp only [go_sem, ↓reduceIte] <;> rfl, by simp only [go_sem, ↓reduceIte], by simp only [go_sem, ↓reduceIte] <;> omega⟩
  · rintro m st ⟨i, hi, hs, h1, h11, h12, hb0, hn⟩ next
    by_cases hlt : i < t.code.length
    · have hlt' : ((i : Nat) : Int) < (t.code.length : Nat) := by omega
      have hm := c_may t i hlt (ht.code _ (List.getElem_mem hlt))
      rw [drop_cons hlt, badI] at hs
      simp only [go_sem, ↓reduceIte, h1, h11, h12, hb0, hlt']
      refine callS_p hm ?_
      cases em : mayB t t.code[i] i with
      | false =>
        rw [em, if_neg (by decide)] at hs
        simp only [go_sem, ↓reduceIte, h1, h11, h12, hb0]
        exact .mk (by simp only [go_sem, ↓reduceIte, ← hs])
      | true =>
        rw [em, if_pos rfl] at hs
        simp only [go_sem, ↓reduceIte, h1, h11, h12, hb0]
        refine next (m - 1) _ (by omega) ⟨i + 1, by omega, hs, by simp only [go_sem, ↓reduceIte, h1], by simp only [go_sem, ↓reduceIte, h11], by simp only [go_sem, ↓reduceIte]; rw [wrap64_id (by omega) (by omega)]; rfl, by simp only [go_sem, ↓reduceIte, hb0], by simp only [go_sem, ↓reduceIte] <;> omega⟩
    · have hlt' := dec_false (show ¬ ((i : Nat) : Int) < (t.code.length : Nat) by omega)
      rw [List.drop_eq_nil_of_le (by omega)] at hs
      rw [← hs]
      simp only [go_sem, ↓reduceIte, h1, h11, h12, hb0, hlt', badI]
      refine AW_while (fun m st => ∃ i, i + m = t.outs.length ∧ (t.outs.drop i).all (fun o => belowB o t.code.length) = t.outs.all (fun o => belowB o t.code.length) ∧ st.τ 1 = .ptr 0 0 ∧ st.τ 22 = .sl 1 (t.outs.map i64) ∧ st.τ 23 = .int .i64 t.outs.length ∧ st.τ 24 = .int .i64 (i : Nat) ∧ st.h 0 = some [.sl 6 (t.code.map encI), .sl 1 (t.outs.map i64), .int .i64 t.dim, .int .i64 t.par] ∧ 1 ≤ st.n) t.outs.length ?_ ?_
      · exact ⟨0, by omega, rfl, by simp only [go_sem, ↓reduceIte, h1], by simp only [go_sem, ↓reduceIte], by simp only [go_sem, ↓reduceIte], by simp only [go_sem, ↓reduceIte] <;> rfl, by simp only [go_sem, ↓reduceIte, hb0], by simp only [go_sem, ↓reduceIte] <;> omega⟩
      · clear h1 h11 h12 hb0 hn hlt hlt' next hi hs
        clear st m i
        rintro m st ⟨i, hi, hs, h1, h22, h23, h24, hb0, hn⟩ next
        by_cases hlt : i < t.outs.length
        · have hlt' : ((i : Nat) : Int) < (t.outs.length : Nat) := by omega
          have hm := c_below t.outs[i] t.code.length
          rw [drop_cons hlt, List.all_cons] at hs
          simp only [go_sem, ↓reduceIte, h1, h22, h23, h24, hb0, hlt', getD_map_lt _ _ _ _ hlt, i64]
          refine callS_p hm ?_
          cases em : belowB t.outs[i] t.code.length with
          | false =>
            rw [em, Bool.false_and] at hs
            simp only [go_sem, ↓reduceIte, h1, h22, h23, h24, hb0]
            exact .mk (by simp only [go_sem, ↓reduceIte, ← hs])
          | true =>
            rw [em, Bool.true_and] at hs
            simp only [go_sem, ↓reduceIte, h1, h22, h23, h24, hb0]
            refine next (m - 1) _ (by omega) ⟨i + 1, by omega, hs, by simp only [go_sem, ↓reduceIte, h1], by simp only [go_sem, ↓reduceIte, h22] <;> rfl, by simp only [go_sem, ↓reduceIte, h23], by simp only [go_sem, ↓reduceIte]; rw [wrap64_id (by omega) (by omega)]; rfl, by simp only [go_sem, ↓reduceIte, hb0], by simp only [go_sem, ↓reduceIte] <;> omega⟩
        · have hlt' := dec_false (show ¬ ((i : Nat) : Int) < (t.outs.length : Nat) by omega)
          rw [List.drop_eq_nil_of_le (by omega), List.all_nil] at hs
          simp only [go_sem, ↓reduceIte, h1, h22, h23, h24, hb0, hlt', ← hs]
          exact .mk (by simp only [go_sem, ↓reduceIte])

theorem c_right (t : Tp) (ht : okT t) : PCalls Tryz.prog 27 [encT t] (.bool (decide (wrongI t = -1))) := by
  have hw := c_wrong t ht
  refine pcalls_of_AW (pa := []) (fn := Tryz.f27) (ts := [2]) follows_mixed Tryz.func27 rfl rfl (by kernel_rfl) (by kernel_rfl) (by rw [Tryz.ntmps27]; simp) ?_
  simp only [go_sem, ↓reduceIte, encT]
  refine callS_p hw ?_
  simp only [go_sem, ↓reduceIte, beq_int]
  exact .mk (by simp only [go_sem, ↓reduceIte])
end Go.Proofs.YtdbmdaefmlflaaaGreatDoor

set_option linter.unusedVariables false
set_option linter.unusedSimpArgs false
set_option maxRecDepth 10000
namespace Go.Proofs.YtdbmdaefmlflaaaGreatDoor
open Go Go.Ab Go.Num

theorem upd1_old0 (h : Heap) (n j : Nat) (b : Option Blk) (hj : j < n) : upd1 h n b j = h j := by simp only [upd1]; rw [if_neg (by omega)]
/-- How long a fraction is, in bits. -/
def fsz (f : Fr) : Nat := blen (val f.n) + blen (val f.d)
/-- A gauge's block: what was counted, and the limit. -/
def Gau (h : Heap) (b : Nat) (l : Int) : Prop := ∃ s p : Int, h b = some [.int .i64 s, .int .i64 p, .int .i64 l]
def clampB (l : Int) : Int := min (max l 0) 4096

theorem c_gnew (l : Int) (h : Heap) (n : Nat) : HCalls Tryz.prog 18 [.int .i64 l] h n (fun v h' n' => ∃ b, v = .ptr b 0 ∧ n ≤ b ∧ b < n' ∧ Gau h' b (clampB l) ∧ ∀ j, j < n → h' j = h j) := by
  have e : (if (4096 : Int) < (if (0 : Int) > l then 0 else l) then (4096 : Int) else (if (0 : Int) > l then 0 else l)) = clampB l := by
    unfold clampB; split <;> split <;> omega
  rw [← e]
  refine hcalls_of_AWR (pa := []) (fn := Tryz.f18) (rs := [.tmp 2]) follows_mixed Tryz.func18 rfl rfl (by kernel_rfl) (by kernel_rfl) (by rw [Tryz.ntmps18]; simp) ?_
  simp only [go_sem, ↓reduceIte]
  refine .mk (.ptr (n + 5) 0) (by simp only [go_sem, ↓reduceIte, resR, resAll, resA]) ⟨n + 5, rfl, by omega, by simp only [go_sem, ↓reduceIte] <;> omega, ⟨0, 0, by simp only [go_sem, ↓reduceIte]⟩, fun j hj => by simp only [go_sem, ↓reduceIte, upd1_old _ _ _ _ _ hj, upd1_old0 _ _ _ _ hj]⟩

set_option maxRecDepth 10000 in
theorem c_note (b : Nat) (x : Int) (h : Heap) (n : Nat) (s p l : Int) (hb : h b = some [.int .i64 s, .int .i64 p, .int .i64 l]) (hbn : b < n) : HCalls Tryz.prog 137 [.ptr b 0, .int .i64 x] h n (fun v h' n' => v = .tup [] ∧ Gau h' b l ∧ ∀ j, j < n → j ≠ b → h' j = h j) := by
  refine hcalls_of_AWR (pa := []) (fn := Tryz.f137) (rs := []) follows_mixed Tryz.func137 rfl rfl (by kernel_rfl) (by kernel_rfl) (by rw [Tryz.ntmps137]; simp) ?_
  simp only [go_sem, ↓reduceIte, hb, upd1_old _ _ _ _ _ hbn, upd1_old0 _ _ _ _ hbn, old_ne hbn, new_ne hbn]
  refine .mk (.tup []) (by simp only [go_sem, ↓reduceIte, resR, resAll, resA] <;> rfl) ⟨rfl, ⟨_, _, by simp only [go_sem, ↓reduceIte] <;> rfl⟩, fun j hj hjb => by simp only [go_sem, ↓reduceIte, upd1_old _ _ _ _ _ hj, upd1_old0 _ _ _ _ hj, hjb]⟩

set_option maxRecDepth 10000 in
theorem c_gtake (b : Nat) (f : Fr) (hf : okR 80000 f) (h : Heap) (n : Nat) (l : Int) (hb : Gau h b l) (hbn : b < n) : HCalls Tryz.prog 130 [.ptr b 0, encR f] h n (fun v h' n' => v = .bool (decide ((fsz f : Int) ≤ l)) ∧ Gau h' b l ∧ ∀ j, j < n → j ≠ b → h' j = h j) := by
  have hs := c_fsize f hf
  obtain ⟨s, p, hb⟩ := hb
  refine hcalls_of_AWR (pa := []) (fn := Tryz.f130) (rs := [.tmp 4]) follows_mixed Tryz.func130 rfl rfl (by kernel_rfl) (by kernel_rfl) (by rw [Tryz.ntmps130]; simp) ?_
  simp only [go_sem, ↓reduceIte, encR, encW]
  refine callS_p hs ?_
  simp only [go_sem, ↓reduceIte, hb, upd1_old _ _ _ _ _ hbn, upd1_old0 _ _ _ _ hbn, old_ne hbn, new_ne hbn]
  refine callS_h (c_note b _ _ _ s p l (by simp only [go_sem, ↓reduceIte, hb, upd1_old _ _ _ _ _ hbn, upd1_old0 _ _ _ _ hbn]) (by simp only [go_sem, ↓reduceIte] <;> omega)) ?_
  rintro v h' n' hn ⟨rfl, ⟨s', p', hb'⟩, hkeep⟩
  simp only [go_sem, ↓reduceIte] at hn hkeep
  simp only [go_sem, ↓reduceIte, hb']
  refine .mk (.bool (decide ((fsz f : Int) ≤ l))) (by simp only [go_sem, ↓reduceIte, resR, resAll, resA] <;> rfl) ⟨rfl, ⟨s', p', by simp only [go_sem, ↓reduceIte, hb'] <;> rfl⟩, fun j hj hjb => by simp only [go_sem, ↓reduceIte]; rw [hkeep j (by omega) hjb]; simp only [go_sem, ↓reduceIte, upd1_old _ _ _ _ _ hj, upd1_old0 _ _ _ _ hj]⟩

set_option maxRecDepth 10000 in
theorem c_fits (b : Nat) (f : Fr) (hf : okR 80000 f) (h : Heap) (n : Nat) (l : Int) (hb : Gau h b l) (hbn : b < n) : HCalls Tryz.prog 122 [.agg [.ptr b 0], encR f] h n (fun v h' n' => v = .bool (decide ((fsz f : Int) ≤ l)) ∧ Gau h' b l ∧ ∀ j, j < n → j ≠ b → h' j = h j) := by
  have hb2 := hb
  obtain ⟨s, p, hb2⟩ := hb2
  refine hcalls_of_AWR (pa := []) (fn := Tryz.f122) (rs := [.tmp 4]) follows_mixed Tryz.func122 rfl rfl (by kernel_rfl) (by kernel_rfl) (by rw [Tryz.ntmps122]; simp) ?_
  have hg := fun H N (h1 : Gau H b l) (h2 : b < N) => c_gtake b f hf H N l h1 h2
  simp only [encR, encW] at hg
  simp only [go_sem, ↓reduceIte, encR, encW]
  refine callS_h (hg _ _ ⟨s, p, by simp only [go_sem, ↓reduceIte, hb2, upd1_old _ _ _ _ _ hbn, upd1_old0 _ _ _ _ hbn]⟩ (by simp only [go_sem, ↓reduceIte] <;> omega)) ?_
  rintro v h' n' hn ⟨rfl, ⟨s', p', hb'⟩, hkeep⟩
  simp only [go_sem, ↓reduceIte] at hn hkeep
  simp only [go_sem, ↓reduceIte, hb']
  refine .mk (.bool (decide ((fsz f : Int) ≤ l))) (by simp only [go_sem, ↓reduceIte, resR, resAll, resA] <;> rfl) ⟨rfl, ⟨s', p', by simp only [go_sem, ↓reduceIte, hb'] <;> rfl⟩, fun j hj hjb => by simp only [go_sem, ↓reduceIte]; rw [hkeep j (by omega) hjb]; simp only [go_sem, ↓reduceIte, upd1_old _ _ _ _ _ hj, upd1_old0 _ _ _ _ hj]⟩

theorem c_aof (f : Fr) (hf : okR 80000 f) : PCalls Tryz.prog 125 [.agg [.opq], encR f] (encQ (rv f)) := by
  refine pcalls_of_AWR (pa := []) (fn := Tryz.f125) (rs := [.cell 4 42]) follows_mixed Tryz.func125 rfl rfl (by kernel_rfl) (by kernel_rfl) (by rw [Tryz.ntmps125]; simp) ?_
  simp only [go_sem, ↓reduceIte, encR, encW]
  refine callS_p (c_fnorm f hf) ?_
  simp only [go_sem, ↓reduceIte, encQ, encR, cq, encW]
  exact .mk (by simp only [go_sem, ↓reduceIte, encQ, encR, cq, encW])
theorem c_aneg (f : Fr) (hf : okR 80000 f) : PCalls Tryz.prog 124 [.agg [.opq], encR f] (encQ (-rv f)) := by
  refine pcalls_of_AWR (pa := []) (fn := Tryz.f124) (rs := [.cell 4 42]) follows_mixed Tryz.func124 rfl rfl (by kernel_rfl) (by kernel_rfl) (by rw [Tryz.ntmps124]; simp) ?_
  simp only [go_sem, ↓reduceIte, encR, encW]
  refine callS_p (c_fneg f hf) ?_
  simp only [go_sem, ↓reduceIte, encQ, encR, cq, encW]
  exact .mk (by simp only [go_sem, ↓reduceIte, encQ, encR, cq, encW])
theorem c_aadd (f g : Fr) (hf : okR 20000 f) (hg : okR 20000 g) : PCalls Tryz.prog 121 [.agg [.opq], encR f, encR g] (encQ (rv f + rv g)) := by
  refine pcalls_of_AWR (pa := []) (fn := Tryz.f121) (rs := [.cell 6 42]) follows_mixed Tryz.func121 rfl rfl (by kernel_rfl) (by kernel_rfl) (by rw [Tryz.ntmps121]; simp) ?_
  simp only [go_sem, ↓reduceIte, encR, encW]
  refine callS_p (c_fadd f g hf hg) ?_
  simp only [go_sem, ↓reduceIte, encQ, encR, cq, encW]
  exact .mk (by simp only [go_sem, ↓reduceIte, encQ, encR, cq, encW])
theorem c_asub (f g : Fr) (hf : okR 20000 f) (hg : okR 20000 g) : PCalls Tryz.prog 128 [.agg [.opq], encR f, encR g] (encQ (rv f - rv g)) := by
  refine pcalls_of_AWR (pa := []) (fn := Tryz.f128) (rs := [.cell 6 42]) follows_mixed Tryz.func128 rfl rfl (by kernel_rfl) (by kernel_rfl) (by rw [Tryz.ntmps128]; simp) ?_
  simp only [go_sem, ↓reduceIte, encR, encW]
  refine callS_p (c_fsub f g hf hg) ?_
  simp only [go_sem, ↓reduceIte, encQ, encR, cq, encW]
  exact .mk (by simp only [go_sem, ↓reduceIte, encQ, encR, cq, encW])
theorem c_amul (f g : Fr) (hf : okR 20000 f) (hg : okR 20000 g) : PCalls Tryz.prog 123 [.agg [.opq], encR f, encR g] (encQ (rv f * rv g)) := by
  refine pcalls_of_AWR (pa := []) (fn := Tryz.f123) (rs := [.cell 6 42]) follows_mixed Tryz.func123 rfl rfl (by kernel_rfl) (by kernel_rfl) (by rw [Tryz.ntmps123]; simp) ?_
  simp only [go_sem, ↓reduceIte, encR, encW]
  refine callS_p (c_fmul f g hf hg) ?_
  simp only [go_sem, ↓reduceIte, encQ, encR, cq, encW]
  exact .mk (by simp only [go_sem, ↓reduceIte, encQ, encR, cq, encW])
/-- An answer, or a pole. -/
def vS : Option Rat → AV
  | none => .tup [encQ 0, .bool false]
  | some q => .tup [encQ q, .bool true]
def quoO (a b : Rat) : Option Rat := if b = 0 then none else some (a / b)
def powO (a : Rat) (e : Int) : Option Rat := if e < 0 ∧ a = 0 then none else some (powQ a e)
theorem c_quoO (f g : Fr) (hf : okR 20000 f) (hg : okR 20000 g) : PCalls Tryz.prog 134 [encR f, encR g] (vS (quoO (rv f) (rv g))) := by
  unfold quoO
  by_cases h : rv g = 0
  · rw [if_pos h]; exact c_fquo0 f g hf hg h
  · rw [if_neg h]; exact c_fquo f g hf hg h
theorem c_powO (f : Fr) (e : Int) (hf : okR 9000 f) (h1 : -8 ≤ e) (h2 : e ≤ 8) : PCalls Tryz.prog 133 [encR f, .int .i64 e] (vS (powO (rv f) e)) := by
  unfold powO
  by_cases h : e < 0 ∧ rv f = 0
  · rw [if_pos h]; exact c_fpow0 f e (hf.mono (by omega)) (.inr (.inr h))
  · rw [if_neg h]; exact c_fpow f e hf h1 h2 (fun h3 h4 => h ⟨h3, h4⟩)
theorem vS_ex (o : Option Rat) : ∃ q b, vS o = .tup [encQ q, .bool b] := by cases o with | none => exact ⟨_, _, rfl⟩ | some q => exact ⟨_, _, rfl⟩
theorem c_aquo (f g : Fr) (hf : okR 20000 f) (hg : okR 20000 g) : PCalls Tryz.prog 127 [.agg [.opq], encR f, encR g] (vS (quoO (rv f) (rv g))) := by
  have hc := c_quoO f g hf hg
  obtain ⟨q, b, hq⟩ := vS_ex (quoO (rv f) (rv g))
  rw [hq] at hc ⊢
  refine pcalls_of_AWR (pa := []) (fn := Tryz.f127) (rs := [.cell 6 42, .tmp 7]) follows_mixed Tryz.func127 rfl rfl (by kernel_rfl) (by kernel_rfl) (by rw [Tryz.ntmps127]; simp) ?_
  simp only [go_sem, ↓reduceIte, encR, encW]
  refine callS_p hc ?_
  simp only [go_sem, ↓reduceIte, encQ, encR, cq, encW]
  exact .mk (by simp only [go_sem, ↓reduceIte, encQ, encR, cq, encW])
theorem c_apow (f : Fr) (e : Int) (hf : okR 9000 f) (h1 : -8 ≤ e) (h2 : e ≤ 8) : PCalls Tryz.prog 126 [.agg [.opq], encR f, .int .i64 e] (vS (powO (rv f) e)) := by
  have hc := c_powO f e hf h1 h2
  obtain ⟨q, b, hq⟩ := vS_ex (powO (rv f) e)
  rw [hq] at hc ⊢
  refine pcalls_of_AWR (pa := []) (fn := Tryz.f126) (rs := [.cell 6 42, .tmp 7]) follows_mixed Tryz.func126 rfl rfl (by kernel_rfl) (by kernel_rfl) (by rw [Tryz.ntmps126]; simp) ?_
  simp only [go_sem, ↓reduceIte, encR, encW]
  refine callS_p hc ?_
  simp only [go_sem, ↓reduceIte, encQ, encR, cq, encW]
  exact .mk (by simp only [go_sem, ↓reduceIte, encQ, encR, cq, encW])
end Go.Proofs.YtdbmdaefmlflaaaGreatDoor

set_option linter.unusedVariables false
set_option linter.unusedSimpArgs false
set_option maxRecDepth 10000
namespace Go.Proofs.YtdbmdaefmlflaaaGreatDoor
open Go Go.Ab Go.Num

def encIn (T : Rat) (Y P : List Rat) : AV := .agg [.bool (cq T).neg, encW (cq T).n, encW (cq T).d, .sl 3 (Y.map encQ), .sl 3 (P.map encQ)]

def leafQ (T : Rat) (Y P : List Rat) (i : Ins) : Rat :=
  if i.op = 1 then rv i.n else if i.op = 3 then Y.getD i.a.toNat 0 else if i.op = 4 then P.getD i.a.toNat 0 else T
def stepQ (T : Rat) (Y P : List Rat) (i : Ins) (D : List Rat) : Option Rat :=
  if i.op = 6 then some (-D.getD i.a.toNat 0)
  else if i.op = 11 then powO (D.getD i.a.toNat 0) i.b
  else if i.op = 7 then some (D.getD i.a.toNat 0 + D.getD i.b.toNat 0)
  else if i.op = 8 then some (D.getD i.a.toNat 0 - D.getD i.b.toNat 0)
  else if i.op = 9 then some (D.getD i.a.toNat 0 * D.getD i.b.toNat 0)
  else if i.op = 10 then quoO (D.getD i.a.toNat 0) (D.getD i.b.toNat 0)
  else some (leafQ T Y P i)

theorem elt_q : Elt 3 encQ := ⟨by omega, fun q => ⟨_, rfl, rfl, rfl, rfl⟩⟩
theorem flat_get {α : Type} {e : Nat} {enc : α → AV} (he : Elt e enc) : ∀ {l : List α} {i : Nat} (h : i < l.length), ∃ cs, (enc l[i]).cells? = some cs ∧ ((flatC enc l).drop (i * e)).take e = cs
  | x :: l, 0, h => by
    obtain ⟨cs, h1, h2, _⟩ := he.2 x
    refine ⟨cs, h1, ?_⟩
    simp only [flatC, List.flatMap_cons, h1, Option.getD_some, Nat.zero_mul, List.drop_zero]
    rw [← h2]; simp
  | x :: l, i + 1, h => by
    obtain ⟨cs, h1, h2, _⟩ := he.2 x
    obtain ⟨ds, h3, h4⟩ := flat_get he (l := l) (i := i) (by simpa using h)
    refine ⟨ds, h3, ?_⟩
    rw [← h4]
    simp only [flatC, List.flatMap_cons, h1, Option.getD_some, Nat.succ_mul]
    rw [← h2, Nat.add_comm, List.drop_append]
    congr 1
    rw [List.drop_eq_nil_of_le (by omega), List.nil_append]
    congr 1; omega
theorem flat_q {D : List Rat} {i : Nat} (h : i < D.length) : ((flatC encQ D).drop (i * 3)).take 3 = [.bool (cq (D.getD i 0)).neg, encW (cq (D.getD i 0)).n, encW (cq (D.getD i 0)).d] := by
  obtain ⟨cs, h1, h2⟩ := flat_get elt_q h
  rw [h2, show D.getD i 0 = D[i] by simp [List.getD, h]]
  cases h1; rfl
theorem len_q (D : List Rat) : (flatC encQ D).length = D.length * 3 := flatC_length elt_q D


set_option maxRecDepth 10000 in
theorem c_leaf (T : Rat) (Y P : List Rat) (i : Ins) (h1 : i.op = 1 → okR 80000 i.n) (h3 : i.op = 3 → 0 ≤ i.a ∧ i.a < Y.length) (h4 : i.op = 4 → 0 ≤ i.a ∧ i.a < P.length) : PCalls Tryz.prog 41 [.agg [.opq], encI i, encIn T Y P] (encQ (leafQ T Y P i)) := by
  unfold leafQ
  by_cases e1 : i.op = 1
  · rw [if_pos e1]
    have hc := c_aof i.n (h1 e1)
    refine pcalls_of_AWR (pa := []) (fn := Tryz.f41) (rs := [.cell 6 42]) follows_mixed Tryz.func41 rfl rfl (by kernel_rfl) (by kernel_rfl) (by rw [Tryz.ntmps41]; simp) ?_
    simp only [go_sem, ↓reduceIte, encI, encIn, encW, beq_int, dec_true e1]
    refine callS_p hc ?_
    simp only [go_sem, ↓reduceIte, encQ, encR, cq, encW]
    exact .mk (by simp only [go_sem, ↓reduceIte, encQ, encR, cq, encW])
  by_cases e3 : i.op = 3
  · rw [if_neg e1, if_pos e3]
    obtain ⟨a1, a2⟩ := h3 e3
    have hl : i.a.toNat < Y.length := by omega
    have hg : (Y.map encQ).getD i.a.toNat .undef = encQ (Y.getD i.a.toNat 0) := by simp [List.getD, hl]
    refine pcalls_of_AWR (pa := []) (fn := Tryz.f41) (rs := [.cell 6 42]) follows_mixed Tryz.func41 rfl rfl (by kernel_rfl) (by kernel_rfl) (by rw [Tryz.ntmps41]; simp) ?_
    simp only [go_sem, ↓reduceIte, encI, encIn, encW, beq_int, dec_false e1, dec_true e3, a1, a2, hg, encQ, encR]
    exact .mk (by simp only [go_sem, ↓reduceIte, encQ, encR, cq, encW])
  by_cases e4 : i.op = 4
  · rw [if_neg e1, if_neg e3, if_pos e4]
    obtain ⟨a1, a2⟩ := h4 e4
    have hl : i.a.toNat < P.length := by omega
    have hg : (P.map encQ).getD i.a.toNat .undef = encQ (P.getD i.a.toNat 0) := by simp [List.getD, hl]
    refine pcalls_of_AWR (pa := []) (fn := Tryz.f41) (rs := [.cell 6 42]) follows_mixed Tryz.func41 rfl rfl (by kernel_rfl) (by kernel_rfl) (by rw [Tryz.ntmps41]; simp) ?_
    simp only [go_sem, ↓reduceIte, encI, encIn, encW, beq_int, dec_false e1, dec_false e3, dec_true e4, a1, a2, hg, encQ, encR]
    exact .mk (by simp only [go_sem, ↓reduceIte, encQ, encR, cq, encW])
  · rw [if_neg e1, if_neg e3, if_neg e4]
    refine pcalls_of_AWR (pa := []) (fn := Tryz.f41) (rs := [.cell 6 42]) follows_mixed Tryz.func41 rfl rfl (by kernel_rfl) (by kernel_rfl) (by rw [Tryz.ntmps41]; simp) ?_
    simp only [go_sem, ↓reduceIte, encI, encIn, encW, beq_int, dec_false e1, dec_false e3, dec_false e4]
    exact .mk (by simp only [go_sem, ↓reduceIte, encQ, encR, cq, encW])
end Go.Proofs.YtdbmdaefmlflaaaGreatDoor

set_option linter.unusedVariables false
set_option linter.unusedSimpArgs false
set_option maxRecDepth 10000
namespace Go.Proofs.YtdbmdaefmlflaaaGreatDoor
open Go Go.Ab Go.Num

/-- Results so far: nil, or an own slice. -/
def Own (h : Heap) (n : Nat) (D : List Rat) (v : AV) : Prop := (D = [] ∧ v = .nilsl) ∨ ∃ b, v = .own b 0 D.length 3 ∧ h b = some (flatC encQ D) ∧ b < n

theorem get_q {D : List Rat} {i : Nat} (h : i < D.length) : getAs true 3 ((flatC encQ D).drop (i * 3)) = some (.agg [.bool (cq (D.getD i 0)).neg, encW (cq (D.getD i 0)).n, encW (cq (D.getD i 0)).d]) := by
  rw [getAs_true (by rw [List.length_drop, len_q]; omega), flat_q h]
structure StepOk (i : Ins) (D : List Rat) (y p : Nat) : Prop where
  reads : ∀ r ∈ readsI i, 0 ≤ r ∧ r < D.length
  pow : i.op = 11 → -8 ≤ i.b ∧ i.b ≤ 8
  c : i.op = 1 → okR 80000 i.n
  y : i.op = 3 → 0 ≤ i.a ∧ i.a < y
  p : i.op = 4 → 0 ≤ i.a ∧ i.a < p
  size : ∀ q ∈ D, qw q ≤ 9000

theorem getD_ok {D : List Rat} (h : ∀ q ∈ D, qw q ≤ 9000) {i : Nat} (hi : i < D.length) {k : Nat} (hk : 9000 ≤ k) : okR k (cq (D.getD i 0)) := by
  refine okR_cq (Nat.le_trans (h _ ?_) hk)
  rw [show D.getD i 0 = D[i] by simp [List.getD, hi]]
  exact List.getElem_mem hi


section
variable (T : Rat) (Y P : List Rat) (i : Ins) (D : List Rat) (g : Nat) (dv : AV) (h : Heap) (n : Nat)

set_option maxRecDepth 20000 in
set_option maxHeartbeats 2000000 in
theorem c_step6 (hD : Own h n D dv) (hok : StepOk i D Y.length P.length) (eop : i.op = 6) : HCalls Tryz.prog 28 [.agg [.ptr g 0], encI i, encIn T Y P, dv] h n (fun v h' n' => v = vS (stepQ T Y P i D) ∧ ∀ j, j < n → h' j = h j) := by
  obtain ⟨a1, a2⟩ := hok.reads i.a (by simp [readsI, eop])
  have hl : i.a.toNat < D.length := by omega
  have ga := get_q hl
  have la : i.a.toNat * 3 ≤ D.length * 3 := by omega
  have oa := getD_ok hok.size hl (show 9000 ≤ 9000 by omega)
  have hv : stepQ T Y P i D = some (-D.getD i.a.toNat 0) := by simp only [stepQ, if_pos eop]
  have hc := c_aneg _ (oa.mono (l := 80000) (by omega))
  rw [rv_cq] at hc
  rcases hD with ⟨rfl, rfl⟩ | ⟨b, rfl, hb, hbn⟩
  · simp at hl
  rw [hv]
  refine hcalls_of_AWR (pa := []) (fn := Tryz.f28) (rs := [.cell 8 42, .tmp 9]) follows_mixed Tryz.func28 rfl rfl (by kernel_rfl) (by kernel_rfl) (by rw [Tryz.ntmps28]; simp) ?_
  simp only [go_sem, ↓reduceIte, encI, encIn, encW, beq_int, dec_true eop, a1, a2, hb, hbn, ga, la, len_q, upd1_old _ _ _ _ _ hbn, upd1_old0 _ _ _ _ hbn, old_ne hbn, new_ne hbn, old_ne0 hbn, new_ne0 hbn]
  refine callD_p hc ?_
  simp only [go_sem, ↓reduceIte, encQ, encR, cq, encW]
  refine .mk (vS (some _)) (by simp only [go_sem, ↓reduceIte, resR, resAll, resA, vS, encQ, encR, cq, encW] <;> rfl) ⟨rfl, fun j hj => by simp only [go_sem, ↓reduceIte, upd1_old _ _ _ _ _ hj, upd1_old0 _ _ _ _ hj]⟩

set_option maxRecDepth 20000 in
set_option maxHeartbeats 2000000 in
theorem c_step11 (hD : Own h n D dv) (hok : StepOk i D Y.length P.length) (eop : i.op = 11) : HCalls Tryz.prog 28 [.agg [.ptr g 0], encI i, encIn T Y P, dv] h n (fun v h' n' => v = vS (stepQ T Y P i D) ∧ ∀ j, j < n → h' j = h j) := by
  obtain ⟨a1, a2⟩ := hok.reads i.a (by simp [readsI, eop])
  have hl : i.a.toNat < D.length := by omega
  have ga := get_q hl
  have la : i.a.toNat * 3 ≤ D.length * 3 := by omega
  have oa := getD_ok hok.size hl (show 9000 ≤ 9000 by omega)
  have n6 : ¬ i.op = 6 := by omega
  have hv : stepQ T Y P i D = powO (D.getD i.a.toNat 0) i.b := by simp only [stepQ, if_neg n6, if_pos eop]
  have hc := c_apow _ i.b oa (hok.pow eop).1 (hok.pow eop).2
  rw [rv_cq] at hc
  obtain ⟨q, bb, hq⟩ := vS_ex (powO (D.getD i.a.toNat 0) i.b)
  rw [hq] at hc
  replace hv := (congrArg vS hv).trans hq
  rcases hD with ⟨rfl, rfl⟩ | ⟨b, rfl, hb, hbn⟩
  · simp at hl
  rw [hv]
  refine hcalls_of_AWR (pa := []) (fn := Tryz.f28) (rs := [.cell 8 42, .tmp 9]) follows_mixed Tryz.func28 rfl rfl (by kernel_rfl) (by kernel_rfl) (by rw [Tryz.ntmps28]; simp) ?_
  simp only [go_sem, ↓reduceIte, encI, encIn, encW, beq_int, dec_false n6, dec_true eop, a1, a2, hb, hbn, ga, la, len_q, upd1_old _ _ _ _ _ hbn, upd1_old0 _ _ _ _ hbn, old_ne hbn, new_ne hbn, old_ne0 hbn, new_ne0 hbn]
  refine callD_p hc ?_
  simp only [go_sem, ↓reduceIte, encQ, encR, cq, encW]
  refine .mk (.tup [encQ q, .bool bb]) (by simp only [go_sem, ↓reduceIte, resR, resAll, resA, encQ, encR, cq, encW] <;> rfl) ⟨rfl, fun j hj => by simp only [go_sem, ↓reduceIte, upd1_old _ _ _ _ _ hj, upd1_old0 _ _ _ _ hj]⟩

set_option maxRecDepth 20000 in
set_option maxHeartbeats 2000000 in
theorem c_step7 (hD : Own h n D dv) (hok : StepOk i D Y.length P.length) (eop : i.op = 7) : HCalls Tryz.prog 28 [.agg [.ptr g 0], encI i, encIn T Y P, dv] h n (fun v h' n' => v = vS (stepQ T Y P i D) ∧ ∀ j, j < n → h' j = h j) := by
  obtain ⟨a1, a2⟩ := hok.reads i.a (by simp [readsI, eop])
  have hl : i.a.toNat < D.length := by omega
  have ga := get_q hl
  have la : i.a.toNat * 3 ≤ D.length * 3 := by omega
  have oa := getD_ok hok.size hl (show 9000 ≤ 9000 by omega)
  obtain ⟨b1, b2⟩ := hok.reads i.b (by simp [readsI, eop])
  have hl2 : i.b.toNat < D.length := by omega
  have gb := get_q hl2
  have lb : i.b.toNat * 3 ≤ D.length * 3 := by omega
  have ob := getD_ok hok.size hl2 (show 9000 ≤ 9000 by omega)
  have n6 : ¬ i.op = 6 := by omega
  have n11 : ¬ i.op = 11 := by omega
  have hv : stepQ T Y P i D = some (D.getD i.a.toNat 0 + D.getD i.b.toNat 0) := by simp only [stepQ, if_neg n6, if_neg n11, if_pos eop]
  have hc := c_aadd _ _ (oa.mono (l := 20000) (by omega)) (ob.mono (l := 20000) (by omega))
  rw [rv_cq, rv_cq] at hc
  rcases hD with ⟨rfl, rfl⟩ | ⟨b, rfl, hb, hbn⟩
  · simp at hl
  rw [hv]
  refine hcalls_of_AWR (pa := []) (fn := Tryz.f28) (rs := [.cell 8 42, .tmp 9]) follows_mixed Tryz.func28 rfl rfl (by kernel_rfl) (by kernel_rfl) (by rw [Tryz.ntmps28]; simp) ?_
  simp only [go_sem, ↓reduceIte, encI, encIn, encW, beq_int, dec_false n6, dec_false n11, dec_true eop, a1, a2, hb, hbn, ga, la, len_q, upd1_old _ _ _ _ _ hbn, upd1_old0 _ _ _ _ hbn, old_ne hbn, new_ne hbn, old_ne0 hbn, new_ne0 hbn, b1, b2, gb, lb]
  refine callD_p hc ?_
  simp only [go_sem, ↓reduceIte, encQ, encR, cq, encW]
  refine .mk (vS (some _)) (by simp only [go_sem, ↓reduceIte, resR, resAll, resA, vS, encQ, encR, cq, encW] <;> rfl) ⟨rfl, fun j hj => by simp only [go_sem, ↓reduceIte, upd1_old _ _ _ _ _ hj, upd1_old0 _ _ _ _ hj]⟩

set_option maxRecDepth 20000 in
set_option maxHeartbeats 2000000 in
theorem c_step8 (hD : Own h n D dv) (hok : StepOk i D Y.length P.length) (eop : i.op = 8) : HCalls Tryz.prog 28 [.agg [.ptr g 0], encI i, encIn T Y P, dv] h n (fun v h' n' => v = vS (stepQ T Y P i D) ∧ ∀ j, j < n → h' j = h j) := by
  obtain ⟨a1, a2⟩ := hok.reads i.a (by simp [readsI, eop])
  have hl : i.a.toNat < D.length := by omega
  have ga := get_q hl
  have la : i.a.toNat * 3 ≤ D.length * 3 := by omega
  have oa := getD_ok hok.size hl (show 9000 ≤ 9000 by omega)
  obtain ⟨b1, b2⟩ := hok.reads i.b (by simp [readsI, eop])
  have hl2 : i.b.toNat < D.length := by omega
  have gb := get_q hl2
  have lb : i.b.toNat * 3 ≤ D.length * 3 := by omega
  have ob := getD_ok hok.size hl2 (show 9000 ≤ 9000 by omega)
  have n6 : ¬ i.op = 6 := by omega
  have n11 : ¬ i.op = 11 := by omega
  have n7 : ¬ i.op = 7 := by omega
  have hv : stepQ T Y P i D = some (D.getD i.a.toNat 0 - D.getD i.b.toNat 0) := by simp only [stepQ, if_neg n6, if_neg n11, if_neg n7, if_pos eop]
  have hc := c_asub _ _ (oa.mono (l := 20000) (by omega)) (ob.mono (l := 20000) (by omega))
  rw [rv_cq, rv_cq] at hc
  rcases hD with ⟨rfl, rfl⟩ | ⟨b, rfl, hb, hbn⟩
  · simp at hl
  rw [hv]
  refine hcalls_of_AWR (pa := []) (fn := Tryz.f28) (rs := [.cell 8 42, .tmp 9]) follows_mixed Tryz.func28 rfl rfl (by kernel_rfl) (by kernel_rfl) (by rw [Tryz.ntmps28]; simp) ?_
  simp only [go_sem, ↓reduceIte, encI, encIn, encW, beq_int, dec_false n6, dec_false n11, dec_false n7, dec_true eop, a1, a2, hb, hbn, ga, la, len_q, upd1_old _ _ _ _ _ hbn, upd1_old0 _ _ _ _ hbn, old_ne hbn, new_ne hbn, old_ne0 hbn, new_ne0 hbn, b1, b2, gb, lb]
  refine callD_p hc ?_
  simp only [go_sem, ↓reduceIte, encQ, encR, cq, encW]
  refine .mk (vS (some _)) (by simp only [go_sem, ↓reduceIte, resR, resAll, resA, vS, encQ, encR, cq, encW] <;> rfl) ⟨rfl, fun j hj => by simp only [go_sem, ↓reduceIte, upd1_old _ _ _ _ _ hj, upd1_old0 _ _ _ _ hj]⟩

set_option maxRecDepth 20000 in
set_option maxHeartbeats 2000000 in
theorem c_step9 (hD : Own h n D dv) (hok : StepOk i D Y.length P.length) (eop : i.op = 9) : HCalls Tryz.prog 28 [.agg [.ptr g 0], encI i, encIn T Y P, dv] h n (fun v h' n' => v = vS (stepQ T Y P i D) ∧ ∀ j, j < n → h' j = h j) := by
  obtain ⟨a1, a2⟩ := hok.reads i.a (by simp [readsI, eop])
  have hl : i.a.toNat < D.length := by omega
  have ga := get_q hl
  have la : i.a.toNat * 3 ≤ D.length * 3 := by omega
  have oa := getD_ok hok.size hl (show 9000 ≤ 9000 by omega)
  obtain ⟨b1, b2⟩ := hok.reads i.b (by simp [readsI, eop])
  have hl2 : i.b.toNat < D.length := by omega
  have gb := get_q hl2
  have lb : i.b.toNat * 3 ≤ D.length * 3 := by omega
  have ob := getD_ok hok.size hl2 (show 9000 ≤ 9000 by omega)
  have n6 : ¬ i.op = 6 := by omega
  have n11 : ¬ i.op = 11 := by omega
  have n7 : ¬ i.op = 7 := by omega
  have n8 : ¬ i.op = 8 := by omega
  have hv : stepQ T Y P i D = some (D.getD i.a.toNat 0 * D.getD i.b.toNat 0) := by simp only [stepQ, if_neg n6, if_neg n11, if_neg n7, if_neg n8, if_pos eop]
  have hc := c_amul _ _ (oa.mono (l := 20000) (by omega)) (ob.mono (l := 20000) (by omega))
  rw [rv_cq, rv_cq] at hc
  rcases hD with ⟨rfl, rfl⟩ | ⟨b, rfl, hb, hbn⟩
  · simp at hl
  rw [hv]
  refine hcalls_of_AWR (pa := []) (fn := Tryz.f28) (rs := [.cell 8 42, .tmp 9]) follows_mixed Tryz.func28 rfl rfl (by kernel_rfl) (by kernel_rfl) (by rw [Tryz.ntmps28]; simp) ?_
  simp only [go_sem, ↓reduceIte, encI, encIn, encW, beq_int, dec_false n6, dec_false n11, dec_false n7, dec_false n8, dec_true eop, a1, a2, hb, hbn, ga, la, len_q, upd1_old _ _ _ _ _ hbn, upd1_old0 _ _ _ _ hbn, old_ne hbn, new_ne hbn, old_ne0 hbn, new_ne0 hbn, b1, b2, gb, lb]
  refine callD_p hc ?_
  simp only [go_sem, ↓reduceIte, encQ, encR, cq, encW]
  refine .mk (vS (some _)) (by simp only [go_sem, ↓reduceIte, resR, resAll, resA, vS, encQ, encR, cq, encW] <;> rfl) ⟨rfl, fun j hj => by simp only [go_sem, ↓reduceIte, upd1_old _ _ _ _ _ hj, upd1_old0 _ _ _ _ hj]⟩

set_option maxRecDepth 20000 in
set_option maxHeartbeats 2000000 in
theorem c_step10 (hD : Own h n D dv) (hok : StepOk i D Y.length P.length) (eop : i.op = 10) : HCalls Tryz.prog 28 [.agg [.ptr g 0], encI i, encIn T Y P, dv] h n (fun v h' n' => v = vS (stepQ T Y P i D) ∧ ∀ j, j < n → h' j = h j) := by
  obtain ⟨a1, a2⟩ := hok.reads i.a (by simp [readsI, eop])
  have hl : i.a.toNat < D.length := by omega
  have ga := get_q hl
  have la : i.a.toNat * 3 ≤ D.length * 3 := by omega
  have oa := getD_ok hok.size hl (show 9000 ≤ 9000 by omega)
  obtain ⟨b1, b2⟩ := hok.reads i.b (by simp [readsI, eop])
  have hl2 : i.b.toNat < D.length := by omega
  have gb := get_q hl2
  have lb : i.b.toNat * 3 ≤ D.length * 3 := by omega
  have ob := getD_ok hok.size hl2 (show 9000 ≤ 9000 by omega)
  have n6 : ¬ i.op = 6 := by omega
  have n11 : ¬ i.op = 11 := by omega
  have n7 : ¬ i.op = 7 := by omega
  have n8 : ¬ i.op = 8 := by omega
  have n9 : ¬ i.op = 9 := by omega
  have hv : stepQ T Y P i D = quoO (D.getD i.a.toNat 0) (D.getD i.b.toNat 0) := by simp only [stepQ, if_neg n6, if_neg n11, if_neg n7, if_neg n8, if_neg n9, if_pos eop]
  have hc := c_aquo _ _ (oa.mono (l := 20000) (by omega)) (ob.mono (l := 20000) (by omega))
  rw [rv_cq, rv_cq] at hc
  obtain ⟨q, bb, hq⟩ := vS_ex (quoO (D.getD i.a.toNat 0) (D.getD i.b.toNat 0))
  rw [hq] at hc
  replace hv := (congrArg vS hv).trans hq
  rcases hD with ⟨rfl, rfl⟩ | ⟨b, rfl, hb, hbn⟩
  · simp at hl
  rw [hv]
  refine hcalls_of_AWR (pa := []) (fn := Tryz.f28) (rs := [.cell 8 42, .tmp 9]) follows_mixed Tryz.func28 rfl rfl (by kernel_rfl) (by kernel_rfl) (by rw [Tryz.ntmps28]; simp) ?_
  simp only [go_sem, ↓reduceIte, encI, encIn, encW, beq_int, dec_false n6, dec_false n11, dec_false n7, dec_false n8, dec_false n9, dec_true eop, a1, a2, hb, hbn, ga, la, len_q, upd1_old _ _ _ _ _ hbn, upd1_old0 _ _ _ _ hbn, old_ne hbn, new_ne hbn, old_ne0 hbn, new_ne0 hbn, b1, b2, gb, lb]
  refine callD_p hc ?_
  simp only [go_sem, ↓reduceIte, encQ, encR, cq, encW]
  refine .mk (.tup [encQ q, .bool bb]) (by simp only [go_sem, ↓reduceIte, resR, resAll, resA, encQ, encR, cq, encW] <;> rfl) ⟨rfl, fun j hj => by simp only [go_sem, ↓reduceIte, upd1_old _ _ _ _ _ hj, upd1_old0 _ _ _ _ hj]⟩

set_option maxRecDepth 20000 in
set_option maxHeartbeats 2000000 in
theorem c_step (hD : Own h n D dv) (hok : StepOk i D Y.length P.length) : HCalls Tryz.prog 28 [.agg [.ptr g 0], encI i, encIn T Y P, dv] h n (fun v h' n' => v = vS (stepQ T Y P i D) ∧ ∀ j, j < n → h' j = h j) := by
  by_cases n6 : i.op = 6
  · exact c_step6 T Y P i D g dv h n hD hok n6
  by_cases n11 : i.op = 11
  · exact c_step11 T Y P i D g dv h n hD hok n11
  by_cases n7 : i.op = 7
  · exact c_step7 T Y P i D g dv h n hD hok n7
  by_cases n8 : i.op = 8
  · exact c_step8 T Y P i D g dv h n hD hok n8
  by_cases n9 : i.op = 9
  · exact c_step9 T Y P i D g dv h n hD hok n9
  by_cases n10 : i.op = 10
  · exact c_step10 T Y P i D g dv h n hD hok n10
  have hv : stepQ T Y P i D = some (leafQ T Y P i) := by simp only [stepQ, if_neg n6, if_neg n11, if_neg n7, if_neg n8, if_neg n9, if_neg n10]
  have hc := c_leaf T Y P i hok.c hok.y hok.p
  rw [hv]
  refine hcalls_of_AWR (pa := []) (fn := Tryz.f28) (rs := [.cell 8 42, .tmp 9]) follows_mixed Tryz.func28 rfl rfl (by kernel_rfl) (by kernel_rfl) (by rw [Tryz.ntmps28]; simp) ?_
  simp only [go_sem, ↓reduceIte, encI, encIn, encW, beq_int, dec_false n6, dec_false n11, dec_false n7, dec_false n8, dec_false n9, dec_false n10]
  refine callS_p hc ?_
  simp only [go_sem, ↓reduceIte, encQ, encR, cq, encW]
  refine .mk (vS (some _)) (by simp only [go_sem, ↓reduceIte, resR, resAll, resA, vS, encQ, encR, cq, encW] <;> rfl) ⟨rfl, fun j hj => by simp only [go_sem, ↓reduceIte, upd1_old _ _ _ _ _ hj, upd1_old0 _ _ _ _ hj]⟩
end
end Go.Proofs.YtdbmdaefmlflaaaGreatDoor

set_option linter.unusedVariables false
set_option linter.unusedSimpArgs false
set_option maxRecDepth 10000
namespace Go.Proofs.YtdbmdaefmlflaaaGreatDoor
open Go Go.Ab Go.Num

def encF (k a : Int) : AV := .agg [.int .i64 k, .int .i64 0, .int .i64 0, .int .i64 a]
def fitQ (l : Int) (q : Rat) : Bool := decide ((fsz (cq q) : Int) ≤ l)
def runL (T : Rat) (Y P : List Rat) (l : Int) : List Ins → List Rat → List Rat × Int × Int
  | [], D => (D, 0, 0)
  | i :: r, D => match stepQ T Y P i D with
    | none => ([], 3, D.length)
    | some q => if fitQ l q then runL T Y P l r (D ++ [q]) else ([], 6, D.length)
def runT (t : Tp) (T : Rat) (Y P : List Rat) (l : Int) : List Rat × Int × Int :=
  if wrongI t = -1 ∧ (Y.length : Int) = t.dim ∧ (P.length : Int) = t.par then runL T Y P l t.code [] else ([], 2, 0)

theorem badI_none {t : Tp} : ∀ {l : List Ins} {k : Nat}, badI t l k = none → ∀ j (h : j < l.length), mayB t l[j] (k + j) = true
  | [], k, h, j, hj => by simp at hj
  | i :: r, k, h, 0, hj => by
    rw [badI] at h
    by_cases hm : mayB t i k = true
    · exact hm
    · rw [if_neg hm] at h; cases h
  | i :: r, k, h, j + 1, hj => by
    rw [badI] at h
    by_cases hm : mayB t i k = true
    · rw [if_pos hm] at h
      have := badI_none h j (by simpa using hj)
      rw [show k + (j + 1) = k + 1 + j by omega]
      exact this
    · rw [if_neg hm] at h; cases h
theorem right_parts {t : Tp} (h : wrongI t = -1) : wholeB t = true ∧ (∀ k (hk : k < t.code.length), mayB t t.code[k] k = true) ∧ t.outs.all (fun o => belowB o t.code.length) = true := by
  unfold wrongI at h
  by_cases hw : wholeB t = true
  · rw [if_pos hw] at h
    cases hb : badI t t.code 0 with
    | some k => rw [hb] at h; simp only at h; omega
    | none =>
      rw [hb] at h
      simp only at h
      refine ⟨hw, fun k hk => ?_, ?_⟩
      · have := badI_none hb k hk
        rwa [Nat.zero_add] at this
      · by_cases ho : t.outs.all (fun o => belowB o t.code.length) = true
        · exact ho
        · rw [if_neg ho] at h; omega
  · rw [if_neg hw] at h; omega
theorem wrong_eq {t : Tp} : wrongI t = -1 ↔ wholeB t = true ∧ badI t t.code 0 = none ∧ t.outs.all (fun o => belowB o t.code.length) = true := by
  unfold wrongI
  by_cases hw : wholeB t = true
  · rw [if_pos hw]
    cases hb : badI t t.code 0 with
    | some k => simp
    | none =>
      by_cases ho : t.outs.all (fun o => belowB o t.code.length) = true
      · simp [ho, hw]
      · simp only [if_neg ho]
        constructor
        · intro h; exfalso; omega
        · intro h; exact absurd h.2.2 ho
  · rw [if_neg hw]
    constructor
    · intro h; omega
    · intro h; exact absurd h.1 hw

theorem belowB_iff {i n : Int} : belowB i n = true ↔ 0 ≤ i ∧ i < n := by simp [belowB]

theorem step_ok {t : Tp} {i : Ins} {D : List Rat} {y p : Nat} (hi : okR 80000 i.n) (hm : mayB t i D.length = true) (hy : (y : Int) = t.dim) (hp : (p : Int) = t.par) (hs : ∀ q ∈ D, qw q ≤ 9000) : StepOk i D y p := by
  unfold mayB at hm
  by_cases h1 : i.op = 1
  · exact ⟨fun r hr => (by rw [readsI, if_neg (by omega), if_neg (by omega)] at hr; cases hr), fun h => by omega, fun _ => hi, fun h => by omega, fun h => by omega, hs⟩
  · rw [if_neg h1] at hm
    simp only [Bool.and_eq_true, List.all_eq_true] at hm
    obtain ⟨m1, m2, m3⟩ := hm
    refine ⟨fun r hr => belowB_iff.1 (m2 r hr), fun h => ?_, fun h => absurd h h1, fun h => ?_, fun h => ?_, hs⟩
    · rw [kindB, if_neg (by omega), if_neg (by omega), if_neg (by omega), if_neg (by omega), if_pos h] at m3
      simpa using m3
    · rw [kindB, if_neg (by omega), if_pos h, Bool.and_eq_true] at m3
      have := belowB_iff.1 m3.1; omega
    · rw [kindB, if_neg (by omega), if_neg (by omega), if_pos h, Bool.and_eq_true] at m3
      have := belowB_iff.1 m3.1; omega

theorem getD_size {D : List Rat} {k : Nat} (h : ∀ q ∈ D, qw q ≤ k) (hk : 1 ≤ k) (i : Nat) : qw (D.getD i 0) ≤ k := by
  by_cases hi : i < D.length
  · rw [show D.getD i 0 = D[i] by simp [List.getD, hi]]; exact h _ (List.getElem_mem hi)
  · rw [show D.getD i 0 = 0 by simp [List.getD, Nat.not_lt.1 hi], qw_zero]; exact hk

theorem step_size {T : Rat} {Y P : List Rat} {i : Ins} {D : List Rat} {y p : Nat} (hok : StepOk i D y p) (hT : qw T ≤ 9000) (hY : ∀ q ∈ Y, qw q ≤ 9000) (hP : ∀ q ∈ P, qw q ≤ 9000) {q : Rat} (h : stepQ T Y P i D = some q) : qw q ≤ 80000 := by
  have ha := getD_size hok.size (by omega) i.a.toNat
  have hb := getD_size hok.size (by omega) i.b.toNat
  unfold stepQ at h
  split at h
  · cases h; rw [qw_neg]; omega
  split at h
  · rename_i _ h11
    unfold powO at h
    split at h
    · cases h
    · cases h
      have := qw_powQ (D.getD i.a.toNat 0) i.b (by have := hok.pow h11; omega)
      omega
  split at h
  · cases h; have := qw_add (D.getD i.a.toNat 0) (D.getD i.b.toNat 0); omega
  split at h
  · cases h; have := qw_sub (D.getD i.a.toNat 0) (D.getD i.b.toNat 0); omega
  split at h
  · cases h; have := qw_mul (D.getD i.a.toNat 0) (D.getD i.b.toNat 0); omega
  split at h
  · unfold quoO at h
    split at h
    · cases h
    · cases h
      have := qw_div (D.getD i.a.toNat 0) (D.getD i.b.toNat 0); omega
  · cases h
    unfold leafQ
    split
    · rename_i h1; exact qw_rv (hok.c h1) (by omega)
    split
    · have := getD_size hY (by omega) i.a.toNat; omega
    split
    · have := getD_size hP (by omega) i.a.toNat; omega
    · omega
theorem fit_size {l : Int} {q : Rat} (hl : l ≤ 4096) (h : fitQ l q = true) : qw q ≤ 200 := by
  have h := of_decide_eq_true h
  simp only [fsz, cq] at h
  have h1 := dig_len_blen q.num.natAbs
  have h2 := dig_len_blen q.den
  rw [val_dig, val_dig] at h
  unfold qw
  omega
end Go.Proofs.YtdbmdaefmlflaaaGreatDoor

set_option linter.unusedVariables false
set_option linter.unusedSimpArgs false
set_option maxRecDepth 10000
namespace Go.Proofs.YtdbmdaefmlflaaaGreatDoor
open Go Go.Ab Go.Num

/-- The run's own variables, where they lie. -/
structure RunH (n g : Nat) (l : Int) (t : Tp) (T : Rat) (Y P : List Rat) (H : Heap) : Prop where
  m : H n = some [.ptr g 0]
  t : H (n + 1) = some [.sl 6 (t.code.map encI), .sl 1 (t.outs.map i64), .int .i64 t.dim, .int .i64 t.par]
  i : H (n + 2) = some [.bool (cq T).neg, encW (cq T).n, encW (cq T).d, .sl 3 (Y.map encQ), .sl 3 (P.map encQ)]
  f : H (n + 4) = some [.int .i64 0, .int .i64 0, .int .i64 0, .int .i64 0]
  g : Gau H g l

theorem RunH.keep {n g : Nat} {l : Int} {t : Tp} {T : Rat} {Y P : List Rat} {H H' : Heap} {N : Nat} (h : RunH n g l t T Y P H) (hn : n + 5 ≤ N) (hg : g < n) (hk : ∀ j, j < N → j ≠ g → H' j = H j) (hgg : Gau H' g l) : RunH n g l t T Y P H' :=
  ⟨by rw [hk _ (by omega) (by omega)]; exact h.m, by rw [hk _ (by omega) (by omega)]; exact h.t, by rw [hk _ (by omega) (by omega)]; exact h.i, by rw [hk _ (by omega) (by omega)]; exact h.f, hgg⟩
theorem Gau.eq {H H' : Heap} {g : Nat} {l : Int} (h : Gau H g l) (he : H' g = H g) : Gau H' g l := by
  obtain ⟨s, p, h⟩ := h
  exact ⟨s, p, by rw [he, h]⟩

theorem upd1_nei {H : Heap} {i b : Nat} {x : Option Blk} (h : b ≠ i) : upd1 H i x b = H b := by simp only [upd1]; rw [if_neg h]
theorem Own.keep {H H' : Heap} {N N' : Nat} {D : List Rat} {u : AV} (h : Own H N D u) (hN : N ≤ N') (hk : ∀ b o l e, u = .own b o l e → b < N → H' b = H b) : Own H' N' D u := by
  rcases h with h | ⟨b, h1, h2, h3⟩
  · exact .inl h
  · exact .inr ⟨b, h1, by rw [hk _ _ _ _ h1 h3, h2], by omega⟩
/-- What a run hands back. -/
def RunP (h : Heap) (n g : Nat) (r : List Rat × Int × Int) (v : AV) (h' : Heap) (n' : Nat) : Prop := (∃ u, v = .tup [u, encF r.2.1 r.2.2] ∧ Own h' n' r.1 u ∧ ∀ b o l e, u = .own b o l e → n ≤ b) ∧ ∀ j, j < n → j ≠ g → h' j = h j


section
variable (t : Tp) (T : Rat) (Y P : List Rat) (g : Nat) (l : Int) (h : Heap) (n : Nat)
set_option maxRecDepth 20000 in
set_option maxHeartbeats 2000000 in
theorem c_runm (ht : okT t) (hT : qw T ≤ 9000) (hY : ∀ q ∈ Y, qw q ≤ 9000) (hP : ∀ q ∈ P, qw q ≤ 9000) (hl : l ≤ 4096) (hg : Gau h g l) (hgn : g < n) :
    HCalls Tryz.prog 19 [.agg [.ptr g 0], encT t, encIn T Y P] h n (RunP h n g (runT t T Y P l)) := by
  have hr := c_right t ht
  unfold runT
  refine hcalls_of_AWR (pa := []) (fn := Tryz.f19) (rs := [.tmp 6, .cell 7 48]) follows_mixed Tryz.func19 rfl rfl (by kernel_rfl) (by kernel_rfl) (by rw [Tryz.ntmps19]; simp) ?_
  simp only [go_sem, ↓reduceIte, encT, encIn, encW]
  refine callS_p hr ?_
  by_cases e1 : wrongI t = -1
  case neg =>
    rw [if_neg (fun h => e1 h.1)]
    simp only [go_sem, ↓reduceIte, dec_false e1]
    refine .mk (.tup [.nilsl, encF 2 0]) (by simp only [go_sem, ↓reduceIte, resR, resAll, resA, encF] <;> rfl) ⟨⟨_, rfl, .inl ⟨rfl, rfl⟩, fun _ _ _ _ h => by cases h⟩, fun j hj hjg => by simp only [go_sem, ↓reduceIte, upd1_old _ _ _ _ _ hj, upd1_old0 _ _ _ _ hj]⟩
  by_cases e2 : (Y.length : Int) = t.dim
  case neg =>
    rw [if_neg (fun h => e2 h.2.1)]
    simp only [go_sem, ↓reduceIte, dec_true e1, bne_int, dec_false e2]
    refine .mk (.tup [.nilsl, encF 2 0]) (by simp only [go_sem, ↓reduceIte, resR, resAll, resA, encF] <;> rfl) ⟨⟨_, rfl, .inl ⟨rfl, rfl⟩, fun _ _ _ _ h => by cases h⟩, fun j hj hjg => by simp only [go_sem, ↓reduceIte, upd1_old _ _ _ _ _ hj, upd1_old0 _ _ _ _ hj]⟩
  by_cases e3 : (P.length : Int) = t.par
  case neg =>
    rw [if_neg (fun h => e3 h.2.2)]
    simp only [go_sem, ↓reduceIte, dec_true e1, bne_int, dec_true e2, dec_false e3]
    refine .mk (.tup [.nilsl, encF 2 0]) (by simp only [go_sem, ↓reduceIte, resR, resAll, resA, encF] <;> rfl) ⟨⟨_, rfl, .inl ⟨rfl, rfl⟩, fun _ _ _ _ h => by cases h⟩, fun j hj hjg => by simp only [go_sem, ↓reduceIte, upd1_old _ _ _ _ _ hj, upd1_old0 _ _ _ _ hj]⟩
  rw [if_pos ⟨e1, e2, e3⟩]
  obtain ⟨ew, em, eo⟩ := right_parts e1
  obtain ⟨hlen, -⟩ := whole_le ht ew
  simp only [go_sem, ↓reduceIte, dec_true e1, bne_int, dec_true e2, dec_true e3]
  refine AW_while (fun m st => ∃ i D u, i + m = t.code.length ∧ D.length = i ∧ runL T Y P l (t.code.drop i) D = runL T Y P l t.code [] ∧ (∀ q ∈ D, qw q ≤ 9000) ∧ st.τ 3 = .ptr n 0 ∧ st.τ 4 = .ptr (n + 1) 0 ∧ st.τ 5 = .ptr (n + 2) 0 ∧ st.τ 7 = .ptr (n + 4) 0 ∧ st.τ 8 = u ∧ Own st.h st.n D u ∧ (∀ b o l e, u = .own b o l e → n + 5 ≤ b) ∧
    st.τ 34 = .sl 6 (t.code.map encI) ∧ st.τ 35 = .int .i64 t.code.length ∧ st.τ 36 = .int .i64 (i : Nat) ∧ RunH n g l t T Y P st.h ∧ n + 5 ≤ st.n ∧ ∀ j, j < n → j ≠ g → st.h j = h j) t.code.length ?_ ?_
  · refine ⟨0, [], .nilsl, by omega, rfl, rfl, (fun q hq => by cases hq), by simp only [go_sem, ↓reduceIte], by simp only [go_sem, ↓reduceIte], by simp only [go_sem, ↓reduceIte], by simp only [go_sem, ↓reduceIte], by simp only [go_sem, ↓reduceIte], .inl ⟨rfl, rfl⟩, (fun _ _ _ _ h => by cases h), by simp only [go_sem, ↓reduceIte], by simp only [go_sem, ↓reduceIte], by simp only [go_sem, ↓reduceIte] <;> rfl, ⟨by simp only [go_sem, ↓reduceIte], by simp only [go_sem, ↓reduceIte], by simp only [go_sem, ↓reduceIte, encW], by simp only [go_sem, ↓reduceIte], ?_⟩, by simp only [go_sem, ↓reduceIte] <;> omega, fun j hj hjg => by simp only [go_sem, ↓reduceIte, upd1_old _ _ _ _ _ hj, upd1_old0 _ _ _ _ hj]⟩
    exact hg.eq (by simp only [go_sem, ↓reduceIte, upd1_old _ _ _ _ _ hgn, upd1_old0 _ _ _ _ hgn])
  · rintro m st ⟨i, D, u, hi, hDl, hs, hDs, h3, h4, h5, h7, h8, hD, hub, h34, h35, h36, hH, hn, hkp⟩ next
    by_cases hlt : i < t.code.length
    case neg =>
      have hlt' := dec_false (show ¬ ((i : Nat) : Int) < (t.code.length : Nat) by omega)
      rw [List.drop_eq_nil_of_le (by omega), runL] at hs
      rw [← hs]
      simp only [go_sem, ↓reduceIte, h3, h4, h5, h7, h8, h34, h35, h36, hlt', hH.f]
      refine .mk (.tup [u, encF 0 0]) (by simp only [go_sem, ↓reduceIte, resR, resAll, resA, encF, h7, h8, hH.f] <;> rfl) ⟨⟨_, rfl, hD.keep (by simp only [go_sem, ↓reduceIte] <;> omega) (fun b o l e hb hbn => by simp only [go_sem, ↓reduceIte]; exact upd1_nei (by have := hub _ _ _ _ hb; omega)), fun b o l e hb => by have := hub _ _ _ _ hb; omega⟩, fun j hj hjg => by simp only [go_sem, ↓reduceIte, upd1_old _ _ _ _ _ hj, hkp j hj hjg]⟩
    have hlt' : ((i : Nat) : Int) < (t.code.length : Nat) := by omega
    have hm := em i hlt
    have hci := ht.code _ (List.getElem_mem hlt)
    rw [drop_cons hlt, runL] at hs
    have hgd := getD_map_lt encI t.code i .undef hlt
    generalize hx : t.code[i] = x at *
    have hok : StepOk x D Y.length P.length := step_ok hci (by rw [hDl]; exact hm) e2 e3 hDs
    have hst := fun H N (hD : Own H N D u) => c_step T Y P x D g u H N hD hok
    simp only [encI, encIn, encW] at hst
    simp only [go_sem, ↓reduceIte, h3, h4, h5, h7, h8, h34, h35, h36, hlt', hgd, encI, encW, hH.m, hH.t, hH.i, upd1_old _ _ _ _ _ (show n < st.n by omega), upd1_old _ _ _ _ _ (show n + 2 < st.n by omega)]
    refine callS_h (hst _ _ (hD.keep (by simp only [go_sem, ↓reduceIte] <;> omega) fun b _ _ _ _ hbn => by simp only [go_sem, ↓reduceIte]; rw [upd1_nei (by omega), upd1_nei (by omega)])) ?_
    clear hst
    rintro v h' n' hn' ⟨rfl, hk'⟩
    simp only [go_sem, ↓reduceIte] at hn' hk'
    have hk1 : ∀ j, j < st.n → h' j = st.h j := fun j hj => by rw [hk' j (by omega), upd1_nei (by omega), upd1_nei (by omega)]
    have hH' : RunH n g l t T Y P h' := hH.keep hn hgn (fun j hj _ => hk1 j hj) (hH.g.eq (hk1 g (by omega)))
    have hD' : Own h' n' D u := hD.keep (by omega) fun b _ _ _ _ hbn => hk1 b hbn
    cases eq : stepQ T Y P x D with
    | none =>
      rw [eq] at hs
      simp only at hs
      rw [← hs]
      simp only [go_sem, ↓reduceIte, vS, encQ, encR, encW, h3, h4, h5, h7, h8, hH'.f, upd1_old _ _ _ _ _ (show n + 4 < st.n by omega)]
      refine .mk (.tup [.nilsl, encF 3 i]) (by simp only [go_sem, ↓reduceIte, resR, resAll, resA, encF, h7, hDl, hH'.f] <;> rfl) ⟨⟨_, by rw [hDl], .inl ⟨rfl, rfl⟩, fun _ _ _ _ h => by cases h⟩, fun j hj hjg => by simp only [go_sem, ↓reduceIte, upd1_old _ _ _ _ _ hj, upd1_old _ _ _ _ _ (show j < st.n by omega), hk1 j (by omega), hkp j hj hjg]⟩
    | some q =>
      rw [eq] at hs
      simp only at hs
      have hq8 := step_size hok hT hY hP eq
      have hft := fun H N (h1 : Gau H g l) (h2 : g < N) => c_fits g (cq q) (okR_cq hq8) H N l h1 h2
      simp only [encR, encW] at hft
      simp only [go_sem, ↓reduceIte, vS, encQ, encR, encW, h3, h4, h5, h7, h8, hH'.f, hH'.m, upd1_old _ _ _ _ _ (show n + 4 < st.n by omega), upd1_old _ _ _ _ _ (show n < st.n by omega)]
      refine callS_h (hft _ _ (hH'.g.eq (by simp only [go_sem, ↓reduceIte, upd1_old _ _ _ _ _ (show g < st.n by omega)])) (by simp only [go_sem, ↓reduceIte] <;> omega)) ?_
      clear hft
      rintro v h'' n'' hn'' ⟨rfl, hgg, hk'⟩
      simp only [go_sem, ↓reduceIte] at hn'' hk'
      have hk2 : ∀ j, j < n' → j ≠ g → j ≠ st.n + 15 → h'' j = h' j := fun j hj hjg hj' => by rw [hk' j (by omega) hjg, upd1_nei hj', upd1_nei hj']
      have hk3 : h'' (st.n + 15) = some [.bool (cq q).neg, encW (cq q).n, encW (cq q).d] := by rw [hk' _ (by omega) (by omega)]; simp only [go_sem, ↓reduceIte, encW]
      have hH2 : RunH n g l t T Y P h'' := hH'.keep (N := st.n) hn hgn (fun j hj hjg => hk2 j (by omega) hjg (by omega)) hgg
      have hD2 : Own h'' n'' D u := by
        rcases hD with hD | ⟨b, k1, k2, k3⟩
        · exact .inl hD
        · have := hub _ _ _ _ k1
          exact .inr ⟨b, k1, by rw [hk2 b (by omega) (by omega) (by omega), hk1 b k3, k2], by omega⟩
      cases ef : decide ((fsz (cq q) : Int) ≤ l) with
      | false =>
        rw [show fitQ l q = false from ef, if_neg (by decide)] at hs
        rw [← hs]
        simp only [go_sem, ↓reduceIte, vS, encQ, encR, encW, h3, h4, h5, h7, h8, hH2.f, hH2.m, upd1_old _ _ _ _ _ (show n + 4 < st.n by omega)]
        refine .mk (.tup [.nilsl, encF 6 i]) (by simp only [go_sem, ↓reduceIte, resR, resAll, resA, encF, h7, hDl, hH2.f] <;> rfl) ⟨⟨_, by rw [hDl], .inl ⟨rfl, rfl⟩, fun _ _ _ _ h => by cases h⟩, fun j hj hjg => by simp only [go_sem, ↓reduceIte, upd1_old _ _ _ _ _ hj, upd1_old _ _ _ _ _ (show j < st.n by omega)]; rw [hk2 j (by omega) hjg (by omega), hk1 j (by omega), hkp j hj hjg]⟩
      | true =>
        rw [show fitQ l q = true from ef, if_pos rfl] at hs
        have hfs := fit_size hl ef
        have hlen3 := len_q D
        simp only [go_sem, ↓reduceIte, vS, encQ, encR, encW, h3, h4, h5, h7, h8, hH2.f, hH2.m, hk3, upd1_old _ _ _ _ _ (show n + 4 < st.n by omega)]
        have hi38 : i ≤ 274877906944 := by omega
        have hDs' : ∀ q' ∈ D ++ [q], qw q' ≤ 9000 := fun q' hq' => by
          rcases List.mem_append.1 hq' with h | h
          · exact hDs q' h
          · simp at h; subst h; omega
        have hDl' : (D ++ [q]).length = i + 1 := by simp [hDl]
        rcases hD2 with ⟨rfl, hu⟩ | ⟨b, hu, hb, hbn⟩
        · subst hu
          have hi0 : i = 0 := by simpa using hDl.symm
          subst hi0
          simp only [go_sem, ↓reduceIte, h3, h4, h5, h7, h8, h36]
          refine next (m - 1) _ (by omega) ⟨1, [] ++ [q], _, by omega, hDl', hs, hDs', by simp only [go_sem, ↓reduceIte, h3], by simp only [go_sem, ↓reduceIte, h4], by simp only [go_sem, ↓reduceIte, h5], by simp only [go_sem, ↓reduceIte, h7], by simp only [go_sem, ↓reduceIte] <;> rfl, .inr ⟨_, rfl, by simp only [go_sem, ↓reduceIte] <;> rfl, by simp only [go_sem, ↓reduceIte] <;> omega⟩, (fun _ _ _ _ h => by cases h; omega), by simp only [go_sem, ↓reduceIte, h34] <;> rfl, by simp only [go_sem, ↓reduceIte, h35], by simp only [go_sem, ↓reduceIte, h36] <;> rfl, hH2.keep (N := st.n) hn hgn (fun j hj _ => by simp only [go_sem, ↓reduceIte, upd1_old _ _ _ _ _ (show j < n'' by omega)]) (hH2.g.eq (by simp only [go_sem, ↓reduceIte, upd1_old _ _ _ _ _ (show g < n'' by omega)])), by simp only [go_sem, ↓reduceIte] <;> omega, fun j hj hjg => by simp only [go_sem, ↓reduceIte, upd1_old _ _ _ _ _ (show j < n'' by omega)]; rw [hk2 j (by omega) hjg (by omega), hk1 j (by omega), hkp j hj hjg]⟩
        · have hbg := hub _ _ _ _ hu
          rw [hDl] at hu
          subst hu
          rw [hDl] at hlen3
          simp only [go_sem, ↓reduceIte, h3, h4, h5, h7, h8, h36, hb, hlen3, hi38, upd1_old _ _ _ _ _ hbn, old_ne hbn, new_ne hbn]
          refine next (m - 1) _ (by omega) ⟨i + 1, D ++ [q], _, by omega, hDl', hs, hDs', by simp only [go_sem, ↓reduceIte, h3], by simp only [go_sem, ↓reduceIte, h4], by simp only [go_sem, ↓reduceIte, h5], by simp only [go_sem, ↓reduceIte, h7], by simp only [go_sem, ↓reduceIte] <;> rfl, .inr ⟨_, by rw [hDl'], by rw [flatC_snoc]; simp only [go_sem, ↓reduceIte, List.take_of_length_le (Nat.le_of_eq hlen3), encQ, encR, encW] <;> rfl, by simp only [go_sem, ↓reduceIte] <;> omega⟩, (fun _ _ _ _ h => by cases h; omega), by simp only [go_sem, ↓reduceIte, h34] <;> rfl, by simp only [go_sem, ↓reduceIte, h35], by simp only [go_sem, ↓reduceIte, h36]; rw [wrap64_id (by omega) (by omega)]; rfl, hH2.keep (N := n + 5) (by omega) hgn (fun j hj _ => by simp only [go_sem, ↓reduceIte]; rw [upd1_old _ _ _ _ _ (show j < n'' by omega), upd1_nei (by omega), upd1_old _ _ _ _ _ (show j < n'' by omega)]) (hH2.g.eq (by simp only [go_sem, ↓reduceIte]; rw [upd1_old _ _ _ _ _ (show g < n'' by omega), upd1_nei (by omega), upd1_old _ _ _ _ _ (show g < n'' by omega)])), by simp only [go_sem, ↓reduceIte] <;> omega, fun j hj hjg => by simp only [go_sem, ↓reduceIte]; rw [upd1_old _ _ _ _ _ (show j < n'' by omega), upd1_nei (by omega), upd1_old _ _ _ _ _ (show j < n'' by omega), hk2 j (by omega) hjg (by omega), hk1 j (by omega), hkp j hj hjg]⟩
end
end Go.Proofs.YtdbmdaefmlflaaaGreatDoor

set_option linter.unusedVariables false
set_option linter.unusedSimpArgs false
set_option maxRecDepth 10000
namespace Go.Proofs.YtdbmdaefmlflaaaGreatDoor
open Go Go.Ab Go.Num

theorem elt_r : Elt 3 encR := ⟨by omega, fun q => ⟨_, rfl, rfl, rfl, rfl⟩⟩

theorem map_take_snoc {α β : Type} (f : α → β) {l : List α} {i : Nat} (h : i < l.length) : (l.take (i + 1)).map f = (l.take i).map f ++ [f l[i]] := by rw [take_snoc h, List.map_append]; rfl

set_option maxRecDepth 20000 in
theorem c_norms (l : List Fr) (hl : l.length ≤ 100000) (hok : ∀ f ∈ l, okR 80000 f) : PCalls Tryz.prog 26 [.sl 3 (l.map encR)] (.sl 3 ((l.map rv).map encQ)) := by
  refine pcalls_of_AW (pa := []) (fn := Tryz.f26) (ts := [2]) follows_mixed Tryz.func26 rfl rfl (by kernel_rfl) (by kernel_rfl) (by rw [Tryz.ntmps26]; simp) ?_
  simp only [go_sem, ↓reduceIte]
  refine AW_while (fun m st => ∃ i, i + m = l.length ∧ st.τ 6 = .sl 3 (l.map encR) ∧ st.τ 7 = .int .i64 l.length ∧ st.τ 8 = .int .i64 (i : Nat) ∧ Acc 3 encQ st (st.τ 3) ((l.take i).map rv)) l.length ?_ ?_
  · exact ⟨0, by omega, by simp only [go_sem, ↓reduceIte], by simp only [go_sem, ↓reduceIte], by simp only [go_sem, ↓reduceIte] <;> rfl, .inl ⟨by simp, by simp only [go_sem, ↓reduceIte]⟩⟩
  · rintro m st ⟨i, hi, h6, h7, h8, hacc⟩ next
    by_cases hlt : i < l.length
    · have hlt' : ((i : Nat) : Int) < (l.length : Nat) := by omega
      have hc := c_fnorm l[i] (hok _ (List.getElem_mem hlt))
      simp only [go_sem, ↓reduceIte, h6, h7, h8, hlt', getD_map_lt _ _ _ _ hlt, encR, encW]
      refine callS_p hc ?_
      have hl3 : (flatC encQ ((l.take i).map rv)).length = i * 3 := by rw [len_q]; simp; omega
      have hi38 : i ≤ 274877906944 := by omega
      have htk : ((l.take i).map rv).length = i := by simp; omega
      have htk1 : ((l.take (i + 1)).map rv).length = i + 1 := by simp; omega
      rcases hacc with ⟨hnil, h3⟩ | ⟨b, h3, hb, hbn⟩
      · have hi0 : i = 0 := by rw [hnil] at htk; simp at htk; omega
        subst hi0
        simp only [go_sem, ↓reduceIte, h3, h6, h7, h8, hlt', encQ, encR, encW]
        refine next (m - 1) _ (by omega) ⟨1, by omega, by simp only [go_sem, ↓reduceIte, h6], by simp only [go_sem, ↓reduceIte, h7], by simp only [go_sem, ↓reduceIte] <;> rfl, .inr ⟨_, by rw [htk1]; simp only [go_sem, ↓reduceIte] <;> rfl, by rw [map_take_snoc rv hlt, flatC_snoc, hnil]; simp only [go_sem, ↓reduceIte, flatC_nil, encQ, encR, encW] <;> rfl, by simp only [go_sem, ↓reduceIte] <;> omega⟩⟩
      · rw [htk] at h3
        simp only [go_sem, ↓reduceIte, h3, h6, h7, h8, hlt', encQ, encR, encW, hb, hl3, hi38, upd1_old _ _ _ _ _ hbn, old_ne hbn, new_ne hbn]
        refine next (m - 1) _ (by omega) ⟨i + 1, by omega, by simp only [go_sem, ↓reduceIte, h6], by simp only [go_sem, ↓reduceIte, h7], by simp only [go_sem, ↓reduceIte]; rw [wrap64_id (by omega) (by omega)]; rfl, .inr ⟨_, by rw [htk1]; simp only [go_sem, ↓reduceIte] <;> rfl, by rw [map_take_snoc rv hlt, flatC_snoc]; simp only [go_sem, ↓reduceIte, List.take_of_length_le (Nat.le_of_eq hl3), encQ, encR, encW] <;> rfl, by simp only [go_sem, ↓reduceIte] <;> omega⟩⟩
    · have hlt' := dec_false (show ¬ ((i : Nat) : Int) < (l.length : Nat) by omega)
      rw [List.take_of_length_le (by omega)] at hacc
      simp only [go_sem, ↓reduceIte, h6, h7, h8, hlt']
      refine Acc.ret elt_q ?_
      rcases hacc with ⟨hnil, h3⟩ | ⟨b, h3, hb, hbn⟩
      · exact .inl ⟨hnil, by simp only [go_sem, ↓reduceIte, h3]⟩
      · exact .inr ⟨b, by simp only [go_sem, ↓reduceIte, h3] <;> rfl, by simp only [go_sem, ↓reduceIte, hb] <;> rfl, by simp only [go_sem, ↓reduceIte]; omega⟩

/-- A point as it stands. -/
structure Pt where
  t : Fr
  y : List Fr
  p : List Fr
def encPt (a : Pt) : AV := .agg [.bool a.t.neg, encW a.t.n, encW a.t.d, .sl 3 (a.y.map encR), .sl 3 (a.p.map encR)]
structure okP (k : Nat) (a : Pt) : Prop where
  t : okR k a.t
  y : ∀ f ∈ a.y, okR k f
  p : ∀ f ∈ a.p, okR k f
  ly : a.y.length ≤ 100000
  lp : a.p.length ≤ 100000

set_option maxRecDepth 20000 in
theorem c_enorm (a : Pt) (ha : okP 80000 a) : PCalls Tryz.prog 17 [encPt a] (encIn (rv a.t) (a.y.map rv) (a.p.map rv)) := by
  have h1 := c_fnorm a.t ha.t
  have h2 := c_norms a.y ha.ly ha.y
  have h3 := c_norms a.p ha.lp ha.p
  refine pcalls_of_AWR (pa := []) (fn := Tryz.f17) (rs := [.cell 2 45]) follows_mixed Tryz.func17 rfl rfl (by kernel_rfl) (by kernel_rfl) (by rw [Tryz.ntmps17]; simp) ?_
  simp only [go_sem, ↓reduceIte, encPt, encW]
  refine callD_p h1 ?_
  simp only [go_sem, ↓reduceIte, encQ, encR, encW]
  refine callD_p h2 ?_
  simp only [go_sem, ↓reduceIte, encQ, encR, encW]
  refine callD_p h3 ?_
  simp only [go_sem, ↓reduceIte, encQ, encR, encW]
  exact .mk (by simp only [go_sem, ↓reduceIte, encIn, encQ, encR, encW] <;> rfl)

/-- A run's answer, as a value. -/
def vT (r : List Rat × Int × Int) : AV := .tup [.sl 3 (r.1.map encQ), encF r.2.1 r.2.2]
theorem RunP.frz {r : List Rat × Int × Int} {u : AV} {h : Heap} {n : Nat} (hu : Own h n r.1 u) : (frz1 h u).le (.sl 3 (r.1.map encQ)) := by
  rcases hu with ⟨h1, rfl⟩ | ⟨b, rfl, h2, _⟩
  · rw [h1]; exact AV.le_nil 3
  · exact AV.le_of_eq (frz1_flatC elt_q h2)

set_option maxRecDepth 20000 in
theorem c_tape (t : Tp) (a : Pt) (bits : Int) (ht : okT t) (ha : okP 9000 a) : PCalls Tryz.prog 9 [encT t, encPt a, .int .i64 bits] (vT (runT t (rv a.t) (a.y.map rv) (a.p.map rv) (clampB bits))) := by
  have hn := c_enorm a ⟨ha.t.mono (by omega), fun f hf => (ha.y f hf).mono (by omega), fun f hf => (ha.p f hf).mono (by omega), ha.ly, ha.lp⟩
  have hl : clampB bits ≤ 4096 := by unfold clampB; omega
  have hrun := fun g H N h1 h2 => c_runm t (rv a.t) (a.y.map rv) (a.p.map rv) g (clampB bits) H N ht (qw_rv ha.t (by omega)) (fun q hq => by
    obtain ⟨f, hf, rfl⟩ := List.mem_map.1 hq
    exact qw_rv (ha.y f hf) (by omega)) (fun q hq => by
    obtain ⟨f, hf, rfl⟩ := List.mem_map.1 hq
    exact qw_rv (ha.p f hf) (by omega)) hl h1 h2
  generalize runT t (rv a.t) (a.y.map rv) (a.p.map rv) (clampB bits) = r at *
  refine pcalls_of_AWR (pa := []) (fn := Tryz.f9) (rs := [.tmp 6, .cell 7 48]) follows_mixed Tryz.func9 rfl rfl (by kernel_rfl) (by kernel_rfl) (by rw [Tryz.ntmps9]; simp) ?_
  simp only [go_sem, ↓reduceIte, encT, encPt, encW]
  refine callS_p hn ?_
  simp only [go_sem, ↓reduceIte, encIn, encW]
  refine callS_h (c_gnew bits _ _) ?_
  rintro v h' n' hn' ⟨b, rfl, hb1, hb2, hg, hk⟩
  simp only [go_sem, ↓reduceIte] at hn' hb1 hk
  have k0 : h' 0 = _ := hk 0 (by omega)
  have k1 : h' 1 = _ := hk 1 (by omega)
  have k3 : h' 3 = _ := hk 3 (by omega)
  simp only [go_sem, ↓reduceIte] at k0 k1 k3
  simp only [encT, encIn, encW] at hrun
  simp only [go_sem, ↓reduceIte, k0, k1, k3]
  refine callS_h (hrun b _ _ (hg.eq (by simp only [go_sem, ↓reduceIte]; rw [upd1_nei (by omega), upd1_nei (by omega)])) (by simp only [go_sem, ↓reduceIte] <;> omega)) ?_
  rintro v h2 n2 hn2 ⟨⟨u, rfl, hu, hub⟩, hk2⟩
  have e3 : h2 3 = some [.int .i64 0, .int .i64 0, .int .i64 0, .int .i64 0] := by rw [hk2 3 (by simp only [go_sem, ↓reduceIte] <;> omega) (by omega)]; simp only [go_sem, ↓reduceIte, k3]
  simp only [go_sem, ↓reduceIte, encF, e3]
  have hu2 : Own (upd1 h2 3 (some [.int .i64 r.2.1, .int .i64 0, .int .i64 0, .int .i64 r.2.2])) n2 r.1 u := hu.keep (Nat.le_refl _) fun b o l e hb _ => upd1_nei (by have := hub _ _ _ _ hb; simp only [go_sem, ↓reduceIte] at this; omega)
  refine .mk_le (u := .tup [frz1 (upd1 h2 3 (some [.int .i64 r.2.1, .int .i64 0, .int .i64 0, .int .i64 r.2.2])) u, encF r.2.1 r.2.2]) ?_ (AV.le_tup2 (RunP.frz hu2) (AV.le_refl _))
  rcases hu2 with ⟨_, rfl⟩ | ⟨b, rfl, hb, _⟩
  · simp only [go_sem, ↓reduceIte, resR, resAll, resA, encF] <;> rfl
  · simp only [go_sem, ↓reduceIte, resR, resAll, resA, encF] <;> rfl
end Go.Proofs.YtdbmdaefmlflaaaGreatDoor

set_option linter.unusedVariables false
set_option linter.unusedSimpArgs false
set_option maxRecDepth 10000
namespace Go.Proofs.YtdbmdaefmlflaaaGreatDoor
open Go Go.Ab Go.Num

def longR (f : Fr) (k : Int) : Bool := decide (k < (f.n.length : Nat)) || decide (k < (f.d.length : Nat))
theorem c_long09 (f : Fr) (k : Int) : PCalls Tryz.prog 11 [encR f, .int .i64 k] (.bool (longR f k)) := by
  unfold longR
  refine pcalls_of_AW (pa := []) (fn := Tryz.f11) (ts := [4]) follows_mixed Tryz.func11 rfl rfl (by kernel_rfl) (by kernel_rfl) (by rw [Tryz.ntmps11]; simp) ?_
  by_cases h : k < (f.n.length : Nat)
  · simp only [go_sem, ↓reduceIte, encR, encW, dec_true h]
    exact .mk (by simp only [go_sem, ↓reduceIte])
  · simp only [go_sem, ↓reduceIte, encR, encW, dec_false h]
    exact .mk (by simp only [go_sem, ↓reduceIte])

def longRow (l : List Fr) (many words : Int) : Bool := (l.take many.toNat).any (fun f => longR f words) || decide (many < (l.length : Nat))
set_option maxRecDepth 20000 in
theorem c_long11 (l : List Fr) (many words : Int) (hm : 0 ≤ many) (hl : many ≤ 1099511627776) : PCalls Tryz.prog 12 [.sl 3 (l.map encR), .int .i64 many, .int .i64 words] (.bool (longRow l many words)) := by
  unfold longRow
  refine pcalls_of_AW (pa := []) (fn := Tryz.f12) (ts := [6]) follows_mixed Tryz.func12 rfl rfl (by kernel_rfl) (by kernel_rfl) (by rw [Tryz.ntmps12]; simp) ?_
  simp only [go_sem, ↓reduceIte]
  have hk : (l.take many.toNat).length = min many.toNat l.length := by simp
  refine AW_while (fun m st => ∃ i, i + m = l.length ∧ ((l.take many.toNat).drop i).any (fun f => longR f words) = (l.take many.toNat).any (fun f => longR f words) ∧ st.τ 0 = .sl 3 (l.map encR) ∧ st.τ 1 = .int .i64 many ∧ st.τ 2 = .int .i64 words ∧ st.τ 7 = .int .i64 (i : Nat)) l.length ?_ ?_
  · exact ⟨0, by omega, rfl, by simp only [go_sem, ↓reduceIte], by simp only [go_sem, ↓reduceIte], by simp only [go_sem, ↓reduceIte], by simp only [go_sem, ↓reduceIte] <;> rfl⟩
  · rintro m st ⟨i, hi, hs, h0, h1, h2, h7⟩ next
    by_cases hlt : i < l.length
    · have hlt' : ((i : Nat) : Int) < (l.length : Nat) := by omega
      by_cases hmn : (i : Int) < many
      · have hit : i < (l.take many.toNat).length := by omega
        have hc := c_long09 l[i] words
        rw [drop_cons hit, List.any_cons, List.getElem_take] at hs
        simp only [go_sem, ↓reduceIte, h0, h1, h2, h7, hlt', hmn, getD_map_lt _ _ _ _ hlt, encR, encW]
        refine callS_p hc ?_
        cases e : longR l[i] words with
        | true =>
          rw [e, Bool.true_or] at hs
          simp only [go_sem, ↓reduceIte, h0, h1, h2, h7]
          exact .mk (by simp only [go_sem, ↓reduceIte, ← hs])
        | false =>
          rw [e, Bool.false_or] at hs
          simp only [go_sem, ↓reduceIte, h0, h1, h2, h7]
          refine next (m - 1) _ (by omega) ⟨i + 1, by omega, hs, by simp only [go_sem, ↓reduceIte, h0], by simp only [go_sem, ↓reduceIte, h1], by simp only [go_sem, ↓reduceIte, h2], by simp only [go_sem, ↓reduceIte]; rw [wrap64_id (by omega) (by omega)]; rfl⟩
      · rw [List.drop_eq_nil_of_le (by omega), List.any_nil] at hs
        simp only [go_sem, ↓reduceIte, h0, h1, h2, h7, hlt', hmn, ← hs]
        exact .mk (by simp only [go_sem, ↓reduceIte])
    · have hlt' := dec_false (show ¬ ((i : Nat) : Int) < (l.length : Nat) by omega)
      rw [List.drop_eq_nil_of_le (by omega), List.any_nil] at hs
      simp only [go_sem, ↓reduceIte, h0, h1, h2, h7, hlt', ← hs]
      exact .mk (by simp only [go_sem, ↓reduceIte])

def longP (a : Pt) (many words : Int) : Bool := longR a.t words || (longRow a.y many words || longRow a.p many words)
theorem c_long21 (a : Pt) (many words : Int) (hm : 0 ≤ many) (hl : many ≤ 1099511627776) : PCalls Tryz.prog 5 [encPt a, .int .i64 many, .int .i64 words] (.bool (longP a many words)) := by
  unfold longP
  have h1 := c_long09 a.t words
  have h2 := c_long11 a.y many words hm hl
  have h3 := c_long11 a.p many words hm hl
  refine pcalls_of_AW (pa := []) (fn := Tryz.f5) (ts := [6]) follows_mixed Tryz.func5 rfl rfl (by kernel_rfl) (by kernel_rfl) (by rw [Tryz.ntmps5]; simp) ?_
  simp only [go_sem, ↓reduceIte, encPt, encW]
  refine callS_p h1 ?_
  cases e1 : longR a.t words with
  | true =>
    simp only [go_sem, ↓reduceIte]
    exact .mk (by simp only [go_sem, ↓reduceIte])
  | false =>
    simp only [go_sem, ↓reduceIte]
    refine callS_p h2 ?_
    cases e2 : longRow a.y many words with
    | true =>
      simp only [go_sem, ↓reduceIte]
      exact .mk (by simp only [go_sem, ↓reduceIte])
    | false =>
      simp only [go_sem, ↓reduceIte]
      refine callS_p h3 ?_
      simp only [go_sem, ↓reduceIte]
      exact .mk (by simp only [go_sem, ↓reduceIte])

def longT (t : Tp) (many words : Int) : Bool := (t.code.take many.toNat).any (fun i => longR i.n words) || (decide (many < (t.code.length : Nat)) || decide (many < (t.outs.length : Nat)))
set_option maxRecDepth 20000 in
theorem c_long24 (t : Tp) (many words : Int) (hm : 0 ≤ many) (hl : many ≤ 1099511627776) : PCalls Tryz.prog 4 [encT t, .int .i64 many, .int .i64 words] (.bool (longT t many words)) := by
  unfold longT
  refine pcalls_of_AW (pa := []) (fn := Tryz.f4) (ts := [6]) follows_mixed Tryz.func4 rfl rfl (by kernel_rfl) (by kernel_rfl) (by rw [Tryz.ntmps4]; simp) ?_
  simp only [go_sem, ↓reduceIte, encT]
  have hk : (t.code.take many.toNat).length = min many.toNat t.code.length := by simp
  refine AW_while (fun m st => ∃ i, i + m = t.code.length ∧ ((t.code.take many.toNat).drop i).any (fun i => longR i.n words) = (t.code.take many.toNat).any (fun i => longR i.n words) ∧ st.τ 3 = .ptr 0 0 ∧ st.h 0 = some [.sl 6 (t.code.map encI), .sl 1 (t.outs.map i64), .int .i64 t.dim, .int .i64 t.par] ∧ 1 ≤ st.n ∧ st.τ 1 = .int .i64 many ∧ st.τ 2 = .int .i64 words ∧ st.τ 7 = .int .i64 (i : Nat)) t.code.length ?_ ?_
  · exact ⟨0, by omega, rfl, by simp only [go_sem, ↓reduceIte], by simp only [go_sem, ↓reduceIte], by simp only [go_sem, ↓reduceIte] <;> omega, by simp only [go_sem, ↓reduceIte], by simp only [go_sem, ↓reduceIte], by simp only [go_sem, ↓reduceIte] <;> rfl⟩
  · rintro m st ⟨i, hi, hs, h3, hb, hn, h1, h2, h7⟩ next
    have n0 : 0 < st.n := hn
    by_cases hlt : i < t.code.length
    · have hlt' : ((i : Nat) : Int) < (t.code.length : Nat) := by omega
      by_cases hmn : (i : Int) < many
      · have hit : i < (t.code.take many.toNat).length := by omega
        have hc := c_long09 t.code[i].n words
        rw [drop_cons hit, List.any_cons, List.getElem_take] at hs
        simp only [go_sem, ↓reduceIte, h3, hb, h1, h2, h7, hlt', hmn, getD_map_lt _ _ _ _ hlt, encI, encW]
        refine callS_p hc ?_
        cases e : longR t.code[i].n words with
        | true =>
          rw [e, Bool.true_or] at hs
          simp only [go_sem, ↓reduceIte, h3, hb, h1, h2, h7]
          exact .mk (by simp only [go_sem, ↓reduceIte, ← hs])
        | false =>
          rw [e, Bool.false_or] at hs
          simp only [go_sem, ↓reduceIte, h3, hb, h1, h2, h7]
          refine next (m - 1) _ (by omega) ⟨i + 1, by omega, hs, by simp only [go_sem, ↓reduceIte, h3], by simp only [go_sem, ↓reduceIte, hb], by simp only [go_sem, ↓reduceIte] <;> omega, by simp only [go_sem, ↓reduceIte, h1], by simp only [go_sem, ↓reduceIte, h2], by simp only [go_sem, ↓reduceIte]; rw [wrap64_id (by omega) (by omega)]; rfl⟩
      · rw [List.drop_eq_nil_of_le (by omega), List.any_nil] at hs
        by_cases e : many < (t.code.length : Nat)
        · simp only [go_sem, ↓reduceIte, h3, hb, h1, h2, h7, hlt', hmn, ← hs, dec_true e]
          exact .mk (by simp only [go_sem, ↓reduceIte])
        · simp only [go_sem, ↓reduceIte, h3, hb, h1, h2, h7, hlt', hmn, ← hs, dec_false e]
          exact .mk (by simp only [go_sem, ↓reduceIte])
    · have hlt' := dec_false (show ¬ ((i : Nat) : Int) < (t.code.length : Nat) by omega)
      rw [List.drop_eq_nil_of_le (by omega), List.any_nil] at hs
      by_cases e : many < (t.code.length : Nat)
      · simp only [go_sem, ↓reduceIte, h3, hb, h1, h2, h7, hlt', ← hs, dec_true e]
        exact .mk (by simp only [go_sem, ↓reduceIte])
      · simp only [go_sem, ↓reduceIte, h3, hb, h1, h2, h7, hlt', ← hs, dec_false e]
        exact .mk (by simp only [go_sem, ↓reduceIte])
end Go.Proofs.YtdbmdaefmlflaaaGreatDoor

set_option linter.unusedVariables false
set_option linter.unusedSimpArgs false
set_option maxRecDepth 10000
namespace Go.Proofs.YtdbmdaefmlflaaaGreatDoor
open Go Go.Ab Go.Num

theorem c_to09 (f : Fr) : PCalls Tryz.prog 15 [encR f] (encR f) := by
  refine pcalls_of_AWR (pa := []) (fn := Tryz.f15) (rs := [.cell 2 42]) follows_mixed Tryz.func15 rfl rfl (by kernel_rfl) (by kernel_rfl) (by rw [Tryz.ntmps15]; simp) ?_
  simp only [go_sem, ↓reduceIte, encR, encW]
  exact .mk (by simp only [go_sem, ↓reduceIte, encR, encW])

theorem len_r (D : List Fr) : (flatC encR D).length = D.length * 3 := flatC_length elt_r D

set_option maxRecDepth 20000 in
theorem c_to11 (l : List Fr) (hl : l.length ≤ 100000) : PCalls Tryz.prog 16 [.sl 3 (l.map encR)] (.sl 3 (l.map encR)) := by
  refine pcalls_of_AW (pa := []) (fn := Tryz.f16) (ts := [2]) follows_mixed Tryz.func16 rfl rfl (by kernel_rfl) (by kernel_rfl) (by rw [Tryz.ntmps16]; simp) ?_
  simp only [go_sem, ↓reduceIte]
  refine AW_while (fun m st => ∃ i, i + m = l.length ∧ st.τ 0 = .sl 3 (l.map encR) ∧ st.τ 4 = .int .i64 (i : Nat) ∧ Acc 3 encR st (st.τ 3) (l.take i)) l.length ?_ ?_
  · exact ⟨0, by omega, by simp only [go_sem, ↓reduceIte], by simp only [go_sem, ↓reduceIte] <;> rfl, .inl ⟨by simp, by simp only [go_sem, ↓reduceIte]⟩⟩
  · rintro m st ⟨i, hi, h0, h4, hacc⟩ next
    by_cases hlt : i < l.length
    · have hlt' : ((i : Nat) : Int) < (l.length : Nat) := by omega
      have hc := c_to09 l[i]
      simp only [go_sem, ↓reduceIte, h0, h4, hlt', getD_map_lt _ _ _ _ hlt, encR, encW]
      refine callS_p hc ?_
      have hl3 : (flatC encR (l.take i)).length = i * 3 := by rw [len_r]; simp; omega
      have hi38 : i ≤ 274877906944 := by omega
      have htk : (l.take i).length = i := by simp; omega
      have htk1 : (l.take (i + 1)).length = i + 1 := by simp; omega
      rcases hacc with ⟨hnil, h3⟩ | ⟨b, h3, hb, hbn⟩
      · have hi0 : i = 0 := by rw [hnil] at htk; simp at htk; omega
        subst hi0
        simp only [go_sem, ↓reduceIte, h3, h0, h4, hlt', encR, encW]
        refine next (m - 1) _ (by omega) ⟨1, by omega, by simp only [go_sem, ↓reduceIte, h0], by simp only [go_sem, ↓reduceIte] <;> rfl, .inr ⟨_, by rw [htk1]; simp only [go_sem, ↓reduceIte] <;> rfl, by rw [take_snoc hlt, flatC_snoc, hnil]; simp only [go_sem, ↓reduceIte, flatC_nil, encR, encW] <;> rfl, by simp only [go_sem, ↓reduceIte] <;> omega⟩⟩
      · rw [htk] at h3
        simp only [go_sem, ↓reduceIte, h3, h0, h4, hlt', encR, encW, hb, hl3, hi38, upd1_old _ _ _ _ _ hbn, old_ne hbn, new_ne hbn]
        refine next (m - 1) _ (by omega) ⟨i + 1, by omega, by simp only [go_sem, ↓reduceIte, h0], by simp only [go_sem, ↓reduceIte]; rw [wrap64_id (by omega) (by omega)]; rfl, .inr ⟨_, by rw [htk1]; simp only [go_sem, ↓reduceIte] <;> rfl, by rw [take_snoc hlt, flatC_snoc]; simp only [go_sem, ↓reduceIte, List.take_of_length_le (Nat.le_of_eq hl3), encR, encW] <;> rfl, by simp only [go_sem, ↓reduceIte] <;> omega⟩⟩
    · have hlt' := dec_false (show ¬ ((i : Nat) : Int) < (l.length : Nat) by omega)
      rw [List.take_of_length_le (by omega)] at hacc
      simp only [go_sem, ↓reduceIte, h0, h4, hlt']
      refine Acc.ret elt_r ?_
      rcases hacc with ⟨hnil, h3⟩ | ⟨b, h3, hb, hbn⟩
      · exact .inl ⟨hnil, by simp only [go_sem, ↓reduceIte, h3]⟩
      · exact .inr ⟨b, by simp only [go_sem, ↓reduceIte, h3] <;> rfl, by simp only [go_sem, ↓reduceIte, hb] <;> rfl, by simp only [go_sem, ↓reduceIte]; omega⟩

theorem c_to21 (a : Pt) (hy : a.y.length ≤ 100000) (hp : a.p.length ≤ 100000) : PCalls Tryz.prog 8 [encPt a] (encPt a) := by
  have h1 := c_to09 a.t
  have h2 := c_to11 a.y hy
  have h3 := c_to11 a.p hp
  refine pcalls_of_AWR (pa := []) (fn := Tryz.f8) (rs := [.cell 2 45]) follows_mixed Tryz.func8 rfl rfl (by kernel_rfl) (by kernel_rfl) (by rw [Tryz.ntmps8]; simp) ?_
  simp only [go_sem, ↓reduceIte, encPt, encW]
  refine callD_p h1 ?_
  simp only [go_sem, ↓reduceIte, encR, encW]
  refine callD_p h2 ?_
  simp only [go_sem, ↓reduceIte, encR, encW]
  refine callD_p h3 ?_
  simp only [go_sem, ↓reduceIte, encR, encW]
  exact .mk (by simp only [go_sem, ↓reduceIte, encPt, encW] <;> rfl)

theorem cast_lt {i n : Nat} (h : i < n) : ((i : Nat) : Int) < (n : Nat) := by omega
set_option maxRecDepth 20000 in
theorem c_rsame (a b : List Rat) (ha : ∀ q ∈ a, qw q ≤ 20000) (hb : ∀ q ∈ b, qw q ≤ 20000) (hl : a.length ≤ 100000) : PCalls Tryz.prog 10 [.sl 3 (a.map encQ), .sl 3 (b.map encQ)] (.bool (decide (a = b))) := by
  refine pcalls_of_AW (pa := []) (fn := Tryz.f10) (ts := [4]) follows_mixed Tryz.func10 rfl rfl (by kernel_rfl) (by kernel_rfl) (by rw [Tryz.ntmps10]; simp) ?_
  by_cases he : a.length = b.length
  case neg =>
    have he' := dec_false (show ¬ ((a.length : Nat) : Int) = (b.length : Nat) by omega)
    have hf := dec_false (show ¬ a = b from fun h => he (by rw [h]))
    simp only [go_sem, ↓reduceIte, bne_int, he', hf]
    exact .mk (by simp only [go_sem, ↓reduceIte])
  have he' := dec_true (show ((a.length : Nat) : Int) = (b.length : Nat) by omega)
  simp only [go_sem, ↓reduceIte, bne_int, he']
  refine AW_while (fun m st => ∃ i, i + m = a.length ∧ decide (a.drop i = b.drop i) = decide (a = b) ∧ st.τ 0 = .sl 3 (a.map encQ) ∧ st.τ 1 = .sl 3 (b.map encQ) ∧ st.τ 12 = .int .i64 a.length ∧ st.τ 13 = .int .i64 (i : Nat)) a.length ?_ ?_
  · exact ⟨0, by omega, rfl, by simp only [go_sem, ↓reduceIte], by simp only [go_sem, ↓reduceIte], by simp only [go_sem, ↓reduceIte], by simp only [go_sem, ↓reduceIte] <;> rfl⟩
  · rintro m st ⟨i, hi, hs, h0, h1, h12, h13⟩ next
    by_cases hlt : i < a.length
    · have hlt2 : i < b.length := by omega
      have hlt' := cast_lt hlt
      have hlt2' := cast_lt hlt2
      have hc := c_fsame (cq a[i]) (cq b[i]) (okR_cq (ha _ (List.getElem_mem hlt))) (okR_cq (hb _ (List.getElem_mem hlt2)))
      rw [rv_cq, rv_cq] at hc
      rw [drop_cons hlt, drop_cons hlt2] at hs
      simp only [go_sem, ↓reduceIte, h0, h1, h12, h13, hlt', hlt2', getD_map_lt _ _ _ _ hlt, getD_map_lt _ _ _ _ hlt2, encQ, encR, encW]
      refine callD_p hc ?_
      by_cases e : a[i] = b[i]
      · simp only [List.cons.injEq, e, true_and] at hs
        simp only [go_sem, ↓reduceIte, h0, h1, h12, h13, dec_true e]
        refine next (m - 1) _ (by omega) ⟨i + 1, by omega, hs, by simp only [go_sem, ↓reduceIte, h0], by simp only [go_sem, ↓reduceIte, h1], by simp only [go_sem, ↓reduceIte, h12], by simp only [go_sem, ↓reduceIte]; rw [wrap64_id (by omega) (by omega)]; rfl⟩
      · simp only [List.cons.injEq, e, false_and, decide_false] at hs
        simp only [go_sem, ↓reduceIte, h0, h1, h12, h13, dec_false e]
        exact .mk (by simp only [go_sem, ↓reduceIte, ← hs])
    · have hlt' := dec_false (show ¬ ((i : Nat) : Int) < (a.length : Nat) by omega)
      rw [List.drop_eq_nil_of_le (by omega), List.drop_eq_nil_of_le (by omega)] at hs
      simp only [go_sem, ↓reduceIte, h0, h1, h12, h13, hlt', ← hs]
      exact .mk (by simp only [go_sem, ↓reduceIte])
end Go.Proofs.YtdbmdaefmlflaaaGreatDoor

set_option linter.unusedVariables false
set_option linter.unusedSimpArgs false
set_option maxRecDepth 10000
namespace Go.Proofs.YtdbmdaefmlflaaaGreatDoor
open Go Go.Ab Go.Num

theorem elt_i : Elt 6 encI := ⟨by omega, fun q => ⟨_, rfl, rfl, rfl, rfl⟩⟩
theorem len_i (D : List Ins) : (flatC encI D).length = D.length * 6 := flatC_length elt_i D
theorem flat_i64 (l : List Int) : (l.map i64).flatMap cellsD = l.map i64 := by
  induction l with
  | nil => rfl
  | cons x l ih => rw [List.map_cons, List.flatMap_cons, ih]; rfl

theorem elt_i64 : Elt 1 i64 := ⟨by omega, fun q => ⟨_, rfl, rfl, rfl, rfl⟩⟩
theorem flatC_i64 (l : List Int) : flatC i64 l = l.map i64 := by
  induction l with
  | nil => rfl
  | cons x l ih => simp only [flatC, List.flatMap_cons, List.map_cons] at ih ⊢; rw [ih]; rfl
theorem frz1_i64 {h : Heap} {b : Nat} {l : List Int} (hb : h b = some (l.map i64)) : frz1 h (.own b 0 l.length 1) = .sl 1 (l.map i64) := frz1_flatC elt_i64 (by rw [flatC_i64]; exact hb)

set_option maxRecDepth 20000 in
set_option maxHeartbeats 1000000 in
theorem c_to24 (t : Tp) (hl : t.code.length ≤ 100000) (ho : t.outs.length ≤ 100000) : PCalls Tryz.prog 7 [encT t] (encT t) := by
  have ho38 : t.outs.length ≤ 274877906944 := by omega
  refine pcalls_of_AWR (pa := []) (fn := Tryz.f7) (rs := [.cell 2 37]) follows_mixed Tryz.func7 rfl rfl (by kernel_rfl) (by kernel_rfl) (by rw [Tryz.ntmps7]; simp) ?_
  simp only [go_sem, ↓reduceIte, encT, flat_i64, ho38]
  refine AW_while (fun m st => ∃ i v, i + m = t.code.length ∧ st.τ 1 = .ptr 0 0 ∧ st.τ 2 = .ptr 1 0 ∧ st.τ 3 = .ptr 11 0 ∧ st.τ 4 = .int .i64 (i : Nat) ∧ st.h 0 = some [.sl 6 (t.code.map encI), .sl 1 (t.outs.map i64), .int .i64 t.dim, .int .i64 t.par] ∧ st.h 1 = some [.nilsl, .nilsl, .int .i64 0, .int .i64 0] ∧ st.h 9 = some (t.outs.map i64) ∧ st.h 11 = some [v, .own 9 0 t.outs.length 1, .int .i64 t.dim, .int .i64 t.par] ∧ 14 ≤ st.n ∧ (∀ b o l e, v = .own b o l e → 14 ≤ b) ∧ Acc 6 encI st v (t.code.take i)) t.code.length ?_ ?_
  · exact ⟨0, .nilsl, by omega, by simp only [go_sem, ↓reduceIte], by simp only [go_sem, ↓reduceIte], by simp only [go_sem, ↓reduceIte], by simp only [go_sem, ↓reduceIte] <;> rfl, by simp only [go_sem, ↓reduceIte], by simp only [go_sem, ↓reduceIte], by simp only [go_sem, ↓reduceIte], by simp only [go_sem, ↓reduceIte], by simp only [go_sem, ↓reduceIte] <;> omega, (fun _ _ _ _ h => by cases h), .inl ⟨by simp, rfl⟩⟩
  · rintro m st ⟨i, v, hi, h1, h2, h3, h4, hb0, hb1, hb9, hb11, hn, hv3, hacc⟩ next
    by_cases hlt : i < t.code.length
    · have hlt' : ((i : Nat) : Int) < (t.code.length : Nat) := by omega
      have hc := c_to09 t.code[i].n
      have n0 : 0 < st.n := by omega
      have n1 : 1 < st.n := by omega
      have n9 : 9 < st.n := by omega
      have n11 : 11 < st.n := by omega
      simp only [go_sem, ↓reduceIte, h1, h2, h3, h4, hb0, hb11, hlt', getD_map_lt _ _ _ _ hlt, encI, encR, encW, upd1_old _ _ _ _ _ n11]
      refine callD_p hc ?_
      have hl6 : (flatC encI (t.code.take i)).length = i * 6 := by rw [len_i]; simp; omega
      have hi38 : i ≤ 274877906944 := by omega
      have htk : (t.code.take i).length = i := by simp; omega
      have htk1 : (t.code.take (i + 1)).length = i + 1 := by simp; omega
      rcases hacc with ⟨hnil, rfl⟩ | ⟨b, rfl, hb, hbn⟩
      · have hi0 : i = 0 := by rw [hnil] at htk; simp at htk; omega
        subst hi0
        simp only [go_sem, ↓reduceIte, h1, h2, h3, h4, hb0, hb1, hb9, hb11, encI, encR, encW, upd1_old _ _ _ _ _ n0, upd1_old _ _ _ _ _ n1, upd1_old _ _ _ _ _ n9, upd1_old _ _ _ _ _ n11, old_ne n11, new_ne n11]
        refine next (m - 1) _ (by omega) ⟨1, .own (st.n + 25) 0 1 6, by omega, by simp only [go_sem, ↓reduceIte, h1], by simp only [go_sem, ↓reduceIte, h2], by simp only [go_sem, ↓reduceIte, h3], by simp only [go_sem, ↓reduceIte] <;> rfl, by simp only [go_sem, ↓reduceIte, upd1_old _ _ _ _ _ n0, hb0], by simp only [go_sem, ↓reduceIte, upd1_old _ _ _ _ _ n1, hb1], by simp only [go_sem, ↓reduceIte, upd1_old _ _ _ _ _ n9, hb9], by simp only [go_sem, ↓reduceIte], by simp only [go_sem, ↓reduceIte] <;> omega, (fun _ _ _ _ h => by cases h; omega), .inr ⟨_, by rw [htk1], by rw [take_snoc hlt, flatC_snoc, hnil]; simp only [go_sem, ↓reduceIte, new_ne n11, flatC_nil, encI, encW] <;> rfl, by simp only [go_sem, ↓reduceIte] <;> omega⟩⟩
      · have h3b := hv3 _ _ _ _ rfl
        have e0 : b ≠ 0 := by omega
        have e1 : b ≠ 1 := by omega
        have e9 : b ≠ 9 := by omega
        have e11 : b ≠ 11 := by omega
        simp only [go_sem, ↓reduceIte, h1, h2, h3, h4, hb0, hb1, hb9, hb11, htk, encI, encR, encW, upd1_old _ _ _ _ _ n0, upd1_old _ _ _ _ _ n1, upd1_old _ _ _ _ _ n9, upd1_old _ _ _ _ _ n11, old_ne n11, new_ne n11, upd1_old _ _ _ _ _ hbn, hb, hl6, hi38, old_ne hbn, new_ne hbn, e0, e1, e9, e11, e0.symm, e1.symm, e9.symm, e11.symm]
        refine next (m - 1) _ (by omega) ⟨i + 1, .own (st.n + 25) 0 (i + 1) 6, by omega, by simp only [go_sem, ↓reduceIte, h1], by simp only [go_sem, ↓reduceIte, h2], by simp only [go_sem, ↓reduceIte, h3], by simp only [go_sem, ↓reduceIte]; rw [wrap64_id (by omega) (by omega)]; rfl, by simp only [go_sem, ↓reduceIte, upd1_old _ _ _ _ _ n0, hb0, e0.symm], by simp only [go_sem, ↓reduceIte, upd1_old _ _ _ _ _ n1, hb1, e1.symm], by simp only [go_sem, ↓reduceIte, upd1_old _ _ _ _ _ n9, hb9, e9.symm], by simp only [go_sem, ↓reduceIte], by simp only [go_sem, ↓reduceIte] <;> omega, (fun _ _ _ _ h => by cases h; omega), .inr ⟨_, by rw [htk1], by rw [take_snoc hlt, flatC_snoc]; simp only [go_sem, ↓reduceIte, new_ne n11, List.take_of_length_le (Nat.le_of_eq hl6), encI, encW] <;> rfl, by simp only [go_sem, ↓reduceIte] <;> omega⟩⟩
    · have hlt' := dec_false (show ¬ ((i : Nat) : Int) < (t.code.length : Nat) by omega)
      rw [List.take_of_length_le (by omega)] at hacc
      have key : ∀ H : Heap, (∀ b, b ≠ 1 → H b = st.h b) → (AV.agg [frz1 H v, frz1 H (.own 9 0 t.outs.length 1), .int .i64 t.dim, .int .i64 t.par]).le (.agg [.sl 6 (t.code.map encI), .sl 1 (t.outs.map i64), .int .i64 t.dim, .int .i64 t.par]) := fun H hH => by
        refine AV.le_agg' (.cons ?_ (.cons (AV.le_of_eq (frz1_i64 (by rw [hH 9 (by omega)]; exact hb9))) (.cons (AV.le_refl _) (.cons (AV.le_refl _) .nil))))
        have : Acc 6 encI { st with h := H } v t.code := hacc.keep (Nat.le_refl _) fun b _ _ _ hb _ => hH b (by have := hv3 _ _ _ _ hb; omega)
        exact this.frz elt_i
      have key2 := key (upd1 st.h 1 (some [v, .own 9 0 t.outs.length 1, .int .i64 t.dim, .int .i64 t.par])) (fun b hb => upd1_nei hb)
      rcases hacc with ⟨hnil, rfl⟩ | ⟨b, rfl, hb, hbn⟩
      · simp only [go_sem, ↓reduceIte, h1, h2, h3, h4, hb0, hb1, hb11, hlt']
        refine .mk_le ?_ key2
        simp only [go_sem, ↓reduceIte, resR, resAll, resA, h2]
      · simp only [go_sem, ↓reduceIte, h1, h2, h3, h4, hb0, hb1, hb11, hlt']
        refine .mk_le ?_ key2
        simp only [go_sem, ↓reduceIte, resR, resAll, resA, h2]
end Go.Proofs.YtdbmdaefmlflaaaGreatDoor

set_option linter.unusedVariables false
set_option linter.unusedSimpArgs false
set_option maxRecDepth 10000
namespace Go.Proofs.YtdbmdaefmlflaaaGreatDoor
open Go Go.Ab

theorem upd1_oldz (h : Heap) (n j : Nat) (b : Option Blk) (hj : j < n) : upd1 h n b j = h j := by simp only [upd1]; rw [if_neg (by omega)]
theorem upd1_other {H : Heap} {i b : Nat} {x : Option Blk} (h : b ≠ i) : upd1 H i x b = H b := by simp only [upd1]; rw [if_neg h]

/-- What a builder holds. 'c': its bytes' block, if there is one. -/
inductive Bld (H : Heap) (n b : Nat) : ByteArray → Option Nat → Prop
  | nil (a : AV) : (a = .nilp ∨ a = .tptr b 2 100) → H b = some [a, .nilsl] → b < n → Bld H n b ⟨#[]⟩ none
  | row (a : AV) (s : ByteArray) (c : Nat) : (a = .nilp ∨ a = .tptr b 2 100) → H b = some [a, .bsl c s.size 5] → b < n → c ≠ b → c < n → H c = some (strCells s) → Bld H n b s (some c)

theorem Bld.keep {H H' : Heap} {n n' b : Nat} {s : ByteArray} {c : Option Nat} (h : Bld H n b s c) (hn : n ≤ n') (hb : H' b = H b) (hc : ∀ k, c = some k → H' k = H k) : Bld H' n' b s c := by
  cases h with
  | nil a ha h1 h2 => exact .nil a ha (by rw [hb]; exact h1) (by omega)
  | row a s c ha h1 h2 h4 h5 h6 => exact .row a s c ha (by rw [hb]; exact h1) (by omega) h4 (by omega) (by rw [hc c rfl]; exact h6)

theorem c_copyCheck (b : Nat) (a y : AV) (h : Heap) (n : Nat) (ha : a = .nilp ∨ a = .tptr b 2 100) (hb : h b = some [a, y]) (hbn : b < n) :
    HCalls Tryz.prog 49 [.tptr b 2 100] h n (fun v h' n' => v = .tup [] ∧ h' b = some [.tptr b 2 100, y] ∧ ∀ j, j ≠ b → h' j = h j) := by
  refine hcalls_of_AWR (pa := []) (fn := Tryz.f49) (rs := []) follows_mixed Tryz.func49 rfl rfl (by kernel_rfl) (by kernel_rfl) (by rw [Tryz.ntmps49]; simp) ?_
  rcases ha with rfl | rfl
  · simp only [go_sem, ↓reduceIte, hb]
    refine .mk (.tup []) (by simp only [go_sem, ↓reduceIte, resR, resAll, resA]) ⟨rfl, by simp only [go_sem, ↓reduceIte], fun j hj => by simp only [go_sem, ↓reduceIte]; rw [upd1_other hj]⟩
  · simp only [go_sem, ↓reduceIte, hb]
    refine .mk (.tup []) (by simp only [go_sem, ↓reduceIte, resR, resAll, resA]) ⟨rfl, by simp only [go_sem, ↓reduceIte, hb], fun j hj => by simp only [go_sem, ↓reduceIte]⟩

theorem strCells_append (s t : ByteArray) : strCells (s ++ t) = strCells s ++ strCells t := by simp [strCells, ByteArray.data_append]
theorem strCells_len (s : ByteArray) : (strCells s).length = s.size := by simp [strCells]
theorem take_strCells (s : ByteArray) : (strCells s).take s.size = strCells s := List.take_of_length_le (by rw [strCells_len]; exact Nat.le_refl _)
theorem bytesOf_str : ∀ l : List UInt8, bytesOf (l.map fun b => .int .u8 (b.toNat : Int)) = some l
  | [] => rfl
  | b :: l => by
    have h : UInt8.ofNat ((b.toNat : Int).toNat) = b := by simp
    simp only [List.map_cons, bytesOf, h, bytesOf_str l, if_true, Option.map_some]
theorem bytesOf_cells (s : ByteArray) : bytesOf (strCells s) = some s.data.toList := bytesOf_str _
theorem textOf_data (s : ByteArray) : textOf s.data.toList = s := by unfold textOf; simp

/-- What lay in the builder's blocks is changed, and nothing else. -/
def OnlyB (h h' : Heap) (n b : Nat) (c : Option Nat) : Prop := ∀ j, j < n → j ≠ b → some j ≠ c → h' j = h j


theorem size_zero {t : ByteArray} (h : t.size = 0) : t = ⟨#[]⟩ := by
  apply ByteArray.ext
  exact Array.eq_empty_of_size_eq_zero h
theorem c_wstr (b : Nat) (s t : ByteArray) (c : Option Nat) (h : Heap) (n : Nat) (hB : Bld h n b s c) (hs : s.size ≤ 274877906944) (ht : t.size ≤ 274877906944) :
    HCalls Tryz.prog 36 [.tptr b 2 100, .str t] h n (fun v h' n' => v = .tup [.int .i64 t.size, .undef] ∧ (∃ c', Bld h' n' b (s ++ t) c' ∧ (c' = c ∨ ∃ k, c' = some k ∧ n ≤ k)) ∧ OnlyB h h' n b c) := by
  have hap : ∀ u : ByteArray, (⟨#[]⟩ : ByteArray) ++ u = u := fun u => by apply ByteArray.ext; simp
  have hpa : ∀ u : ByteArray, u ++ (⟨#[]⟩ : ByteArray) = u := fun u => by apply ByteArray.ext; simp
  refine hcalls_of_AWR (pa := []) (fn := Tryz.f36) (rs := [.tmp 4, .tmp 5]) follows_mixed Tryz.func36 rfl rfl (by kernel_rfl) (by kernel_rfl) (by rw [Tryz.ntmps36]; simp) ?_
  cases hB with
  | nil a ha hb hbn =>
    simp only [go_sem, ↓reduceIte]
    refine callS_h (c_copyCheck b a .nilsl _ _ ha (by simp only [go_sem, ↓reduceIte, hb]) (by simp only [go_sem, ↓reduceIte] <;> omega)) ?_
    rintro v h' n' hn ⟨rfl, hb', hk⟩
    simp only [go_sem, ↓reduceIte] at hn hk
    have hbn' : b < n' := by omega
    by_cases h0 : t.size = 0
    · have := size_zero h0
      subst this
      simp only [go_sem, ↓reduceIte, hb', ht, h0]
      refine .mk (.tup [.int .i64 0, .undef]) (by simp only [go_sem, ↓reduceIte, resR, resAll, resA] <;> rfl) ⟨rfl, ?_, ?_⟩
      · exact ⟨none, by rw [hap]; exact .nil _ (.inr rfl) (by simp only [go_sem, ↓reduceIte]) (by simp only [go_sem, ↓reduceIte] <;> omega), .inl rfl⟩
      · intro j hj hjb hjc
        simp only [go_sem, ↓reduceIte]
        rw [upd1_other hjb, hk j hjb]
    · simp only [go_sem, ↓reduceIte, hb', ht, h0, old_ne hbn', new_ne hbn', upd1_old _ _ _ _ _ hbn']
      refine .mk (.tup [.int .i64 t.size, .undef]) (by simp only [go_sem, ↓reduceIte, resR, resAll, resA]) ⟨rfl, ?_, ?_⟩
      · refine ⟨some (n' + 6), ?_, .inr ⟨n' + 6, rfl, by omega⟩⟩
        rw [hap]
        exact .row _ t (n' + 6) (.inr rfl) (by simp only [go_sem, ↓reduceIte]) (by simp only [go_sem, ↓reduceIte] <;> omega) (by omega) (by simp only [go_sem, ↓reduceIte] <;> omega) (by simp only [go_sem, ↓reduceIte, new_ne hbn'])
      · intro j hj hjb hjc
        simp only [go_sem, ↓reduceIte]
        rw [upd1_other hjb, upd1_old _ _ _ _ _ (show j < n' by omega), hk j hjb]
  | row a s c ha hb hbn hcb hcn hc =>
    simp only [go_sem, ↓reduceIte]
    refine callS_h (c_copyCheck b a (.bsl c s.size 5) _ _ ha (by simp only [go_sem, ↓reduceIte, hb]) (by simp only [go_sem, ↓reduceIte] <;> omega)) ?_
    rintro v h' n' hn ⟨rfl, hb', hk⟩
    simp only [go_sem, ↓reduceIte] at hn hk
    have hbn' : b < n' := by omega
    have hcn' : c < n' := by omega
    have hc' : h' c = some (strCells s) := by rw [hk c hcb, hc]
    have hls := strCells_len s
    have hbc : ¬ b = c := fun e => hcb e.symm
    simp only [go_sem, ↓reduceIte, hb', ht, hs, hc', hls, take_strCells, hcb, hbc, old_ne hbn', new_ne hbn', upd1_old _ _ _ _ _ hbn', old_ne hcn', new_ne hcn', upd1_old _ _ _ _ _ hcn']
    refine .mk (.tup [.int .i64 t.size, .undef]) (by simp only [go_sem, ↓reduceIte, resR, resAll, resA]) ⟨rfl, ?_, ?_⟩
    · have hsz : (s ++ t).size = s.size + t.size := ByteArray.size_append
      refine ⟨some (n' + 6), .row _ (s ++ t) (n' + 6) (.inr rfl) ?_ (by simp only [go_sem, ↓reduceIte] <;> omega) (by omega) (by simp only [go_sem, ↓reduceIte] <;> omega) ?_, .inr ⟨n' + 6, rfl, by omega⟩⟩
      · rw [hsz]; simp only [go_sem, ↓reduceIte]
      · simp only [go_sem, ↓reduceIte, new_ne hbn', strCells_append]
    · intro j hj hjb hjc
      have hjc' : j ≠ c := fun e => hjc (by rw [e])
      simp only [go_sem, ↓reduceIte]
      rw [upd1_other hjb, upd1_old _ _ _ _ _ (show j < n' by omega), upd1_other hjc', hk j hjb]

theorem c_bstr (b : Nat) (s : ByteArray) (c : Option Nat) (h : Heap) (n : Nat) (hB : Bld h n b s c) (hs : s.size ≤ 274877906944) :
    HCalls Tryz.prog 37 [.tptr b 2 100] h n (fun v h' n' => v = .str s ∧ OnlyB h h' n b c) := by
  refine hcalls_of_AWR (pa := []) (fn := Tryz.f37) (rs := [.tmp 2]) follows_mixed Tryz.func37 rfl rfl (by kernel_rfl) (by kernel_rfl) (by rw [Tryz.ntmps37]; simp) ?_
  cases hB with
  | nil a ha hb hbn =>
    simp only [go_sem, ↓reduceIte, hb]
    refine .mk (.str ⟨#[]⟩) (by simp only [go_sem, ↓reduceIte, resR, resAll, resA]) ⟨rfl, fun j hj hjb hjc => by simp only [go_sem, ↓reduceIte]⟩
  | row a s c ha hb hbn hcb hcn hc =>
    have hls := strCells_len s
    have hbc : ¬ b = c := fun e => hcb e.symm
    by_cases h0 : s.size = 0
    · have := size_zero h0
      subst this
      simp only [go_sem, ↓reduceIte, hb, hc, h0, cast0]
      refine .mk (.str ⟨#[]⟩) (by simp only [go_sem, ↓reduceIte, resR, resAll, resA]) ⟨rfl, fun j hj hjb hjc => by simp only [go_sem, ↓reduceIte]⟩
    have hs40 : ((s.size : Nat) : Int) ≤ 1099511627776 := by omega
    have h0' : (0 : Int) < (s.size : Nat) := by omega
    have h0'' : ¬ ((s.size : Nat) : Int) = 0 := by omega
    simp only [go_sem, ↓reduceIte, hb, hc, hls, hcb, hbc, hs40, h0', h0'', take_strCells, bytesOf_cells, textOf_data]
    refine .mk (.str s) (by simp only [go_sem, ↓reduceIte, resR, resAll, resA]) ⟨rfl, fun j hj hjb hjc => by simp only [go_sem, ↓reduceIte]; exact upd1_other (fun e => hjc (by rw [e]))⟩

theorem c_bgrow0 (b : Nat) (k : Int) (h : Heap) (n : Nat) (hb : h b = some [.tptr b 2 100, .nilsl]) (hbn : b < n) (hk0 : 0 < k) (hk : k ≤ 274877906944) :
    HCalls Tryz.prog 50 [.tptr b 2 100, .int .i64 k] h n (fun v h' n' => v = .tup [] ∧ (∃ c, Bld h' n' b ⟨#[]⟩ (some c) ∧ n ≤ c) ∧ OnlyB h h' n b none) := by
  have w1 : IntKind.i64.wrap (2 * 0) = 0 := by decide
  have w2 : IntKind.i64.wrap (0 + k) = k := by rw [wrap64_id (by omega) (by omega)]; omega
  have hk40 : k ≤ 1099511627776 := by omega
  refine hcalls_of_AWR (pa := []) (fn := Tryz.f50) (rs := []) follows_mixed Tryz.func50 rfl rfl (by kernel_rfl) (by kernel_rfl) (by rw [Tryz.ntmps50]; simp) ?_
  simp only [go_sem, ↓reduceIte, hb, w1, w2, hk0, hk40, cast0, old_ne hbn, new_ne hbn, upd1_old _ _ _ _ _ hbn, upd1_oldz _ _ _ _ hbn]
  refine .mk (.tup []) (by simp only [go_sem, ↓reduceIte, resR, resAll, resA]) ⟨rfl, ⟨n + 8, ?_, by omega⟩, ?_⟩
  · exact .row _ ⟨#[]⟩ (n + 8) (.inr rfl) (by simp only [go_sem, ↓reduceIte] <;> rfl) (by simp only [go_sem, ↓reduceIte] <;> omega) (by omega) (by simp only [go_sem, ↓reduceIte] <;> omega) (by simp only [go_sem, ↓reduceIte, new_ne hbn] <;> rfl)
  · intro j hj hjb hjc
    simp only [go_sem, ↓reduceIte]
    rw [upd1_other hjb, upd1_old _ _ _ _ _ hj]

theorem c_bgrow (b : Nat) (k : Int) (h : Heap) (n : Nat) (a : AV) (ha : a = .nilp ∨ a = .tptr b 2 100) (hb : h b = some [a, .nilsl]) (hbn : b < n) (hk0 : 0 ≤ k) (hk : k ≤ 274877906944) :
    HCalls Tryz.prog 35 [.tptr b 2 100, .int .i64 k] h n (fun v h' n' => v = .tup [] ∧ (∃ c, Bld h' n' b ⟨#[]⟩ c ∧ (c = none ∨ ∃ k, c = some k ∧ n ≤ k)) ∧ OnlyB h h' n b none) := by
  have w1 : IntKind.i64.wrap (0 - 0) = 0 := by decide
  have hneg := dec_false (show ¬ k < 0 by omega)
  refine hcalls_of_AWR (pa := []) (fn := Tryz.f35) (rs := []) follows_mixed Tryz.func35 rfl rfl (by kernel_rfl) (by kernel_rfl) (by rw [Tryz.ntmps35]; simp) ?_
  simp only [go_sem, ↓reduceIte]
  refine callS_h (c_copyCheck b a .nilsl _ _ ha (by simp only [go_sem, ↓reduceIte, hb]) (by simp only [go_sem, ↓reduceIte] <;> omega)) ?_
  rintro v h' n' hn ⟨rfl, hb', hk'⟩
  simp only [go_sem, ↓reduceIte] at hn hk'
  by_cases h0 : 0 < k
  · simp only [go_sem, ↓reduceIte, hneg, hb', w1, cast0, dec_true h0]
    refine callS_h (c_bgrow0 b k _ _ (by simp only [go_sem, ↓reduceIte, hb']) (by simp only [go_sem, ↓reduceIte] <;> omega) h0 hk) ?_
    rintro v h2 n2 hn2 ⟨rfl, ⟨c, hB, hc⟩, hk2⟩
    simp only [go_sem, ↓reduceIte] at hn2 hk2 hc
    simp only [go_sem, ↓reduceIte]
    refine .mk (.tup []) (by simp only [go_sem, ↓reduceIte, resR, resAll, resA]) ⟨rfl, ⟨some c, hB.keep (by simp only [go_sem, ↓reduceIte] <;> omega) (by simp only [go_sem, ↓reduceIte]) (fun k _ => by simp only [go_sem, ↓reduceIte]), .inr ⟨c, rfl, by omega⟩⟩, fun j hj hjb hjc => ?_⟩
    simp only [go_sem, ↓reduceIte]
    rw [hk2 j (by omega) hjb (by simp), hk' j hjb]
  · simp only [go_sem, ↓reduceIte, hneg, hb', w1, cast0, dec_false h0]
    refine .mk (.tup []) (by simp only [go_sem, ↓reduceIte, resR, resAll, resA]) ⟨rfl, ⟨none, .nil _ (.inr rfl) (by simp only [go_sem, ↓reduceIte, hb']) (by simp only [go_sem, ↓reduceIte] <;> omega), .inl rfl⟩, fun j hj hjb hjc => ?_⟩
    simp only [go_sem, ↓reduceIte]
    rw [hk' j hjb]
end Go.Proofs.YtdbmdaefmlflaaaGreatDoor

set_option linter.unusedVariables false
set_option linter.unusedSimpArgs false
set_option maxRecDepth 10000
namespace Go.Num
open Go.Ab

def dig8 (d : Nat) : UInt8 := UInt8.ofNat (48 + d % 10)
/-- So many digits of a number, the last ones. -/
def decN : Nat → Nat → List UInt8
  | 0, _ => []
  | k + 1, r => decN k (r / 10) ++ [dig8 r]
/-- A number's digits. -/
def decS (n : Nat) : List UInt8 := if h : n < 10 then [dig8 n] else decS (n / 10) ++ [dig8 n]
termination_by n
decreasing_by omega

theorem decN_length (k r : Nat) : (decN k r).length = k := by
  induction k generalizing r with
  | zero => rfl
  | succ k ih => simp [decN, ih]
theorem decN_add (a b r : Nat) : decN (a + b) r = decN a (r / 10 ^ b) ++ decN b r := by
  induction b generalizing r with
  | zero => simp [decN]
  | succ b ih =>
    rw [← Nat.add_assoc, decN, decN, ih, Nat.div_div_eq_div_mul, ← List.append_assoc, Nat.pow_succ, Nat.mul_comm 10]
theorem decN_mod (k r : Nat) : decN k (r % 10 ^ k) = decN k r := by
  induction k generalizing r with
  | zero => rfl
  | succ k ih =>
    rw [decN, decN, ← ih (r / 10), ← ih (r % 10 ^ (k + 1) / 10)]
    have h1 : r % 10 ^ (k + 1) / 10 % 10 ^ k = r / 10 % 10 ^ k := by
      rw [Nat.pow_succ, Nat.mul_comm, Nat.mod_mul_right_div_self, Nat.mod_mod]
    have h2 : dig8 (r % 10 ^ (k + 1)) = dig8 r := by
      unfold dig8
      rw [Nat.pow_succ, Nat.mul_comm, Nat.mod_mul_right_mod]
    rw [h1, h2]
theorem dig8_zero {d : Nat} : dig8 d = 48 ↔ d % 10 = 0 := by
  unfold dig8
  have h : d % 10 < 10 := Nat.mod_lt _ (by omega)
  generalize d % 10 = x at *
  constructor
  · intro he
    have := congrArg UInt8.toNat he
    rw [UInt8.toNat_ofNat_of_lt' (show 48 + x < UInt8.size from by have : UInt8.size = 256 := rfl; omega)] at this
    have h48 : (48 : UInt8).toNat = 48 := rfl
    omega
  · intro h0; subst h0; rfl
def trimZ (l : List UInt8) : List UInt8 := l.dropWhile (· == 48)
theorem decN_zero (k : Nat) : ∀ x ∈ decN k 0, x = 48 := by
  induction k with
  | zero => intro x hx; cases hx
  | succ k ih =>
    intro x hx
    rw [decN, Nat.zero_div, List.mem_append] at hx
    rcases hx with hx | hx
    · exact ih x hx
    · simp at hx; subst hx; exact dig8_zero.2 rfl
theorem trimZ_zeros {l r : List UInt8} (h : ∀ x ∈ l, x = 48) : trimZ (l ++ r) = trimZ r := by
  induction l with
  | nil => rfl
  | cons x l ih =>
    have hx := h x (List.mem_cons_self ..)
    subst hx
    show trimZ (48 :: (l ++ r)) = _
    rw [show trimZ (48 :: (l ++ r)) = trimZ (l ++ r) by simp [trimZ, List.dropWhile_cons]]
    exact ih fun y hy => h y (List.mem_cons_of_mem _ hy)
theorem decS_ne (n : Nat) : decS n ≠ [] := by
  rw [decS]; split <;> simp
theorem trim_dec : ∀ (k n : Nat), n ≠ 0 → n < 10 ^ k → trimZ (decN k n) = decS n
  | 0, n, h0, h => by simp at h; omega
  | k + 1, n, h0, h => by
    rw [decN]
    by_cases hn : n < 10
    · have hd : n / 10 = 0 := by omega
      rw [hd, trimZ_zeros (decN_zero k), decS, dif_pos hn]
      have : dig8 n ≠ 48 := fun e => by have := dig8_zero.1 e; omega
      simp [trimZ, this]
    · have ih := trim_dec k (n / 10) (by omega) (by rw [Nat.pow_succ] at h; omega)
      rw [decS, dif_neg hn, ← ih]
      have hne : trimZ (decN k (n / 10)) ≠ [] := by rw [ih]; exact decS_ne _
      have key : ∀ l r : List UInt8, trimZ l ≠ [] → trimZ (l ++ r) = trimZ l ++ r := fun l r hl => by
        induction l with
        | nil => exact absurd rfl hl
        | cons x l ih =>
          by_cases hx : x = 48
          · subst hx
            have e : ∀ m : List UInt8, trimZ (48 :: m) = trimZ m := fun m => by simp [trimZ, List.dropWhile_cons]
            rw [e] at hl
            rw [List.cons_append, e, e, ih hl]
          · simp [trimZ, List.dropWhile_cons, hx]
      exact key _ _ hne

/-- Groups of nine digits, the last first. -/
def grp (n : Nat) : List Nat := if h : n = 0 then [] else (n % 1000000000) :: grp (n / 1000000000)
termination_by n
decreasing_by omega
theorem grp_zero : grp 0 = [] := by rw [grp]; rfl
theorem grp_pos {n : Nat} (h : n ≠ 0) : grp n = (n % 1000000000) :: grp (n / 1000000000) := by rw [grp, dif_neg h]
theorem grp_text (n : Nat) : (grp n).reverse.flatMap (decN 9) = decN (9 * (grp n).length) n ∧ n < 10 ^ (9 * (grp n).length) := by
  induction n using Nat.strongRecOn with
  | _ n ih =>
    by_cases h : n = 0
    · subst h; rw [grp_zero]; exact ⟨rfl, by decide⟩
    · obtain ⟨h1, h2⟩ := ih (n / 1000000000) (by omega)
      rw [grp_pos h]
      have e9 : (10 : Nat) ^ 9 = 1000000000 := rfl
      simp only [List.reverse_cons, List.flatMap_append, List.flatMap_cons, List.flatMap_nil, List.append_nil, List.length_cons, h1, Nat.mul_succ]
      refine ⟨?_, ?_⟩
      · rw [decN_add, e9, ← decN_mod 9 n, e9]
      · rw [Nat.pow_add, e9]
        have := Nat.div_add_mod n 1000000000
        have := Nat.mod_lt n (show 0 < 1000000000 by omega)
        have : n / 1000000000 + 1 ≤ 10 ^ (9 * (grp (n / 1000000000)).length) := h2
        calc n < (n / 1000000000 + 1) * 1000000000 := by omega
          _ ≤ 10 ^ (9 * (grp (n / 1000000000)).length) * 1000000000 := Nat.mul_le_mul_right _ this
theorem grp_trim {n : Nat} (h : n ≠ 0) : trimZ ((grp n).reverse.flatMap (decN 9)) = decS n := by
  obtain ⟨h1, h2⟩ := grp_text n
  rw [h1]; exact trim_dec _ _ h h2
end Go.Num

set_option linter.unusedVariables false
set_option linter.unusedSimpArgs false
set_option maxRecDepth 10000
namespace Go.Proofs.YtdbmdaefmlflaaaGreatDoor
open Go Go.Ab Go.Num

def u8c (l : List UInt8) : List AV := l.map fun b => .int .u8 (b.toNat : Int)
theorem u8c_length (l : List UInt8) : (u8c l).length = l.length := by simp [u8c]
theorem bytesOf_u8c (l : List UInt8) : bytesOf (u8c l) = some l := bytesOf_str l

theorem lay_nine (i : Nat) (x : AV) (S : List AV) : (List.replicate (i + 1) (AV.int .u8 0) ++ S).take i ++ (x :: (List.replicate (i + 1) (AV.int .u8 0) ++ S).drop (i + 1)) = List.replicate i (AV.int .u8 0) ++ (x :: S) := by
  have h1 : (List.replicate (i + 1) (AV.int .u8 0) ++ S).take i = List.replicate i (AV.int .u8 0) := by
    rw [List.take_append_of_le_length (by simp), List.take_replicate]; congr 1; omega
  have h2 : (List.replicate (i + 1) (AV.int .u8 0) ++ S).drop (i + 1) = S := by
    have := List.drop_left (l₁ := List.replicate (i + 1) (AV.int .u8 0)) (l₂ := S)
    rwa [List.length_replicate] at this
  rw [h1, h2]
theorem decN_cons (k r : Nat) : decN (k + 1) r = dig8 (r / 10 ^ k) :: decN k r := by
  rw [Nat.add_comm, decN_add]; rfl

set_option maxHeartbeats 1000000 in
theorem c_nine (r : Nat) (hr : r < 4294967296) : PCalls Tryz.prog 47 [.int .u32 (r : Nat)] (.str (textOf (decN 9 r))) := by
  refine pcalls_of_AW (pa := []) (fn := Tryz.f47) (ts := [2]) follows_mixed Tryz.func47 rfl rfl (by kernel_rfl) (by kernel_rfl) (by rw [Tryz.ntmps47]; simp) ?_
  simp only [go_sem, ↓reduceIte]
  refine AW_while (fun m st => m ≤ 9 ∧ st.τ 3 = .ptr 1 0 ∧ st.τ 4 = .int .i64 ((m : Int) - 1) ∧ st.τ 0 = .int .u32 ((r / 10 ^ (9 - m) : Nat) : Int) ∧ 2 ≤ st.n ∧ st.h 1 = some (List.replicate m (.int .u8 0) ++ u8c (decN (9 - m) r))) 9 ?_ ?_
  · exact ⟨by omega, by simp only [go_sem, ↓reduceIte], by simp only [go_sem, ↓reduceIte] <;> rfl, by simp only [go_sem, ↓reduceIte, Nat.sub_self, Nat.pow_zero, Nat.div_one], by simp only [go_sem, ↓reduceIte] <;> omega, by simp only [go_sem, ↓reduceIte] <;> rfl⟩
  · rintro m st ⟨hm, h3, h4, h0, hn, hb⟩ next
    rcases Nat.eq_zero_or_pos m with hz | hz
    · subst hz
      have hd := dec_false (show ¬ (0 : Int) ≤ ((0 : Nat) : Int) - 1 by omega)
      have hl : (u8c (decN 9 r)).length = 9 := by rw [u8c_length, decN_length]
      have ht : (u8c (decN 9 r)).take 9 = u8c (decN 9 r) := List.take_of_length_le (by omega)
      simp only [List.replicate_zero, List.nil_append, Nat.sub_zero] at hb
      simp only [go_sem, ↓reduceIte, h3, h4, h0, hd, hb, hl, ht, bytesOf_u8c]
      exact .mk (by simp only [go_sem, ↓reduceIte])
    · obtain ⟨i, rfl⟩ : ∃ i, m = i + 1 := ⟨m - 1, by omega⟩
      have e1 : ((i + 1 : Nat) : Int) - 1 = (i : Nat) := by omega
      rw [e1] at h4
      have hd := dec_true (show (0 : Int) ≤ (i : Nat) by omega)
      have hi9 : ((i : Nat) : Int) < (9 : Nat) := by omega
      have hr9 : r / 10 ^ (9 - (i + 1)) < 4294967296 := Nat.lt_of_le_of_lt (Nat.div_le_self _ _) hr
      generalize hq : r / 10 ^ (9 - (i + 1)) = q at *
      have hrem : ((q : Nat) : Int).tmod 10 = ((q % 10 : Nat) : Int) := tmod_nat q 10
      have hquo : IntKind.u32.wrap (((q : Nat) : Int).tdiv 10) = ((q / 10 : Nat) : Int) := by
        rw [show ((q : Nat) : Int).tdiv 10 = ((q / 10 : Nat) : Int) from rfl, wrapu32_id (by omega) (by omega)]
      have hadd : IntKind.u32.wrap (48 + ((q % 10 : Nat) : Int)) = ((48 + q % 10 : Nat) : Int) := by rw [wrapu32_id (by omega) (by omega)]; omega
      have hu8 : IntKind.u8.wrap ((48 + q % 10 : Nat) : Int) = ((dig8 q).toNat : Int) := by
        have h1 : (dig8 q).toNat = 48 + q % 10 := by
          unfold dig8
          rw [UInt8.toNat_ofNat_of_lt' (show 48 + q % 10 < UInt8.size from by have : UInt8.size = 256 := rfl; omega)]
        rw [h1]
        unfold IntKind.wrap
        simp only [show IntKind.u8.bits = 8 from rfl, show IntKind.u8.signed = false from rfl, Bool.false_and, Bool.false_eq_true, if_false]
        omega
      have hlen : (List.replicate (i + 1) (AV.int .u8 0) ++ u8c (decN (9 - (i + 1)) r)).length = 9 := by rw [List.length_append, List.length_replicate, u8c_length, decN_length]; omega
      have hle : i + 1 ≤ 9 := by omega
      have hlay := lay_nine i (.int .u8 ((dig8 q).toNat : Int)) (u8c (decN (9 - (i + 1)) r))
      have he : 9 - i = (9 - (i + 1)) + 1 := by omega
      have hp : r / 10 ^ (9 - i) = q / 10 := by rw [he, Nat.pow_succ, ← Nat.div_div_eq_div_mul, hq]
      have hD : decN (9 - i) r = dig8 q :: decN (9 - (i + 1)) r := by rw [he, decN_cons, hq]
      simp only [go_sem, ↓reduceIte, h3, h4, h0, hd, hi9, hrem, hadd, hu8, hquo, hb, hlen, hle]
      refine next i _ (by omega) ⟨by omega, by simp only [go_sem, ↓reduceIte, h3], by simp only [go_sem, ↓reduceIte]; rw [wrap64_id (by omega) (by omega)], by simp only [go_sem, ↓reduceIte, hp], by simp only [go_sem, ↓reduceIte] <;> omega, ?_⟩
      simp only [go_sem, ↓reduceIte]
      rw [List.append_assoc, List.cons_append, List.nil_append, hlay, hD]
      rfl

theorem textOf_size (l : List UInt8) : (textOf l).size = l.length := by simp [textOf, ByteArray.size]
theorem textOf_tail (x : UInt8) (l : List UInt8) : (textOf (x :: l)).extract 1 (l.length + 1) = textOf l := by
  apply ByteArray.ext
  simp [textOf, ByteArray.data_extract]
theorem textOf_head (x : UInt8) (l : List UInt8) : (textOf (x :: l))[0]? = some x := by
  rw [getElem?_pos (textOf (x :: l)) 0 (by rw [textOf_size]; exact Nat.succ_pos _)]
  rfl
set_option maxHeartbeats 1000000 in
theorem c_trimByte (l : List UInt8) (hl : l.length ≤ 1099511627776) : PCalls Tryz.prog 60 [.str (textOf l), .int .u8 48] (.str (textOf (trimZ l))) := by
  refine pcalls_of_AW (pa := []) (fn := Tryz.f60) (ts := [4]) follows_mixed Tryz.func60 rfl rfl (by kernel_rfl) (by kernel_rfl) (by rw [Tryz.ntmps60]; simp) ?_
  simp only [go_sem, ↓reduceIte]
  refine AW_while (fun m st => ∃ r : List UInt8, m = r.length ∧ trimZ r = trimZ l ∧ r.length ≤ 1099511627776 ∧ st.τ 0 = .str (textOf r) ∧ st.τ 1 = .int .u8 48) l.length ?_ ?_
  · exact ⟨l, rfl, rfl, hl, by simp only [go_sem, ↓reduceIte], by simp only [go_sem, ↓reduceIte]⟩
  · rintro m st ⟨r, hm, hs, hrl, h0, h1⟩ next
    cases r with
    | nil =>
      have hd : decide ((0 : Int) < ((textOf []).size : Nat)) = false := rfl
      simp only [go_sem, ↓reduceIte, h0, h1, hd]
      exact .mk (by simp only [go_sem, ↓reduceIte, ← hs] <;> rfl)
    | cons x r =>
      have hsz := textOf_size (x :: r)
      have hd := dec_true (show (0 : Int) < ((textOf (x :: r)).size : Nat) by rw [hsz]; simp only [List.length_cons]; omega)
      by_cases hx : x = 48
      · subst hx
        have hx' : ((((48 : UInt8).toNat : Nat) : Int) == 48) = true := rfl
        have hb : (0 : Int) ≤ 1 ∧ (1 : Int) ≤ ((textOf (48 :: r)).size : Nat) := by rw [hsz]; simp only [List.length_cons]; omega
        have hb1 : (1 : Int) ≤ ((textOf (48 :: r)).size : Nat) := hb.2
        have ht := textOf_tail 48 r
        rw [show r.length + 1 = (48 :: r).length from rfl, ← hsz] at ht
        simp only [go_sem, ↓reduceIte, h0, h1, hd, textOf_head, hx', hb1, Int.le_refl, ht]
        refine next r.length _ (by rw [hm]; simp) ⟨r, rfl, by rw [← hs]; simp [trimZ], by simp only [List.length_cons] at hrl; omega, by simp only [go_sem, ↓reduceIte], by simp only [go_sem, ↓reduceIte, h1]⟩
      · have hx' : ((((x).toNat : Nat) : Int) == 48) = false := by
          rw [beq_int]
          refine decide_eq_false fun h => hx ?_
          have h48 : (48 : UInt8).toNat = 48 := rfl
          exact UInt8.toNat_inj.1 (by omega)
        have ht : trimZ (x :: r) = x :: r := by simp [trimZ, hx]
        rw [ht] at hs
        simp only [go_sem, ↓reduceIte, h0, h1, hd, textOf_head, hx']
        exact .mk (by simp only [go_sem, ↓reduceIte, ← hs])

set_option maxHeartbeats 1000000 in
theorem c_trimLeft (l : List UInt8) (hl : l.length ≤ 1099511627776) : PCalls Tryz.prog 48 [.str (textOf l), .str ⟨#[48]⟩] (.str (textOf (trimZ l))) := by
  have hc := c_trimByte l hl
  have h48 : ((⟨#[48]⟩ : ByteArray)[0]?) = some 48 := rfl
  have hsz : (⟨#[48]⟩ : ByteArray).size = 1 := rfl
  have he1 : ((⟨#[48]⟩ : ByteArray).toList == (⟨#[]⟩ : ByteArray).toList) = false := by rw [ByteArray.toList_eq, ByteArray.toList_eq]; rfl
  have h8 : (((48 : UInt8).toNat : Nat) : Int) = 48 := rfl
  refine pcalls_of_AW (pa := []) (fn := Tryz.f48) (ts := [4]) follows_mixed Tryz.func48 rfl rfl (by kernel_rfl) (by kernel_rfl) (by rw [Tryz.ntmps48]; simp) ?_
  cases l with
  | nil =>
    have he0 : ((textOf []).toList == (⟨#[]⟩ : ByteArray).toList) = true := by rw [ByteArray.toList_eq, ByteArray.toList_eq]; rfl
    simp only [go_sem, ↓reduceIte, astrop, he0]
    exact .mk (by simp only [go_sem, ↓reduceIte] <;> rfl)
  | cons x l =>
    have he0 : ((textOf (x :: l)).toList == (⟨#[]⟩ : ByteArray).toList) = false := by rw [ByteArray.toList_eq, ByteArray.toList_eq]; rfl
    simp only [go_sem, ↓reduceIte, astrop, he0, he1, hsz, h48, h8, cast1]
    refine callS_p hc ?_
    simp only [go_sem, ↓reduceIte]
    exact .mk (by simp only [go_sem, ↓reduceIte])
end Go.Proofs.YtdbmdaefmlflaaaGreatDoor

set_option linter.unusedVariables false
set_option linter.unusedSimpArgs false
set_option maxRecDepth 10000
namespace Go.Proofs.YtdbmdaefmlflaaaGreatDoor
open Go Go.Ab Go.Num

def enc9 (r : Nat) : AV := .str (textOf (decN 9 r))
theorem elt_9 : Elt 1 enc9 := ⟨by omega, fun q => ⟨_, rfl, rfl, rfl, rfl⟩⟩
theorem flat_9 (L : List Nat) : flatC enc9 L = L.map enc9 := by
  induction L with
  | nil => rfl
  | cons x l ih => simp only [flatC, List.flatMap_cons, List.map_cons] at ih ⊢; rw [ih]; rfl
theorem textOf_append (a b : List UInt8) : textOf a ++ textOf b = textOf (a ++ b) := by
  apply ByteArray.ext; simp [textOf, ByteArray.data_append]
theorem grp_len : ∀ (k n : Nat), n < 2 ^ k → (grp n).length ≤ k
  | 0, n, h => by simp at h; subst h; rw [grp_zero]; simp
  | k + 1, n, h => by
    by_cases h0 : n = 0
    · subst h0; rw [grp_zero]; simp
    · rw [grp_pos h0]
      have := grp_len k (n / 1000000000) (by rw [Nat.pow_succ] at h; omega)
      simp only [List.length_cons]; omega
theorem text9_len (L : List Nat) : (L.flatMap (decN 9)).length = 9 * L.length := by
  induction L with
  | nil => rfl
  | cons x l ih => simp only [List.flatMap_cons, List.length_append, decN_length, ih, List.length_cons]; omega

set_option maxHeartbeats 2000000 in
theorem c_dtext (a : List Nat) (ha : Wd a) (hl : a.length < 100000) : PCalls Tryz.prog 34 [encW a] (.str (textOf (decS (val a)))) := by
  have hz := c_zero a ha (by omega)
  refine pcalls_of_AW (pa := []) (fn := Tryz.f34) (ts := [2]) follows_mixed Tryz.func34 rfl rfl (by kernel_rfl) (by kernel_rfl) (by rw [Tryz.ntmps34]; simp) ?_
  simp only [go_sem, ↓reduceIte, encW]
  refine callS_p hz ?_
  by_cases h0 : val a = 0
  · simp only [go_sem, ↓reduceIte, dec_true h0]
    have : textOf (decS 0) = ⟨#[48]⟩ := by rw [decS, dif_pos (by omega)]; rfl
    rw [h0, this]
    exact .mk (by simp only [go_sem, ↓reduceIte])
  simp only [go_sem, ↓reduceIte, dec_false h0]
  have hbig : (grp (val a)).length ≤ 3200000 := by
    have h1 := grp_len (32 * a.length) (val a) (by rw [← Bpow]; exact val_lt ha)
    omega
  refine AW_while (fun m st => ∃ x L, m = val x ∧ Wd x ∧ x.length < 100000 ∧ st.τ 0 = encW x ∧ grp (val a) = L ++ grp (val x) ∧ Acc 1 enc9 st (st.τ 3) L) (val a) ?_ ?_
  · exact ⟨a, [], rfl, ha, hl, by simp only [go_sem, ↓reduceIte, encW], rfl, .inl ⟨rfl, by simp only [go_sem, ↓reduceIte]⟩⟩
  · rintro m st ⟨x, L, hm, hx, hxl, h0', hg, hacc⟩ next
    have hzx := c_zero x hx (by omega)
    have hLl : L.length ≤ 3200000 := by have := congrArg List.length hg; rw [List.length_append] at this; omega
    by_cases hx0 : val x = 0
    case neg =>
      have hw := c_qword x 1000000000 hx (by omega) (by omega) (by omega)
      have hn := c_nine (val x % 1000000000) (by omega)
      simp only [go_sem, ↓reduceIte, h0', encW]
      refine callS_p hzx ?_
      simp only [go_sem, ↓reduceIte, h0', encW, dec_false hx0]
      refine callS_p hw ?_
      simp only [go_sem, ↓reduceIte, h0', encW]
      refine callS_p hn ?_
      have hg' : grp (val a) = (L ++ [val x % 1000000000]) ++ grp (val (dig (val x / 1000000000))) := by rw [hg, grp_pos hx0, val_dig, List.append_assoc]; rfl
      have hxl' : (dig (val x / 1000000000)).length < 100000 := by
        have h1 := dig_len_mono (Nat.div_le_self (val x) 1000000000)
        have h2 := dig_len_val hx
        omega
      have hL1 : (L ++ [val x % 1000000000]).length = L.length + 1 := by simp
      have hfl : (flatC enc9 L).length = L.length := by rw [flat_9]; simp
      have hi38 : L.length ≤ 274877906944 := by omega
      have hdec : val (dig (val x / 1000000000)) < m := by rw [val_dig, hm]; omega
      rcases hacc with ⟨hnil, h3⟩ | ⟨b, h3, hb, hbn⟩
      · subst hnil
        simp only [go_sem, ↓reduceIte, h0', h3, encW]
        refine next _ _ hdec ⟨_, [] ++ [val x % 1000000000], rfl, wd_dig _, hxl', by simp only [go_sem, ↓reduceIte, encW], hg', .inr ⟨_, by simp only [go_sem, ↓reduceIte] <;> rfl, by simp only [go_sem, ↓reduceIte] <;> rfl, by simp only [go_sem, ↓reduceIte] <;> omega⟩⟩
      · simp only [go_sem, ↓reduceIte, h0', h3, encW, hb, hfl, hi38, upd1_old _ _ _ _ _ hbn, old_ne hbn, new_ne hbn]
        refine next _ _ hdec ⟨_, L ++ [val x % 1000000000], rfl, wd_dig _, hxl', by simp only [go_sem, ↓reduceIte, encW], hg', .inr ⟨_, by rw [hL1]; simp only [go_sem, ↓reduceIte] <;> rfl, by rw [flatC_snoc]; simp only [go_sem, ↓reduceIte, List.take_of_length_le (Nat.le_of_eq hfl)] <;> rfl, by simp only [go_sem, ↓reduceIte] <;> omega⟩⟩
    case pos =>
      rw [hx0, grp_zero, List.append_nil] at hg
      have hLne : L ≠ [] := fun h => by rw [h, grp_pos h0] at hg; cases hg
      rcases hacc with ⟨hnil, h3⟩ | ⟨g, h3, hb, hbn⟩
      · exact absurd hnil hLne
      have hlen1 : IntKind.i64.wrap ((L.length : Int) - 1) = (L.length : Int) - 1 := wrap64_id (by omega) (by omega)
      simp only [go_sem, ↓reduceIte, h0', encW]
      refine callS_p hzx ?_
      simp only [go_sem, ↓reduceIte, h0', h3, encW, dec_true hx0, hlen1]
      have hget : ∀ i, i < L.length → (flatC enc9 L).drop i = enc9 (L.getD i 0) :: (flatC enc9 L).drop (i + 1) := fun i hi => by
        rw [flat_9, List.drop_eq_getElem_cons (by simpa using hi)]
        simp [List.getD, hi]
      have hfl : (flatC enc9 L).length = L.length := by rw [flat_9]; simp
      have hem : textOf [] = (⟨#[]⟩ : ByteArray) := rfl
      refine AW_while (fun m st' => ∃ c, m ≤ L.length ∧ st'.τ 3 = .own g 0 L.length 1 ∧ st'.τ 7 = .tptr (st.n + 3) 2 100 ∧ st'.τ 8 = .int .i64 ((m : Int) - 1) ∧ st'.h g = some (flatC enc9 L) ∧ g < st'.n ∧ some g ≠ c ∧ Bld st'.h st'.n (st.n + 3) (textOf ((L.drop m).reverse.flatMap (decN 9))) c) L.length ?_ ?_
      · refine ⟨none, by omega, by simp only [go_sem, ↓reduceIte, h3], by simp only [go_sem, ↓reduceIte], by simp only [go_sem, ↓reduceIte], by simp only [go_sem, ↓reduceIte, hb, upd1_old _ _ _ _ _ hbn], by simp only [go_sem, ↓reduceIte] <;> omega, by simp, ?_⟩
        rw [List.drop_length]
        exact .nil _ (.inl rfl) (by simp only [go_sem, ↓reduceIte]) (by simp only [go_sem, ↓reduceIte] <;> omega)
      · have hne : g ≠ st.n + 3 := by omega
        generalize st.n + 3 = bb at *
        clear next hb hbn h3 h0' hm hx hxl hzx
        clear st
        rintro m' st ⟨c, hm, h3, h7, h8, hb, hbn, hgc, hB⟩ next
        have hsz : (textOf ((L.drop m').reverse.flatMap (decN 9))).size ≤ 274877906944 := by
          rw [textOf_size, text9_len, List.length_reverse, List.length_drop]; omega
        rcases Nat.eq_zero_or_pos m' with hz0 | hz0
        · subst hz0
          have hd := dec_false (show ¬ (0 : Int) ≤ ((0 : Nat) : Int) - 1 by omega)
          rw [List.drop_zero] at hB hsz
          rw [← hg] at hB hsz
          have htl := c_trimLeft ((grp (val a)).reverse.flatMap (decN 9)) (by rw [textOf_size] at hsz; omega)
          rw [grp_trim h0] at htl
          simp only [go_sem, ↓reduceIte, h3, h7, h8, hd]
          refine callS_h (c_bstr bb _ c _ _ (hB.keep (by simp only [go_sem, ↓reduceIte] <;> omega) (by simp only [go_sem, ↓reduceIte]) (fun k _ => by simp only [go_sem, ↓reduceIte])) hsz) ?_
          rintro v h' n' hn ⟨rfl, hk⟩
          simp only [go_sem, ↓reduceIte]
          refine callS_p htl ?_
          simp only [go_sem, ↓reduceIte]
          exact .mk (by simp only [go_sem, ↓reduceIte])
        · obtain ⟨i, rfl⟩ : ∃ i, m' = i + 1 := ⟨m' - 1, by omega⟩
          have e1 : ((i + 1 : Nat) : Int) - 1 = (i : Nat) := by omega
          rw [e1] at h8
          have hd := dec_true (show (0 : Int) ≤ (i : Nat) by omega)
          have hil : ((i : Nat) : Int) < (L.length : Nat) := by omega
          have hgi := hget i (by omega)
          have hle : i ≤ L.length := by omega
          have h9 : (textOf (decN 9 (L.getD i 0))).size ≤ 274877906944 := by rw [textOf_size, decN_length]; omega
          simp only [go_sem, ↓reduceIte, h3, h7, h8, hd, hil, hb, hgi, hfl, hle, enc9]
          refine callS_h (c_wstr bb _ _ c _ _ (hB.keep (by simp only [go_sem, ↓reduceIte] <;> omega) (by simp only [go_sem, ↓reduceIte]) (fun k _ => by simp only [go_sem, ↓reduceIte])) hsz h9) ?_
          rintro v h' n' hn ⟨rfl, ⟨c', hB', hcc⟩, hk⟩
          simp only [go_sem, ↓reduceIte] at hn
          have hg' : h' g = some (flatC enc9 L) := by rw [hk g (by simp only [go_sem, ↓reduceIte] <;> omega) hne hgc]; simp only [go_sem, ↓reduceIte, hb]
          have hgc' : some g ≠ c' := by
            rcases hcc with rfl | ⟨k, rfl, hk2⟩
            · exact hgc
            · intro e; cases e; simp only [go_sem, ↓reduceIte] at hk2; omega
          have htx : textOf ((L.drop (i + 1)).reverse.flatMap (decN 9)) ++ textOf (decN 9 (L.getD i 0)) = textOf ((L.drop i).reverse.flatMap (decN 9)) := by
            have hi : i < L.length := by omega
            rw [textOf_append, show L.getD i 0 = L[i] by simp [List.getD, hi], drop_cons hi, List.reverse_cons, List.flatMap_append, List.flatMap_cons, List.flatMap_nil, List.append_nil]
          rw [htx] at hB'
          simp only [go_sem, ↓reduceIte, h3, h7, h8]
          refine next i _ (by omega) ⟨c', by omega, by simp only [go_sem, ↓reduceIte, h3], by simp only [go_sem, ↓reduceIte, h7], by simp only [go_sem, ↓reduceIte]; rw [wrap64_id (by omega) (by omega)], by simp only [go_sem, ↓reduceIte, hg'], by simp only [go_sem, ↓reduceIte] <;> omega, hgc', hB'.keep (by simp only [go_sem, ↓reduceIte] <;> omega) (by simp only [go_sem, ↓reduceIte]) (fun k _ => by simp only [go_sem, ↓reduceIte])⟩
end Go.Proofs.YtdbmdaefmlflaaaGreatDoor

set_option linter.unusedVariables false
set_option linter.unusedSimpArgs false
set_option maxRecDepth 10000
namespace Go.Proofs.YtdbmdaefmlflaaaGreatDoor
open Go Go.Ab Go.Num

def txtZ (z : Int) : List UInt8 := if z < 0 then 45 :: decS z.natAbs else decS z.natAbs
def txtQ (q : Rat) : List UInt8 := if q.den = 1 then txtZ q.num else txtZ q.num ++ 47 :: decS q.den
theorem decS_len : ∀ (k n : Nat), n < 2 ^ k → (decS n).length ≤ k + 1
  | 0, n, h => by simp at h; subst h; rw [decS, dif_pos (by omega)]; simp
  | k + 1, n, h => by
    rw [decS]
    split
    · simp
    · have := decS_len k (n / 10) (by rw [Nat.pow_succ] at h; omega)
      simp only [List.length_append, List.length_singleton]; omega
theorem decS_len' {a : List Nat} (h : Wd a) : (decS (val a)).length ≤ 32 * a.length + 1 := decS_len _ _ (by rw [← Bpow]; exact val_lt h)

theorem astr_add {a b : List UInt8} (h : a.length + b.length ≤ 1099511627776) : astrop .add (textOf a) (textOf b) = some (.str (textOf (a ++ b))) := by
  have hm : ¬ (((textOf a).size + (textOf b).size : Nat) : Int) > IntKind.i64.max := by
    rw [textOf_size, textOf_size, show IntKind.i64.max = 9223372036854775807 from rfl]; omega
  simp only [astrop, if_neg hm, textOf_append]

theorem c_wtext (neg : Bool) (a : List Nat) (ha : Wd a) (hl : a.length < 100000) : PCalls Tryz.prog 32 [encH neg a] (.str (textOf (txtZ (sg neg (val a))))) := by
  have h1 := c_dtext a ha hl
  have h2 := c_wsign neg a ha (by omega)
  have hlen := decS_len' ha
  have hn : (sg neg (val a)).natAbs = val a := sg_natAbs _ _
  unfold txtZ
  rw [hn]
  refine pcalls_of_AW (pa := []) (fn := Tryz.f32) (ts := [2]) follows_mixed Tryz.func32 rfl rfl (by kernel_rfl) (by kernel_rfl) (by rw [Tryz.ntmps32]; simp) ?_
  simp only [go_sem, ↓reduceIte, encH, encW]
  refine callS_p h1 ?_
  simp only [go_sem, ↓reduceIte]
  refine callS_p h2 ?_
  by_cases h : sg neg (val a) < 0
  · have hs : decide ((sg neg (val a)).sign < 0) = true := decide_eq_true (by rw [Int.sign_eq_neg_one_of_neg h]; omega)
    have ha := astr_add (a := [45]) (b := decS (val a)) (by simp only [List.length_singleton]; omega)
    rw [show textOf [45] = (⟨#[45]⟩ : ByteArray) from rfl] at ha
    rw [if_pos h]
    simp only [go_sem, ↓reduceIte, hs, ha]
    exact .mk (by simp only [go_sem, ↓reduceIte] <;> rfl)
  · have hs : decide ((sg neg (val a)).sign < 0) = false := decide_eq_false (by
      intro h'
      exact h (Int.sign_neg_iff.1 h'))
    rw [if_neg h]
    simp only [go_sem, ↓reduceIte, hs]
    exact .mk (by simp only [go_sem, ↓reduceIte])

theorem c_ftext (f : Fr) (hf : okR 20000 f) : PCalls Tryz.prog 23 [encR f] (.str (textOf (txtQ (rv f)))) := by
  have hn := c_fnorm f (hf.mono (by omega))
  have hw := qw_rv hf (by omega)
  generalize rv f = q at *
  have hl1 : (dig q.num.natAbs).length ≤ 20000 := by unfold qw at hw; omega
  have hl2 : (dig q.den).length ≤ 20000 := by unfold qw at hw; omega
  have h1 := c_wtext (decide (q.num < 0)) (dig q.num.natAbs) (wd_dig _) (by omega)
  rw [val_dig, sg_self] at h1
  have h2 := c_of 1 (by omega)
  rw [dig_one (by omega) (by decide)] at h2
  have h3 := c_ncmp (dig q.den) [1] (wd_dig _) (.cons (by decide) .nil) (by omega) (by decide)
  have h4 := c_dtext (dig q.den) (wd_dig _) (by omega)
  rw [val_dig] at h3 h4
  rw [show val [1] = 1 from rfl] at h3
  have d1 := decS_len' (wd_dig q.den)
  have d2 := decS_len' (wd_dig q.num.natAbs)
  rw [val_dig] at d1 d2
  have d3 : (txtZ q.num).length ≤ 700000 := by
    unfold txtZ
    split
    · simp only [List.length_cons]; omega
    · omega
  unfold txtQ
  refine pcalls_of_AW (pa := []) (fn := Tryz.f23) (ts := [2]) follows_mixed Tryz.func23 rfl rfl (by kernel_rfl) (by kernel_rfl) (by rw [Tryz.ntmps23]; simp) ?_
  simp only [go_sem, ↓reduceIte, encR, encW]
  refine callS_p hn ?_
  simp only [go_sem, ↓reduceIte, encQ, encR, cq, encW]
  refine callS_p h1 ?_
  simp only [go_sem, ↓reduceIte, encQ, encR, cq, encW]
  refine callD_p h2 ?_
  simp only [go_sem, ↓reduceIte, encQ, encR, cq, encW]
  refine callD_p h3 ?_
  by_cases hd : q.den = 1
  · rw [if_pos hd]
    have hc : (cmpN q.den 1 != 0) = false := by rw [bne_int, decide_eq_true (cmpN_zero.2 hd)]; rfl
    simp only [go_sem, ↓reduceIte, encW, hc]
    exact .mk (by simp only [go_sem, ↓reduceIte])
  · rw [if_neg hd]
    have hc : (cmpN q.den 1 != 0) = true := by rw [bne_int, decide_eq_false (fun h => hd (cmpN_zero.1 h))]; rfl
    have ha := astr_add (a := [47]) (b := decS q.den) (by simp only [List.length_singleton]; omega)
    rw [show textOf [47] = (⟨#[47]⟩ : ByteArray) from rfl] at ha
    have hb := astr_add (a := txtZ q.num) (b := [47] ++ decS q.den) (by simp only [List.length_append, List.length_singleton]; omega)
    simp only [List.cons_append, List.nil_append] at ha hb
    simp only [go_sem, ↓reduceIte, encW, hc]
    refine callS_p h4 ?_
    simp only [go_sem, ↓reduceIte, encW, ha, hb]
    exact .mk (by simp only [go_sem, ↓reduceIte] <;> rfl)
end Go.Proofs.YtdbmdaefmlflaaaGreatDoor

set_option linter.unusedVariables false
set_option linter.unusedSimpArgs false
set_option maxRecDepth 10000
namespace Go.Proofs.YtdbmdaefmlflaaaGreatDoor
open Go Go.Ab Go.Num

def encS (l : List UInt8) : AV := .str (textOf l)
def joinL (sep : List UInt8) : List (List UInt8) → List UInt8
  | [] => []
  | x :: r => x ++ r.flatMap (fun y => sep ++ y)
def sumL (l : List (List UInt8)) : Nat := (l.map (·.length)).sum
theorem cast_lt0 {i n : Nat} (h : i < n) : ((i : Nat) : Int) < (n : Nat) := by omega
theorem sumL_snoc {l : List (List UInt8)} {i : Nat} (h : i < l.length) : sumL (l.take (i + 1)) = sumL (l.take i) + l[i].length := by
  rw [sumL, take_snoc h, List.map_append, List.sum_append]; simp [sumL]
theorem sumL_le (l : List (List UInt8)) (i : Nat) : sumL (l.take i) ≤ sumL l := by
  conv => rhs; rw [← List.take_append_drop i l]
  rw [sumL, sumL, List.map_append, List.sum_append]; omega
theorem flat_len (sep : List UInt8) (l : List (List UInt8)) : (l.flatMap (fun y => sep ++ y)).length = sep.length * l.length + sumL l := by
  induction l with
  | nil => simp [sumL]
  | cons x l ih =>
    simp only [List.flatMap_cons, List.length_append, ih, List.length_cons, sumL, List.map_cons, List.sum_cons, Nat.mul_succ] at ih ⊢
    omega

set_option maxHeartbeats 2000000 in
theorem c_join (sep : List UInt8) (xs : List (List UInt8)) (hN : xs.length ≤ 100000) (hs : sep.length ≤ 1000) (ht : sumL xs ≤ 100000000000) :
    PCalls Tryz.prog 24 [.sl 1 (xs.map encS), .str (textOf sep)] (.str (textOf (joinL sep xs))) := by
  have hsz := textOf_size sep
  refine pcalls_of_AW (pa := []) (fn := Tryz.f24) (ts := [4]) follows_mixed Tryz.func24 rfl rfl (by kernel_rfl) (by kernel_rfl) (by rw [Tryz.ntmps24]; simp) ?_
  match xs, hN, ht with
  | [], _, _ =>
    simp only [go_sem, ↓reduceIte, cast0]
    exact .mk (by simp only [go_sem, ↓reduceIte] <;> rfl)
  | [x], _, _ =>
    simp only [go_sem, ↓reduceIte, cast1, encS]
    exact .mk (by simp only [go_sem, ↓reduceIte, joinL, List.flatMap_nil, List.append_nil])
  | x :: y :: r, hN, ht =>
  have hlen : (x :: y :: r).length = r.length + 2 := rfl
  have d0 : ((((x :: y :: r).length : Nat) : Int) == 0) = false := by rw [beq_int]; exact decide_eq_false (by rw [hlen]; omega)
  have d1 : ((((x :: y :: r).length : Nat) : Int) == 1) = false := by rw [beq_int]; exact decide_eq_false (by rw [hlen]; omega)
  generalize hxs : x :: y :: r = zs at *
  simp only [go_sem, ↓reduceIte, d0, d1]
  have hz2 : 2 ≤ zs.length := by rw [hlen]; omega
  have hK : sep.length * (zs.length - 1) ≤ 100000000 := by
    have := Nat.mul_le_mul hs (show zs.length - 1 ≤ 100000 by omega); omega
  refine AW_cut (fun st => st.τ 0 = .sl 1 (zs.map encS) ∧ st.τ 1 = .str (textOf sep) ∧ st.τ 5 = .int .i64 ((sep.length * (zs.length - 1) : Nat) : Int)) rfl ?_ ?_
  · by_cases hp : 0 < sep.length
    · have e0 := dec_true (show (0 : Int) < ((textOf sep).size : Nat) by rw [hsz]; omega)
      have w1 : IntKind.i64.wrap ((zs.length : Int) - 1) = ((zs.length - 1 : Nat) : Int) := by rw [wrap64_id (by omega) (by omega)]; omega
      have hnz : ¬ ((zs.length - 1 : Nat) : Int) = 0 := by omega
      obtain ⟨Q, hQ⟩ : ∃ Q, Q = 9223372036854775807 / (zs.length - 1) := ⟨_, rfl⟩
      have hq : (9223372036854775807 : Int).tdiv ((zs.length - 1 : Nat) : Int) = (Q : Int) := by rw [hQ]; rfl
      have hql : Q ≤ 9223372036854775807 := by rw [hQ]; exact Nat.div_le_self _ _
      have w2 : IntKind.i64.wrap (Q : Int) = (Q : Int) := wrap64_id (by omega) (by omega)
      have hge : 1001 ≤ Q := by
        rw [hQ, Nat.le_div_iff_mul_le (by omega)]
        have := Nat.mul_le_mul (Nat.le_refl 1001) (show zs.length - 1 ≤ 100000 by omega); omega
      have d2 := dec_false (show ¬ (Q : Int) ≤ ((textOf sep).size : Nat) by rw [hsz]; omega)
      have w3 : IntKind.i64.wrap (((textOf sep).size : Int) * ((zs.length - 1 : Nat) : Int)) = ((sep.length * (zs.length - 1) : Nat) : Int) := by
        rw [hsz, ← Int.natCast_mul, wrap64_id (by omega) (by omega)]
      have w4 : IntKind.i64.wrap (0 + ((sep.length * (zs.length - 1) : Nat) : Int)) = ((sep.length * (zs.length - 1) : Nat) : Int) := by rw [Int.zero_add, wrap64_id (by omega) (by omega)]
      simp only [go_sem, ↓reduceIte, e0, w1, hnz, hq, w2, d2, w3, w4]
    · have hl0 : sep.length = 0 := by omega
      have e0 := dec_false (show ¬ (0 : Int) < ((textOf sep).size : Nat) by rw [hsz]; omega)
      simp only [go_sem, ↓reduceIte, e0, hl0]
      rfl
  · clear d0 d1
    rintro st ⟨h0, h1, h5⟩
    simp only [go_sem, ↓reduceIte, h0, h1, h5]
    refine AW_while (fun m st => ∃ i, i + m = zs.length ∧ st.τ 0 = .sl 1 (zs.map encS) ∧ st.τ 1 = .str (textOf sep) ∧ st.τ 5 = .int .i64 ((sep.length * (zs.length - 1) + sumL (zs.take i) : Nat) : Int) ∧ st.τ 39 = .sl 1 (zs.map encS) ∧ st.τ 40 = .int .i64 zs.length ∧ st.τ 41 = .int .i64 (i : Nat)) zs.length ?_ ?_
    · exact ⟨0, by omega, by simp only [go_sem, ↓reduceIte, h0], by simp only [go_sem, ↓reduceIte, h1], by simp only [go_sem, ↓reduceIte, h5, List.take_zero] <;> rfl, by simp only [go_sem, ↓reduceIte], by simp only [go_sem, ↓reduceIte], by simp only [go_sem, ↓reduceIte] <;> rfl⟩
    · clear h0 h1 h5
      clear st
      rintro m st ⟨i, hi, h0, h1, h5, h39, h40, h41⟩ next
      by_cases hlt : i < zs.length
      · have hlt' := cast_lt0 hlt
        have hsn := sumL_snoc hlt
        have hle := sumL_le zs (i + 1)
        have hzl := textOf_size zs[i]
        have w1 : IntKind.i64.wrap (9223372036854775807 - ((sep.length * (zs.length - 1) + sumL (zs.take i) : Nat) : Int)) = 9223372036854775807 - ((sep.length * (zs.length - 1) + sumL (zs.take i) : Nat) : Int) := wrap64_id (by omega) (by omega)
        have d2 := dec_false (show ¬ (9223372036854775807 - ((sep.length * (zs.length - 1) + sumL (zs.take i) : Nat) : Int)) < ((textOf zs[i]).size : Nat) by rw [hzl]; omega)
        have w2 : IntKind.i64.wrap (((sep.length * (zs.length - 1) + sumL (zs.take i) : Nat) : Int) + ((textOf zs[i]).size : Nat)) = ((sep.length * (zs.length - 1) + sumL (zs.take (i + 1)) : Nat) : Int) := by rw [hzl, wrap64_id (by omega) (by omega)]; omega
        simp only [go_sem, ↓reduceIte, h0, h1, h5, h39, h40, h41, hlt', getD_map_lt _ _ _ _ hlt, encS, w1, d2, w2]
        refine next (m - 1) _ (by omega) ⟨i + 1, by omega, by simp only [go_sem, ↓reduceIte, h0] <;> rfl, by simp only [go_sem, ↓reduceIte, h1], by simp only [go_sem, ↓reduceIte], by simp only [go_sem, ↓reduceIte, h39] <;> rfl, by simp only [go_sem, ↓reduceIte, h40], by simp only [go_sem, ↓reduceIte]; rw [wrap64_id (by omega) (by omega)]; rfl⟩
      · have hlt' := dec_false (show ¬ ((i : Nat) : Int) < (zs.length : Nat) by omega)
        rw [List.take_of_length_le (by omega)] at h5
        have hz0 : (0 : Int) < (zs.length : Nat) := by omega
        have hgz : (zs.map encS).getD 0 .undef = encS x := by rw [← hxs]; rfl
        have htot : sep.length * (zs.length - 1) + sumL zs ≤ 200000000000 := by omega
        simp only [go_sem, ↓reduceIte, h0, h1, h5, h39, h40, h41, hlt']
        refine callS_h (c_bgrow (st.n + 1) _ _ _ .nilp (.inl rfl) (by simp only [go_sem, ↓reduceIte]) (by simp only [go_sem, ↓reduceIte] <;> omega) (by omega) (by omega)) ?_
        rintro v h1' n1 hn1 ⟨rfl, ⟨c1, hB1, hc1⟩, hk1⟩
        simp only [go_sem, ↓reduceIte] at hn1
        have hx0 : x.length ≤ sumL zs := by rw [← hxs]; simp only [sumL, List.map_cons, List.sum_cons]; omega
        simp only [go_sem, ↓reduceIte, h0, h1, hz0, hgz, encS]
        refine callS_h (c_wstr (st.n + 1) ⟨#[]⟩ (textOf x) c1 _ _ (hB1.keep (by simp only [go_sem, ↓reduceIte] <;> omega) (by simp only [go_sem, ↓reduceIte]) (fun k _ => by simp only [go_sem, ↓reduceIte])) (by show 0 ≤ _; omega) (by rw [textOf_size]; omega)) ?_
        rintro v h2' n2 hn2 ⟨rfl, ⟨c2, hB2, hc2⟩, hk2⟩
        simp only [go_sem, ↓reduceIte] at hn2
        rw [show (⟨#[]⟩ : ByteArray) ++ textOf x = textOf x by apply ByteArray.ext; simp] at hB2
        have hdr : (zs.map encS).drop 1 = (y :: r).map encS := by rw [← hxs]; rfl
        have htk : (zs.map encS).take zs.length = zs.map encS := List.take_of_length_le (by simp)
        have hz1 : (1 : Int) ≤ (zs.length : Nat) := by omega
        have hjl : joinL sep zs = x ++ (y :: r).flatMap (fun y => sep ++ y) := by rw [← hxs]; rfl
        have hyl : (y :: r).length = zs.length - 1 := by rw [← hxs]; rfl
        have hjlen : (joinL sep zs).length ≤ 200000000000 := by
          rw [hjl, List.length_append, flat_len, hyl]
          have : x.length + sumL (y :: r) = sumL zs := by rw [← hxs]; simp [sumL]
          omega
        simp only [go_sem, ↓reduceIte, h0, h1, hz1, hdr, htk, Int.le_refl]
        generalize st.n + 1 = bb at *
        have l1 : (y :: r).length = r.length + 1 := rfl
        refine AW_while (fun m st => ∃ i c, i + m = r.length + 1 ∧ st.τ 1 = .str (textOf sep) ∧ st.τ 8 = .tptr bb 2 100 ∧ st.τ 63 = .sl 1 ((y :: r).map encS) ∧ st.τ 64 = .int .i64 ((r.length + 1 : Nat) : Int) ∧ st.τ 65 = .int .i64 (i : Nat) ∧ Bld st.h st.n bb (textOf (x ++ ((y :: r).take i).flatMap (fun y => sep ++ y))) c) (r.length + 1) ?_ ?_
        · refine ⟨0, c2, by omega, by simp only [go_sem, ↓reduceIte, h1], by simp only [go_sem, ↓reduceIte], by simp only [go_sem, ↓reduceIte] <;> rfl, by simp only [go_sem, ↓reduceIte] <;> rfl, by simp only [go_sem, ↓reduceIte] <;> rfl, ?_⟩
          rw [List.take_zero, List.flatMap_nil, List.append_nil]
          exact hB2.keep (by simp only [go_sem, ↓reduceIte] <;> omega) (by simp only [go_sem, ↓reduceIte]) (fun k _ => by simp only [go_sem, ↓reduceIte])
        · clear h0 h1 h5 h39 h40 h41 hlt hlt' next hi hk1 hk2 hB1 hB2 hc1 hc2 hn1 hn2
          clear st m i
          rintro m st ⟨i, c, hi, h1, h8, h63, h64, h65, hB⟩ next
          have hpre : (x ++ ((y :: r).take i).flatMap (fun y => sep ++ y)).length ≤ 200000000000 := by
            refine Nat.le_trans ?_ hjlen
            rw [hjl]
            conv => rhs; rw [← List.take_append_drop i (y :: r)]
            simp only [List.length_append, List.flatMap_append]; omega
          by_cases hlt : i < (y :: r).length
          · have hlt' : ((i : Nat) : Int) < ((r.length + 1 : Nat) : Int) := by omega
            have hel : (y :: r)[i].length ≤ 100000000000 := by
              have h1 := sumL_snoc hlt
              have h2 := sumL_le (y :: r) (i + 1)
              have h3 : sumL (y :: r) ≤ sumL zs := by rw [← hxs]; simp only [sumL, List.map_cons, List.sum_cons]; omega
              omega
            have hgd := getD_map_lt encS (y :: r) i .undef hlt
            simp only [List.map_cons] at hgd h63
            replace hgd : (encS y :: List.map encS r).getD i .undef = .str (textOf (y :: r)[i]) := hgd
            simp only [go_sem, ↓reduceIte, h1, h8, h63, h64, h65, hlt', hgd]
            refine callS_h (c_wstr bb _ (textOf sep) c _ _ (hB.keep (by simp only [go_sem, ↓reduceIte] <;> omega) (by simp only [go_sem, ↓reduceIte]) (fun k _ => by simp only [go_sem, ↓reduceIte])) (by rw [textOf_size]; omega) (by rw [textOf_size]; omega)) ?_
            rintro v h1' n1 hn1 ⟨rfl, ⟨c1, hB1, hc1⟩, hk1⟩
            simp only [go_sem, ↓reduceIte] at hn1
            rw [textOf_append] at hB1
            simp only [go_sem, ↓reduceIte, h1, h8, h63, h64, h65]
            refine callS_h (c_wstr bb _ (textOf (y :: r)[i]) c1 _ _ (hB1.keep (by simp only [go_sem, ↓reduceIte] <;> omega) (by simp only [go_sem, ↓reduceIte]) (fun k _ => by simp only [go_sem, ↓reduceIte])) (by rw [textOf_size, List.length_append]; omega) (by rw [textOf_size]; omega)) ?_
            rintro v h2' n2 hn2 ⟨rfl, ⟨c2, hB2, hc2⟩, hk2⟩
            simp only [go_sem, ↓reduceIte] at hn2
            have e : x ++ ((y :: r).take i).flatMap (fun y => sep ++ y) ++ sep ++ (y :: r)[i] = x ++ ((y :: r).take (i + 1)).flatMap (fun y => sep ++ y) := by
              rw [take_snoc hlt, List.flatMap_append, List.flatMap_cons, List.flatMap_nil, List.append_nil]
              simp only [List.append_assoc]
            rw [textOf_append, e] at hB2
            simp only [go_sem, ↓reduceIte, h1, h8, h63, h64, h65]
            refine next (m - 1) _ (by omega) ⟨i + 1, c2, by omega, by simp only [go_sem, ↓reduceIte, h1], by simp only [go_sem, ↓reduceIte, h8], by simp only [go_sem, ↓reduceIte, h63] <;> rfl, by simp only [go_sem, ↓reduceIte, h64], by simp only [go_sem, ↓reduceIte]; rw [wrap64_id (by omega) (by omega)]; rfl, hB2.keep (by simp only [go_sem, ↓reduceIte] <;> omega) (by simp only [go_sem, ↓reduceIte]) (fun k _ => by simp only [go_sem, ↓reduceIte])⟩
          · have hlt' := dec_false (show ¬ ((i : Nat) : Int) < ((r.length + 1 : Nat) : Int) by omega)
            rw [List.take_of_length_le (by omega), ← hjl] at hB
            simp only [go_sem, ↓reduceIte, h1, h8, h63, h64, h65, hlt']
            refine callS_h (c_bstr bb _ c _ _ (hB.keep (by simp only [go_sem, ↓reduceIte] <;> omega) (by simp only [go_sem, ↓reduceIte]) (fun k _ => by simp only [go_sem, ↓reduceIte])) (by rw [textOf_size]; omega)) ?_
            rintro v h' n' hn ⟨rfl, hk⟩
            simp only [go_sem, ↓reduceIte]
            exact .mk (by simp only [go_sem, ↓reduceIte])
end Go.Proofs.YtdbmdaefmlflaaaGreatDoor

set_option linter.unusedVariables false
set_option linter.unusedSimpArgs false
set_option maxRecDepth 10000
namespace Go.Proofs.YtdbmdaefmlflaaaGreatDoor
open Go Go.Ab Go.Num

theorem elt_s : Elt 1 encS := ⟨by omega, fun q => ⟨_, rfl, rfl, rfl, rfl⟩⟩
theorem flat_s (L : List (List UInt8)) : flatC encS L = L.map encS := by
  induction L with
  | nil => rfl
  | cons x l ih => simp only [flatC, List.flatMap_cons, List.map_cons] at ih ⊢; rw [ih]; rfl
def rowT (l : List Rat) : List UInt8 := joinL [44] (l.map txtQ)
theorem txtQ_len {q : Rat} {k : Nat} (h : qw q ≤ k) : (txtQ q).length ≤ 64 * k + 4 := by
  have h1 := decS_len' (wd_dig q.num.natAbs)
  have h2 := decS_len' (wd_dig q.den)
  rw [val_dig] at h1 h2
  have hz : (txtZ q.num).length ≤ (decS q.num.natAbs).length + 1 := by
    unfold txtZ
    split
    · simp only [List.length_cons]; omega
    · omega
  unfold qw at h
  unfold txtQ
  split
  · omega
  · simp only [List.length_append, List.length_cons]; omega
theorem sumL_txt {k : Nat} : ∀ {l : List Rat}, (∀ q ∈ l, qw q ≤ k) → sumL (l.map txtQ) ≤ l.length * (64 * k + 4)
  | [], _ => by simp [sumL]
  | q :: l, h => by
    have h1 := txtQ_len (h q (List.mem_cons_self ..))
    have h2 := sumL_txt (l := l) fun q hq => h q (List.mem_cons_of_mem _ hq)
    simp only [sumL, List.map_cons, List.sum_cons, List.length_cons, Nat.succ_mul] at h2 ⊢
    omega

set_option maxHeartbeats 1000000 in
theorem c_rtext (l : List Rat) (hl : l.length ≤ 1000) (hq : ∀ q ∈ l, qw q ≤ 20000) : PCalls Tryz.prog 14 [.sl 3 (l.map encQ)] (.str (textOf (rowT l))) := by
  have hsum : sumL (l.map txtQ) ≤ 100000000000 := by
    have h1 := sumL_txt hq
    have h2 := Nat.mul_le_mul hl (show 64 * 20000 + 4 ≤ 1280004 by omega)
    omega
  have hj := c_join [44] (l.map txtQ) (by simp; omega) (by decide) hsum
  rw [show joinL [44] (l.map txtQ) = rowT l from rfl, show textOf [44] = (⟨#[44]⟩ : ByteArray) from rfl] at hj
  refine pcalls_of_AW (pa := []) (fn := Tryz.f14) (ts := [2]) follows_mixed Tryz.func14 rfl rfl (by kernel_rfl) (by kernel_rfl) (by rw [Tryz.ntmps14]; simp) ?_
  simp only [go_sem, ↓reduceIte]
  refine AW_while (fun m st => ∃ i, i + m = l.length ∧ st.τ 6 = .sl 3 (l.map encQ) ∧ st.τ 7 = .int .i64 l.length ∧ st.τ 8 = .int .i64 (i : Nat) ∧ Acc 1 encS st (st.τ 3) ((l.take i).map txtQ)) l.length ?_ ?_
  · exact ⟨0, by omega, by simp only [go_sem, ↓reduceIte], by simp only [go_sem, ↓reduceIte], by simp only [go_sem, ↓reduceIte] <;> rfl, .inl ⟨by simp, by simp only [go_sem, ↓reduceIte]⟩⟩
  · rintro m st ⟨i, hi, h6, h7, h8, hacc⟩ next
    by_cases hlt : i < l.length
    · have hlt' : ((i : Nat) : Int) < (l.length : Nat) := by omega
      have hc := c_ftext (cq l[i]) (okR_cq (hq _ (List.getElem_mem hlt)))
      rw [rv_cq] at hc
      simp only [go_sem, ↓reduceIte, h6, h7, h8, hlt', getD_map_lt _ _ _ _ hlt, encQ, encR, encW]
      refine callS_p hc ?_
      have hl1 : (flatC encS ((l.take i).map txtQ)).length = i := by rw [flat_s]; simp; omega
      have hi38 : i ≤ 274877906944 := by omega
      have htk : ((l.take i).map txtQ).length = i := by simp; omega
      have htk1 : ((l.take (i + 1)).map txtQ).length = i + 1 := by simp; omega
      rcases hacc with ⟨hnil, h3⟩ | ⟨b, h3, hb, hbn⟩
      · have hi0 : i = 0 := by rw [hnil] at htk; simp at htk; omega
        subst hi0
        simp only [go_sem, ↓reduceIte, h3, h6, h7, h8, hlt']
        refine next (m - 1) _ (by omega) ⟨1, by omega, by simp only [go_sem, ↓reduceIte, h6], by simp only [go_sem, ↓reduceIte, h7], by simp only [go_sem, ↓reduceIte] <;> rfl, .inr ⟨_, by rw [htk1]; simp only [go_sem, ↓reduceIte] <;> rfl, by rw [map_take_snoc txtQ hlt, flatC_snoc, hnil]; simp only [go_sem, ↓reduceIte, flatC_nil, encS] <;> rfl, by simp only [go_sem, ↓reduceIte] <;> omega⟩⟩
      · rw [htk] at h3
        simp only [go_sem, ↓reduceIte, h3, h6, h7, h8, hlt', hb, hl1, hi38, upd1_old _ _ _ _ _ hbn, old_ne hbn, new_ne hbn]
        refine next (m - 1) _ (by omega) ⟨i + 1, by omega, by simp only [go_sem, ↓reduceIte, h6], by simp only [go_sem, ↓reduceIte, h7], by simp only [go_sem, ↓reduceIte]; rw [wrap64_id (by omega) (by omega)]; rfl, .inr ⟨_, by rw [htk1]; simp only [go_sem, ↓reduceIte] <;> rfl, by rw [map_take_snoc txtQ hlt, flatC_snoc]; simp only [go_sem, ↓reduceIte, List.take_of_length_le (Nat.le_of_eq hl1), encS] <;> rfl, by simp only [go_sem, ↓reduceIte] <;> omega⟩⟩
    · have hlt' := dec_false (show ¬ ((i : Nat) : Int) < (l.length : Nat) by omega)
      rw [List.take_of_length_le (by omega)] at hacc
      rcases hacc with ⟨hnil, h3⟩ | ⟨b, h3, hb, hbn⟩
      · rw [hnil] at hj
        simp only [go_sem, ↓reduceIte, h3, h6, h7, h8, hlt']
        refine callS_p (hj.args_le (.cons (AV.le_nil 1) (LeL.refl _))) ?_
        simp only [go_sem, ↓reduceIte]
        exact .mk (by simp only [go_sem, ↓reduceIte])
      · have hll : (l.map txtQ).length = l.length := by simp
        have hfz := frz1_flatC elt_s (h := st.h) hb
        rw [hll] at hfz
        simp only [go_sem, ↓reduceIte, h3, h6, h7, h8, hlt']
        refine callS_q (ids' := [b]) hj ?_ ?_ ?_
        · skip
          exact congrArg (fun z => [z, AV.str ⟨#[44]⟩]) hfz
        · rfl
        · simp only [go_sem, ↓reduceIte]
          exact .mk (by simp only [go_sem, ↓reduceIte])
end Go.Proofs.YtdbmdaefmlflaaaGreatDoor

set_option linter.unusedVariables false
set_option linter.unusedSimpArgs false
set_option maxRecDepth 10000
namespace Go.Proofs.YtdbmdaefmlflaaaGreatDoor
open Go Go.Ab Go.Num

def f0 : Fr := ⟨false, [], []⟩
def exT : Tp := ⟨[⟨3, 0, 0, f0⟩, ⟨2, 0, 0, f0⟩, ⟨10, 0, 1, f0⟩], [2], 1, 0⟩
theorem exT_wrong : wrongI exT = -1 := by decide
theorem ex_quo : quoO 6 2 = some 3 := by
  have h0 : ¬ (2 : Rat) = 0 := by decide
  have h6 : (3 : Rat) * 2 = 6 := by decide +kernel
  rw [quoO, if_neg h0, ← h6, Rat.mul_div_cancel h0]
theorem ex_fit : fitQ 100 6 = true ∧ fitQ 100 2 = true ∧ fitQ 100 3 = true := by
  simp only [fitQ, fsz, cq, val_dig]
  decide
theorem ex_run : runT exT 2 [6] [] (clampB 100) = ([6, 2, 3], 0, 0) := by
  have hq : stepQ 2 [6] [] ⟨10, 0, 1, f0⟩ [6, 2] = some 3 := ex_quo
  have h1 : stepQ 2 [6] [] ⟨3, 0, 0, f0⟩ [] = some 6 := rfl
  have h2 : stepQ 2 [6] [] ⟨2, 0, 0, f0⟩ [6] = some 2 := rfl
  obtain ⟨f6, f2, f3⟩ := ex_fit
  rw [runT, if_pos ⟨exT_wrong, rfl, rfl⟩, show clampB 100 = 100 from rfl]
  simp only [exT, runL, h1, f6, if_true, List.nil_append, h2, f2, List.cons_append, hq, f3]
theorem ex_pole : runT exT 0 [6] [] (clampB 100) = ([], 3, 2) := by
  have hq : stepQ 0 [6] [] ⟨10, 0, 1, f0⟩ [6, 0] = none := rfl
  have h1 : stepQ 0 [6] [] ⟨3, 0, 0, f0⟩ [] = some 6 := rfl
  have h2 : stepQ 0 [6] [] ⟨2, 0, 0, f0⟩ [6] = some 0 := rfl
  have f0' : fitQ 100 0 = true := by
    simp only [fitQ, fsz, cq, val_dig]
    decide
  obtain ⟨f6, f2, f3⟩ := ex_fit
  rw [runT, if_pos ⟨exT_wrong, rfl, rfl⟩, show clampB 100 = 100 from rfl]
  simp only [exT, runL, h1, f6, if_true, List.nil_append, h2, f0', List.cons_append, hq]
  rfl
theorem ex_text : textOf (rowT [6, 2, 3]) = ⟨#[54, 44, 50, 44, 51]⟩ := by
  have d : ∀ n, n < 10 → decS n = [dig8 n] := fun n h => by rw [decS, dif_pos h]
  have e : ∀ n : Nat, n < 10 → txtQ ((n : Int) : Rat) = [dig8 n] := fun n h => by
    rw [txtQ, if_pos (Rat.den_intCast _), txtZ, Rat.num_intCast, if_neg (by omega), Int.natAbs_natCast, d n h]
  have e6 := e 6 (by omega)
  have e2 := e 2 (by omega)
  have e3 := e 3 (by omega)
  have h6 : (((6 : Nat) : Int) : Rat) = 6 := rfl
  have h2 : (((2 : Nat) : Int) : Rat) = 2 := rfl
  have h3 : (((3 : Nat) : Int) : Rat) = 3 := rfl
  rw [h6] at e6; rw [h2] at e2; rw [h3] at e3
  simp only [rowT, List.map_cons, List.map_nil, e6, e2, e3, joinL]
  rfl
end Go.Proofs.YtdbmdaefmlflaaaGreatDoor

set_option linter.unusedVariables false
set_option linter.unusedSimpArgs false
set_option maxRecDepth 10000
namespace Go.Proofs.YtdbmdaefmlflaaaGreatDoor
open Go Go.Ab Go.Num

/-- The example's tape, as it is built. -/
def exI (op a b : Int) : AV := .agg [.int .i64 op, .int .i64 a, .int .i64 b, .bool false, .nilsl, .nilsl]
theorem exI_le (op a b : Int) : LeL [.int .i64 op, .int .i64 a, .int .i64 b, .bool false, .nilsl, .nilsl] [.int .i64 op, .int .i64 a, .int .i64 b, .bool false, encW [], encW []] :=
  .cons (AV.le_refl _) (.cons (AV.le_refl _) (.cons (AV.le_refl _) (.cons (AV.le_refl _) (.cons (AV.le_nil 1) (.cons (AV.le_nil 1) .nil)))))
theorem exT_le : (AV.agg [.sl 6 [exI 3 0 0, exI 2 0 0, exI 10 0 1], .sl 1 [.int .i64 2], .int .i64 1, .int .i64 0]).le (encT exT) := by
  refine AV.le_agg' (.cons (AV.le_sl rfl fun i x y hx hy => ?_) (.cons (AV.le_refl _) (.cons (AV.le_refl _) (.cons (AV.le_refl _) .nil))))
  match i with
  | 0 => cases hx; cases hy; exact ⟨_, _, rfl, rfl, exI_le 3 0 0, rfl⟩
  | 1 => cases hx; cases hy; exact ⟨_, _, rfl, rfl, exI_le 2 0 0, rfl⟩
  | 2 => cases hx; cases hy; exact ⟨_, _, rfl, rfl, exI_le 10 0 1, rfl⟩
  | i + 3 => simp at hx
theorem exT_ok : okT exT := ⟨fun i hi => by
  have : i.n = f0 := by
    simp only [exT, List.mem_cons, List.not_mem_nil, or_false] at hi
    rcases hi with rfl | rfl | rfl <;> rfl
  rw [this]
  exact ⟨.nil, .nil, Nat.zero_le _, Nat.zero_le _⟩, by decide, by decide⟩
theorem qw_int {n : Nat} (h : n < 4294967296) : qw ((n : Int) : Rat) ≤ 1 := by
  unfold qw
  rw [Rat.num_intCast, Rat.den_intCast, Int.natAbs_natCast]
  have h1 : (dig n).length ≤ 1 := dig_len_le.2 (by rw [Nat.pow_one, B_eq]; exact h)
  have h2 : (dig 1).length ≤ 1 := dig_len_le.2 (by decide)
  omega
/-- The example's tape at a moment, at 6. -/
theorem ex_tape (q : Rat) (hq : qw q ≤ 1) (P : AV) (hP : P = .nilsl) : PCalls Tryz.prog 9 [.agg [.sl 6 [exI 3 0 0, exI 2 0 0, exI 10 0 1], .sl 1 [.int .i64 2], .int .i64 1, .int .i64 0], .agg [.bool (cq q).neg, encW (cq q).n, encW (cq q).d, .sl 3 [encQ 6], P], .int .i64 100] (vT (runT exT q [6] [] (clampB 100))) := by
  subst hP
  have h6 : qw (6 : Rat) ≤ 1 := qw_int (n := 6) (by omega)
  have hc := c_tape exT ⟨cq q, [cq 6], []⟩ 100 exT_ok ⟨okR_cq (by omega), fun f hf => by
    simp only [List.mem_singleton] at hf; subst hf; exact okR_cq (by omega), fun f hf => by simp at hf, by simp, by simp⟩
  simp only [rv_cq, List.map_cons, List.map_nil] at hc
  refine hc.args_le (.cons exT_le (.cons (AV.le_agg' (.cons (AV.le_refl _) (.cons (AV.le_refl _) (.cons (AV.le_refl _) (.cons (AV.le_refl _) (.cons (AV.le_nil 3) .nil)))))) (LeL.refl _)))

theorem fof6 : PCalls Tryz.prog 13 [.int .i64 6] (encQ 6) := c_fof 6 (by omega) (by omega)
theorem fof2 : PCalls Tryz.prog 13 [.int .i64 2] (encQ 2) := c_fof 2 (by omega) (by omega)
/-- .. and without a moment. -/
theorem ex_tape0 : PCalls Tryz.prog 9 [.agg [.sl 6 [exI 3 0 0, exI 2 0 0, exI 10 0 1], .sl 1 [.int .i64 2], .int .i64 1, .int .i64 0], .agg [.bool false, .nilsl, .nilsl, .sl 3 [encQ 6], .nilsl], .int .i64 100] (vT (runT exT 0 [6] [] (clampB 100))) := by
  have h6 : qw (6 : Rat) ≤ 1 := qw_int (n := 6) (by omega)
  have hc := c_tape exT ⟨f0, [cq 6], []⟩ 100 exT_ok ⟨⟨.nil, .nil, Nat.zero_le _, Nat.zero_le _⟩, fun f hf => by
    simp only [List.mem_singleton] at hf; subst hf; exact okR_cq (by omega), fun f hf => by simp at hf, by simp, by simp⟩
  have e0 : rv f0 = 0 := by simp [rv, f0, val]
  simp only [rv_cq, List.map_cons, List.map_nil, e0] at hc
  refine hc.args_le (.cons exT_le (.cons (AV.le_agg' (.cons (AV.le_refl _) (.cons (AV.le_nil 1) (.cons (AV.le_nil 1) (.cons (AV.le_refl _) (.cons (AV.le_nil 3) .nil)))))) (LeL.refl _)))
theorem ex_rtext : PCalls Tryz.prog 14 [.sl 3 [encQ 6, encQ 2, encQ 3]] (.str ⟨#[54, 44, 50, 44, 51]⟩) := by
  have h6 : qw (6 : Rat) ≤ 1 := qw_int (n := 6) (by omega)
  have h2 : qw (2 : Rat) ≤ 1 := qw_int (n := 2) (by omega)
  have h3 : qw (3 : Rat) ≤ 1 := qw_int (n := 3) (by omega)
  have h := c_rtext [6, 2, 3] (by simp) (fun q hq => by
    simp only [List.mem_cons, List.not_mem_nil, or_false] at hq
    rcases hq with rfl | rfl | rfl <;> omega)
  rw [ex_text] at h
  exact h
set_option maxHeartbeats 1000000 in
theorem c_works : PCalls Tryz.prog 6 [] (.bool true) := by
  have h2 := ex_tape 2 (qw_int (n := 2) (by omega)) .nilsl rfl
  have h0 := ex_tape0
  have h3 := ex_rtext
  rw [ex_run] at h2
  rw [ex_pole] at h0
  simp only [vT, encF, List.map_cons, List.map_nil, encQ, encR, encW, exI] at h2 h0 h3
  refine pcalls_of_AW (pa := [10, 11, 14]) (fn := Tryz.f6) (ts := [0]) follows_mixed Tryz.func6 rfl rfl (by kernel_rfl) (by kernel_rfl) (by rw [Tryz.ntmps6]; simp) ?_
  simp only [go_sem, ↓reduceIte]
  refine callS_p fof6 ?_
  simp only [go_sem, ↓reduceIte, encQ, encR, encW]
  refine callD_p fof2 ?_
  simp only [go_sem, ↓reduceIte, encQ, encR, encW]
  refine callD_p h2 ?_
  simp only [go_sem, ↓reduceIte, encQ, encR, encW]
  refine callS_p h0 ?_
  simp only [go_sem, ↓reduceIte, encQ, encR, encW]
  refine callS_p h3 ?_
  have hs : ((⟨#[54, 44, 50, 44, 51]⟩ : ByteArray).toList == (⟨#[54, 44, 50, 44, 51]⟩ : ByteArray).toList) = true := beq_self_eq_true _
  simp only [go_sem, ↓reduceIte, astrop, hs]
  exact .mk (by simp only [go_sem, ↓reduceIte])
end Go.Proofs.YtdbmdaefmlflaaaGreatDoor

set_option linter.unusedVariables false
set_option linter.unusedSimpArgs false
set_option maxRecDepth 10000
namespace Go.Proofs.YtdbmdaefmlflaaaGreatDoor
open Go Go.Ab Go.Num

/-- A tape's first instructions, with outs that are all its first place. -/
def cutT (t : Tp) (n : Nat) : Tp := ⟨t.code.take n, List.replicate t.outs.length 0, t.dim, t.par⟩
theorem mayB_cut (t : Tp) (n : Nat) (i : Ins) (k : Nat) : mayB (cutT t n) i k = mayB t i k := rfl
theorem badI_cut (t : Tp) (n : Nat) : ∀ (l : List Ins) (k : Nat), badI (cutT t n) l k = badI t l k
  | [], k => rfl
  | i :: r, k => by rw [badI, badI, mayB_cut, badI_cut t n r (k + 1)]
theorem badI_take (t : Tp) : ∀ (l : List Ins) (k n : Nat), badI t l k = none → badI t (l.take n) k = none
  | [], k, n, h => by simp [badI]
  | i :: r, k, 0, h => rfl
  | i :: r, k, n + 1, h => by
    rw [badI] at h
    by_cases hm : mayB t i k = true
    · rw [if_pos hm] at h
      rw [List.take_succ_cons, badI, if_pos hm]
      exact badI_take t r (k + 1) n h
    · rw [if_neg hm] at h; cases h
theorem cut_right {t : Tp} {n : Nat} (hn : 1 ≤ n) (hl : n ≤ t.code.length) (h : wrongI t = -1) : wrongI (cutT t n) = -1 := by
  obtain ⟨h1, h2, h3⟩ := wrong_eq.1 h
  refine wrong_eq.2 ⟨?_, ?_, ?_⟩
  · simp only [wholeB, cutT, List.length_replicate, List.length_take, Bool.and_eq_true, decide_eq_true_eq] at h1 ⊢
    exact ⟨h1.1, h1.2.1, h1.2.2.1, by omega⟩
  · rw [badI_cut]; exact badI_take t _ _ _ h2
  · rw [List.all_eq_true]
    intro o ho
    have ho0 := List.eq_of_mem_replicate ho
    subst ho0
    exact belowB_iff.2 ⟨by omega, by simp only [cutT, List.length_take]; omega⟩
theorem cut_ok {t : Tp} {n : Nat} (h : okT t) : okT (cutT t n) := ⟨fun i hi => h.code i (List.mem_of_mem_take hi), h.lo, h.hi⟩

theorem runL_take (T : Rat) (Y P : List Rat) (l : Int) : ∀ (c : List Ins) (D : List Rat) (n : Nat),
    ((runL T Y P l c D).2.1 = 0 → (runL T Y P l c D).2.2 = 0 ∧ (runL T Y P l c D).1.length = D.length + c.length ∧ runL T Y P l (c.take n) D = ((runL T Y P l c D).1.take (D.length + n), 0, 0)) ∧
    ((runL T Y P l c D).2.1 ≠ 0 → ((runL T Y P l c D).2.1 = 3 ∨ (runL T Y P l c D).2.1 = 6) ∧ (D.length : Int) ≤ (runL T Y P l c D).2.2 ∧
      ((runL T Y P l c D).2.2 < D.length + n → runL T Y P l (c.take n) D = runL T Y P l c D) ∧ ((D.length : Int) + n ≤ (runL T Y P l c D).2.2 → (runL T Y P l (c.take n) D).2 = (0, 0)))
  | [], D, n => by
    simp only [List.take_nil, runL]
    refine ⟨fun _ => ⟨trivial, by simp, ?_⟩, fun h => by simp at h⟩
    rw [List.take_of_length_le (by omega)]
  | i :: r, D, n => by
    cases e : stepQ T Y P i D with
    | none =>
      have e1 : runL T Y P l (i :: r) D = ([], 3, (D.length : Int)) := by simp only [runL, e]
      rw [e1]
      refine ⟨fun h => by simp at h, fun _ => ⟨.inl rfl, Int.le_refl _, fun h => ?_, fun h => ?_⟩⟩
      · cases n with
        | zero => simp only at h; omega
        | succ n => rw [List.take_succ_cons]; simp only [runL, e]
      · cases n with
        | zero => rfl
        | succ n => simp only at h; omega
    | some q =>
      by_cases hf : fitQ l q = true
      · have e1 : ∀ r, runL T Y P l (i :: r) D = runL T Y P l r (D ++ [q]) := fun r => by simp only [runL, e, if_pos hf]
        rw [e1]
        cases n with
        | zero =>
          obtain ⟨h1, h2⟩ := runL_take T Y P l r (D ++ [q]) 0
          simp only [List.length_append, List.length_singleton, List.take_zero, runL] at h1 h2 ⊢
          refine ⟨fun h => ?_, fun h => ?_⟩
          · obtain ⟨a1, a2, a3⟩ := h1 h
            refine ⟨a1, by rw [a2, List.length_cons]; omega, ?_⟩
            have a4 : D ++ [q] = (runL T Y P l r (D ++ [q])).1.take (D.length + 1 + 0) := congrArg Prod.fst a3
            have a5 := congrArg (List.take D.length) a4
            rw [List.take_left, List.take_take, show min D.length (D.length + 1 + 0) = D.length + 0 by omega] at a5
            exact Prod.ext a5 rfl
          · obtain ⟨a1, a2, _, _⟩ := h2 h
            refine ⟨a1, by omega, fun h => by omega, fun _ => trivial⟩
        | succ n =>
          rw [List.take_succ_cons, e1]
          obtain ⟨h1, h2⟩ := runL_take T Y P l r (D ++ [q]) n
          simp only [List.length_append, List.length_singleton] at h1 h2
          refine ⟨fun h => ?_, fun h => ?_⟩
          · obtain ⟨a1, a2, a3⟩ := h1 h
            refine ⟨a1, by rw [a2, List.length_cons]; omega, ?_⟩
            rw [a3, show D.length + 1 + n = D.length + (n + 1) by omega]
          · obtain ⟨a1, a2, a3, a4⟩ := h2 h
            refine ⟨a1, by omega, fun h => a3 (by omega), fun h => a4 (by omega)⟩
      · have e1 : ∀ r, runL T Y P l (i :: r) D = ([], 6, (D.length : Int)) := fun r => by simp only [runL, e, if_neg hf]
        rw [e1]
        refine ⟨fun h => by simp at h, fun _ => ⟨.inr rfl, Int.le_refl _, fun h => ?_, fun h => ?_⟩⟩
        · cases n with
          | zero => simp only at h; omega
          | succ n => rw [List.take_succ_cons, e1]
        · cases n with
          | zero => rfl
          | succ n => simp only at h; omega

theorem runL_size (T : Rat) (Y P : List Rat) (l : Int) (hl : l ≤ 4096) : ∀ (c : List Ins) (D : List Rat), (∀ q ∈ D, qw q ≤ 200) → ∀ q ∈ (runL T Y P l c D).1, qw q ≤ 200
  | [], D, h => h
  | i :: r, D, h => by
    rw [runL]
    cases e : stepQ T Y P i D with
    | none => intro q hq; simp at hq
    | some q =>
      by_cases hf : fitQ l q = true
      · simp only [if_pos hf]
        refine runL_size T Y P l hl r _ fun x hx => ?_
        rcases List.mem_append.1 hx with hx | hx
        · exact h x hx
        · rw [List.mem_singleton] at hx; subst hx; exact fit_size hl hf
      · simp only [if_neg hf]; intro q hq; simp at hq
theorem runT_size (t : Tp) (T : Rat) (Y P : List Rat) {l : Int} (hl : l ≤ 4096) : ∀ q ∈ (runT t T Y P l).1, qw q ≤ 200 := by
  unfold runT
  split
  · exact runL_size T Y P l hl _ _ (fun q hq => by simp at hq)
  · intro q hq; simp at hq

/-- What the law asks of both runs. -/
def aheadB (r s : List Rat × Int × Int) (n : Nat) : Prop :=
  r.2.1 ≠ 2 → ((r.2 ≠ (0, 0) → (r.2.2 < n ∧ s.2 = r.2) ∨ ((n : Int) ≤ r.2.2 ∧ s.2 = (0, 0))) ∧ (r.2 = (0, 0) → s.2 = (0, 0) ∧ n ≤ r.1.length ∧ s.1 = r.1.take n))
theorem ahead_holds (t : Tp) (T : Rat) (Y P : List Rat) (l : Int) {n : Nat} (hn : 1 ≤ n) (hl : n ≤ t.code.length) : aheadB (runT t T Y P l) (runT (cutT t n) T Y P l) n := by
  intro hk
  by_cases hw : wrongI t = -1 ∧ (Y.length : Int) = t.dim ∧ (P.length : Int) = t.par
  · have e1 : runT t T Y P l = runL T Y P l t.code [] := by rw [runT, if_pos hw]
    have e2 : runT (cutT t n) T Y P l = runL T Y P l (t.code.take n) [] := by
      rw [runT, if_pos ⟨cut_right hn hl hw.1, hw.2⟩]; rfl
    rw [e1] at hk ⊢
    rw [e2]
    obtain ⟨h1, h2⟩ := runL_take T Y P l t.code [] n
    simp only [List.length_nil, Nat.zero_add] at h1 h2
    by_cases h0 : (runL T Y P l t.code []).2.1 = 0
    · obtain ⟨a1, a2, a3⟩ := h1 h0
      refine ⟨fun h => absurd (Prod.ext h0 a1) h, fun _ => ⟨by rw [a3], by rw [a2]; exact hl, by rw [a3]⟩⟩
    · obtain ⟨a1, a2, a3, a4⟩ := h2 h0
      refine ⟨fun _ => ?_, fun h => absurd (congrArg Prod.fst h) h0⟩
      by_cases hlt : (runL T Y P l t.code []).2.2 < (n : Int)
      · exact .inl ⟨hlt, by rw [a3 (by omega)]⟩
      · exact .inr ⟨by omega, a4 (by omega)⟩
  · rw [runT, if_neg hw] at hk
    exact absurd rfl hk
end Go.Proofs.YtdbmdaefmlflaaaGreatDoor

set_option linter.unusedVariables false
set_option linter.unusedSimpArgs false
set_option maxRecDepth 10000
namespace Go.Proofs.YtdbmdaefmlflaaaGreatDoor
open Go.ChangeShapes Go.WideShapes Go.ChangeAt Go.RowKit Go.Ab Go.Num

def wdR (f : Fr) : Prop := Wd f.n ∧ Wd f.d
def wdP (a : Pt) : Prop := wdR a.t ∧ (∀ f ∈ a.y, wdR f) ∧ ∀ f ∈ a.p, wdR f
theorem readsW (W : World) : Reads Tryz.prog W 26 (fun l : List Nat => AV.sl 1 (l.map fun x : Nat => .int .u32 (x : Int))) (fun l => ∀ a ∈ l, a < 4294967296) :=
  reads_slice (reads_u32 Tryz.underlying92 (cellsOf_eq ts_92)) Tryz.underlying26 (cellsOf_eq ts_92) (by omega) (cellsOf_eq ts_26)
theorem readsJ (W : World) : Reads Tryz.prog W 3 (fun n : Int => .int .i64 n) (fun n => (Lit.int .i64 n).wf = true) := reads_int Tryz.underlying3 (cellsOf_eq ts_3)
theorem wf64 {n : Int} (h : (Lit.int .i64 n).wf = true) : -9223372036854775808 ≤ n ∧ n ≤ 9223372036854775807 := by
  simpa [Lit.wf, IntKind.min, IntKind.max, IntKind.signed, IntKind.bits] using h
theorem readsIs (W : World) : Reads Tryz.prog W 23 (fun l : List Int => AV.sl 1 (l.map i64)) (fun l => ∀ a ∈ l, (Lit.int .i64 a).wf = true) :=
  reads_slice (readsJ W) Tryz.underlying23 (cellsOf_eq ts_3) (by omega) (cellsOf_eq ts_23)
theorem readsFr (W : World) : Reads Tryz.prog W 28 encR wdR :=
  (readsC_st (Qs := [QR (fun b => .bool b) (fun _ => True), QR (fun l : List Nat => AV.sl 1 (l.map fun x : Nat => .int .u32 (x : Int))) (fun l => ∀ a ∈ l, a < 4294967296), QR (fun l : List Nat => AV.sl 1 (l.map fun x : Nat => .int .u32 (x : Int))) (fun l => ∀ a ∈ l, a < 4294967296)]) Tryz.underlying28 (by kernel_rfl)
    ⟨(reads_bool Tryz.underlying4 (cellsOf_eq ts_4)).toC, (readsW W).toC, (readsW W).toC, trivial⟩).toReads encR _ (by
    rintro ys ⟨a, b, rfl, ⟨s, _, hs⟩, c, d, rfl, ⟨l, hl, hc⟩, e, f, rfl, ⟨m, hm, he⟩, rfl⟩
    cases hs; cases hc; cases he
    exact ⟨⟨s, l, m⟩, ⟨hl, hm⟩, rfl⟩)
theorem readsFrs (W : World) : Reads Tryz.prog W 29 (fun l : List Fr => AV.sl 3 (l.map encR)) (fun l => ∀ f ∈ l, wdR f) :=
  reads_slice (readsFr W) Tryz.underlying29 (cellsOf_eq ts_28) (by omega) (cellsOf_eq ts_29)
theorem readsPt (W : World) : ReadsC Tryz.prog W 31 (QR encPt wdP) := fun H enc base sp held fuel cs x h => by
  obtain ⟨ys, ⟨a, b, rfl, ⟨f, hf, ha⟩, c, d, rfl, ⟨l, hl, hc⟩, e, g, rfl, ⟨m, hm, he⟩, rfl⟩, hr⟩ := readsC_st (P := Tryz.prog) (w := W) (Qs := [QR encR wdR, QR (fun l : List Fr => AV.sl 3 (l.map encR)) (fun l => ∀ f ∈ l, wdR f), QR (fun l : List Fr => AV.sl 3 (l.map encR)) (fun l => ∀ f ∈ l, wdR f)]) Tryz.underlying31 (by kernel_rfl)
    ⟨(readsFr W).toC, (readsFrs W).toC, (readsFrs W).toC, trivial⟩ H enc base sp held fuel cs x h
  cases ha; cases hc; cases he
  exact ⟨_, ⟨⟨f, l, m⟩, ⟨hf, hl, hm⟩, rfl⟩, hr⟩
end Go.Proofs.YtdbmdaefmlflaaaGreatDoor

set_option linter.unusedVariables false
set_option linter.unusedSimpArgs false
set_option maxRecDepth 10000
namespace Go.Proofs.YtdbmdaefmlflaaaGreatDoor
open Go.ChangeShapes Go.WideShapes Go.ChangeAt Go.RowKit Go.Ab Go.Num

def wdT (t : Tp) : Prop := (∀ i ∈ t.code, wdR i.n) ∧ -9223372036854775808 ≤ t.dim ∧ t.dim ≤ 9223372036854775807
theorem readsIn (W : World) : Reads Tryz.prog W 55 encI (fun i => wdR i.n) :=
  (readsC_st (Qs := [QR (fun n : Int => .int .i64 n) (fun n => (Lit.int .i64 n).wf = true), QR (fun n : Int => .int .i64 n) (fun n => (Lit.int .i64 n).wf = true), QR (fun n : Int => .int .i64 n) (fun n => (Lit.int .i64 n).wf = true), QR encR wdR]) Tryz.underlying55 (by kernel_rfl)
    ⟨(readsJ W).toC, (readsJ W).toC, (readsJ W).toC, (readsFr W).toC, trivial⟩).toReads encI _ (by
    rintro ys ⟨a, b, rfl, ⟨o, _, hs⟩, c, d, rfl, ⟨i, _, hc⟩, e, f, rfl, ⟨j, _, he⟩, g, k, rfl, ⟨r, hr, hg⟩, rfl⟩
    cases hs; cases hc; cases he; cases hg
    exact ⟨⟨o, i, j, r⟩, hr, rfl⟩)
theorem readsIns (W : World) : Reads Tryz.prog W 22 (fun l : List Ins => AV.sl 6 (l.map encI)) (fun l => ∀ i ∈ l, wdR i.n) :=
  reads_slice (readsIn W) Tryz.underlying22 (cellsOf_eq ts_55) (by omega) (cellsOf_eq ts_22)
theorem readsTp (W : World) : ReadsC Tryz.prog W 25 (QR encT wdT) := fun H enc base sp held fuel cs x h => by
  obtain ⟨ys, ⟨a, b, rfl, ⟨l, hl, ha⟩, c, d, rfl, ⟨o, ho, hc⟩, e, g, rfl, ⟨m, hm, he⟩, i, j, rfl, ⟨p, hp, hi⟩, rfl⟩, hr⟩ := readsC_st (P := Tryz.prog) (w := W) (Qs := [QR (fun l : List Ins => AV.sl 6 (l.map encI)) (fun l => ∀ i ∈ l, wdR i.n), QR (fun l : List Int => AV.sl 1 (l.map i64)) (fun l => ∀ a ∈ l, (Lit.int .i64 a).wf = true), QR (fun n : Int => .int .i64 n) (fun n => (Lit.int .i64 n).wf = true), QR (fun n : Int => .int .i64 n) (fun n => (Lit.int .i64 n).wf = true)]) Tryz.underlying25 (by kernel_rfl)
    ⟨(readsIns W).toC, (readsIs W).toC, (readsJ W).toC, (readsJ W).toC, trivial⟩ H enc base sp held fuel cs x h
  cases ha; cases hc; cases he; cases hi
  exact ⟨_, ⟨⟨l, o, m, p⟩, ⟨hl, (wf64 hm).1, (wf64 hm).2⟩, rfl⟩, hr⟩
end Go.Proofs.YtdbmdaefmlflaaaGreatDoor

set_option linter.unusedVariables false
set_option linter.unusedSimpArgs false
set_option maxRecDepth 10000
namespace Go.Proofs.YtdbmdaefmlflaaaGreatDoor
open Go Go.Ab Go.Num


theorem longR_ok {f : Fr} {k : Nat} (h : longR f k = false) (hw : wdR f) : okR k f := by
  simp only [longR, Bool.or_eq_false_iff, decide_eq_false_iff_not] at h
  exact ⟨hw.1, hw.2, by omega, by omega⟩
theorem longRow_ok {l : List Fr} {m k : Nat} (h : longRow l m k = false) (hw : ∀ f ∈ l, wdR f) : l.length ≤ m ∧ ∀ f ∈ l, okR k f := by
  simp only [longRow, Bool.or_eq_false_iff, decide_eq_false_iff_not, Int.toNat_natCast] at h
  have hl : l.length ≤ m := by omega
  rw [List.take_of_length_le hl] at h
  refine ⟨hl, fun f hf => longR_ok (by simpa using List.any_eq_false.1 h.1 f hf) (hw f hf)⟩
theorem longP_ok {a : Pt} {m k : Nat} (h : longP a m k = false) (hw : wdP a) (hm : m ≤ 100000) : okP k a := by
  simp only [longP, Bool.or_eq_false_iff] at h
  obtain ⟨h1, h2⟩ := longRow_ok h.2.1 hw.2.1
  obtain ⟨h3, h4⟩ := longRow_ok h.2.2 hw.2.2
  exact ⟨longR_ok h.1 hw.1, h2, h4, by omega, by omega⟩
theorem longT_ok {t : Tp} {m k : Nat} (h : longT t m k = false) (hw : wdT t) (hk : k ≤ 80000) : okT t ∧ t.code.length ≤ m ∧ t.outs.length ≤ m := by
  simp only [longT, Bool.or_eq_false_iff, decide_eq_false_iff_not, Int.toNat_natCast] at h
  have hl : t.code.length ≤ m := by omega
  rw [List.take_of_length_le hl] at h
  exact ⟨⟨fun i hi => (longR_ok (by simpa using List.any_eq_false.1 h.1 i hi) (hw.1 i hi)).mono hk, hw.2.1, hw.2.2⟩, hl, by omega⟩

theorem rep_i64 : ∀ l, repCells l [.int .i64 0] = (List.replicate l 0).map i64
  | 0 => rfl
  | l + 1 => by rw [repCells, rep_i64 l, List.replicate_succ, List.map_cons]; rfl
theorem frz_first (h : Heap) (c : List AV) (b l : Nat) (d p : Int) (x : Bool) (u v y z : List AV) (k : Int) (hb : h b = some ((List.replicate l 0).map i64)) :
    [.agg [.sl 6 c, .own b 0 l 1, .int .i64 d, .int .i64 p], .agg [.bool x, .sl 1 u, .sl 1 v, .sl 3 y, .sl 3 z], .int .i64 k].map (frz2 h) = [.agg [.sl 6 c, .sl 1 ((List.replicate l 0).map i64), .int .i64 d, .int .i64 p], .agg [.bool x, .sl 1 u, .sl 1 v, .sl 3 y, .sl 3 z], .int .i64 k] := by
  have h1 := frz1_i64 (l := List.replicate l 0) hb
  rw [List.length_replicate] at h1
  show [AV.agg [.sl 6 c, frz1 h (.own b 0 l 1), .int .i64 d, .int .i64 p], .agg [.bool x, .sl 1 u, .sl 1 v, .sl 3 y, .sl 3 z], .int .i64 k] = _
  rw [h1]
set_option maxHeartbeats 2000000 in
theorem c_ahead (t : Tp) (a : Pt) (n : Int) (ht : wdT t) (ha : wdP a) : PCalls Tryz.prog 3 [encT t, encPt a, .int .i64 n] (.bool true) := by
  have l1 := c_long24 t 15 2 (by omega) (by omega)
  have l2 := c_long21 a 6 2 (by omega) (by omega)
  simp only [encT, encPt, encW] at l1 l2
  refine pcalls_of_AW (pa := []) (fn := Tryz.f3) (ts := [6]) follows_mixed Tryz.func3 rfl rfl (by kernel_rfl) (by kernel_rfl) (by rw [Tryz.ntmps3]; simp) ?_
  simp only [go_sem, ↓reduceIte, encT, encPt, encW]
  refine callS_p l1 ?_
  cases e1 : longT t 15 2 with
  | true =>
    simp only [go_sem, ↓reduceIte]
    refine callS_p c_works ?_
    simp only [go_sem, ↓reduceIte]
    exact .mk (by simp only [go_sem, ↓reduceIte])
  | false =>
    simp only [go_sem, ↓reduceIte]
    refine callS_p l2 ?_
    cases e2 : longP a 6 2 with
    | true =>
      simp only [go_sem, ↓reduceIte]
      refine callS_p c_works ?_
      simp only [go_sem, ↓reduceIte]
      exact .mk (by simp only [go_sem, ↓reduceIte])
    | false =>
      by_cases hn : n < 1
      · simp only [go_sem, ↓reduceIte, dec_true hn]
        refine callS_p c_works ?_
        simp only [go_sem, ↓reduceIte]
        exact .mk (by simp only [go_sem, ↓reduceIte])
      by_cases hg : n > (t.code.length : Nat)
      · simp only [go_sem, ↓reduceIte, dec_false hn, dec_true hg]
        refine callS_p c_works ?_
        simp only [go_sem, ↓reduceIte]
        exact .mk (by simp only [go_sem, ↓reduceIte])
      obtain ⟨n, rfl⟩ : ∃ m : Nat, n = (m : Int) := ⟨n.toNat, by omega⟩
      obtain ⟨okt, lc, lo⟩ := longT_ok (m := 15) (k := 2) e1 ht (by omega)
      have oka := longP_ok (m := 6) (k := 2) e2 ha (by omega)
      have hto := c_to24 t (by omega) (by omega)
      have htp := c_to21 a oka.ly oka.lp
      have hta := c_tape t a 400 okt ⟨oka.t.mono (by omega), fun f hf => (oka.y f hf).mono (by omega), fun f hf => (oka.p f hf).mono (by omega), oka.ly, oka.lp⟩
      have htb := c_tape (cutT t n) a 400 (cut_ok okt) ⟨oka.t.mono (by omega), fun f hf => (oka.y f hf).mono (by omega), fun f hf => (oka.p f hf).mono (by omega), oka.ly, oka.lp⟩
      have hab := ahead_holds t (rv a.t) (a.y.map rv) (a.p.map rv) (clampB 400) (n := n) (by omega) (by omega)
      have sza := runT_size t (rv a.t) (a.y.map rv) (a.p.map rv) (l := clampB 400) (by decide)
      have szb := runT_size (cutT t n) (rv a.t) (a.y.map rv) (a.p.map rv) (l := clampB 400) (by decide)
      generalize runT t (rv a.t) (a.y.map rv) (a.p.map rv) (clampB 400) = r at hta hab sza
      generalize runT (cutT t n) (rv a.t) (a.y.map rv) (a.p.map rv) (clampB 400) = s at htb hab szb
      obtain ⟨L, k, b⟩ := r
      obtain ⟨M, k', b'⟩ := s
      simp only [encT, encPt, encW, vT, encF, cutT, List.map_take] at hto htp hta htb
      simp only [go_sem, ↓reduceIte, dec_false hn, dec_false hg]
      refine callS_p hto ?_
      simp only [go_sem, ↓reduceIte]
      refine callS_p htp ?_
      simp only [go_sem, ↓reduceIte]
      have h0n : (0 : Int) ≤ (n : Nat) := by omega
      have hnl : ((n : Nat) : Int) ≤ (t.code.length : Nat) := by omega
      have h0o : (0 : Int) ≤ (t.outs.length : Nat) := by omega
      have h1o : ((t.outs.length : Nat) : Int) ≤ 1099511627776 := by omega
      simp only [go_sem, ↓reduceIte, h0n, hnl, h0o, h1o]
      refine callS_p hta ?_
      simp only [go_sem, ↓reduceIte, rep_i64]
      refine callS_q (ids' := [39]) htb (frz_first _ _ _ _ _ _ _ _ _ _ _ _ (by simp only [go_sem, ↓reduceIte])) rfl ?_
      by_cases hk2 : k = 2
      · simp only [go_sem, ↓reduceIte, beq_int, dec_true hk2]
        refine callS_p c_works ?_
        simp only [go_sem, ↓reduceIte]
        exact .mk (by simp only [go_sem, ↓reduceIte])
      obtain ⟨h1, h2⟩ := hab hk2
      simp only at h1 h2
      by_cases hz : k = 0 ∧ b = 0
      · obtain ⟨rfl, rfl⟩ := hz
        obtain ⟨h3, h4, rfl⟩ := h2 rfl
        cases h3
        have h4' : ((n : Nat) : Int) ≤ (L.length : Nat) := by omega
        simp only [go_sem, ↓reduceIte, dec_true h4', h0n, h4', List.length_map]
        have hs := c_rsame (L.take n) (L.take n) (fun q hq => Nat.le_trans (szb q hq) (by omega)) (fun q hq => Nat.le_trans (szb q hq) (by omega)) (by rw [List.length_take]; omega)
        rw [decide_eq_true rfl] at hs
        have hs' := hs
        rw [List.map_take] at hs'
        refine callS_p (by first | exact hs | exact hs' | (rw [List.map_take]; exact hs')) ?_
        simp only [go_sem, ↓reduceIte]
        refine callS_p c_works ?_
        simp only [go_sem, ↓reduceIte]
        exact .mk (by simp only [go_sem, ↓reduceIte])
      · have h5 : ¬ (k, b) = ((0 : Int), (0 : Int)) := fun h => hz ⟨congrArg Prod.fst h, congrArg Prod.snd h⟩
        have e00 : decide ((0 : Int) = 0) = true := rfl
        rcases h1 h5 with ⟨hb, he⟩ | ⟨hb, he⟩
        · obtain ⟨rfl, rfl⟩ : k' = k ∧ b' = b := ⟨congrArg Prod.fst he, congrArg Prod.snd he⟩
          have ek : decide (k' = k') = true := decide_eq_true rfl
          have eb : decide (b' = b') = true := decide_eq_true rfl
          by_cases hk0 : k' = 0
          · have hb0 : ¬ b' = 0 := fun h => hz ⟨hk0, h⟩
            simp only [go_sem, ↓reduceIte, beq_int, dec_false hk2, dec_true hk0, dec_false hb0, dec_true hb, ek, eb, e00]
            refine callS_p c_works ?_
            simp only [go_sem, ↓reduceIte]
            exact .mk (by simp only [go_sem, ↓reduceIte])
          · simp only [go_sem, ↓reduceIte, beq_int, dec_false hk2, dec_false hk0, dec_true hb, ek, eb, e00]
            refine callS_p c_works ?_
            simp only [go_sem, ↓reduceIte]
            exact .mk (by simp only [go_sem, ↓reduceIte])
        · obtain ⟨rfl, rfl⟩ : k' = 0 ∧ b' = 0 := ⟨congrArg Prod.fst he, congrArg Prod.snd he⟩
          have hb1 : ¬ b < (n : Int) := by omega
          have hb2 : b ≥ (n : Int) := hb
          by_cases hk0 : k = 0
          · have hb0 : ¬ b = 0 := fun h => hz ⟨hk0, h⟩
            simp only [go_sem, ↓reduceIte, beq_int, dec_false hk2, dec_true hk0, dec_false hb0, dec_false hb1, dec_true hb2, e00]
            refine callS_p c_works ?_
            simp only [go_sem, ↓reduceIte]
            exact .mk (by simp only [go_sem, ↓reduceIte])
          · simp only [go_sem, ↓reduceIte, beq_int, dec_false hk2, dec_false hk0, dec_false hb1, dec_true hb2, e00]
            refine callS_p c_works ?_
            simp only [go_sem, ↓reduceIte]
            exact .mk (by simp only [go_sem, ↓reduceIte])
end Go.Proofs.YtdbmdaefmlflaaaGreatDoor
