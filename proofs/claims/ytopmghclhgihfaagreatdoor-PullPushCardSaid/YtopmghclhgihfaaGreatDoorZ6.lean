/- Parts of the proof, joined: B3, B5, B4, B6, B7, Q8, B8, Q9, B9, B10. -/
import Derived.Test.YtopmghclhgihfaaGreatDoorZ5

set_option linter.unusedVariables false
set_option linter.unusedSimpArgs false
set_option maxRecDepth 10000
namespace Go.Proofs.YtopmghclhgihfaaGreatDoor
open Go Go.Ab Go.Num

/-- The effect of a call that writes to one row alone. -/
theorem oloc_one {f : FuncId} {args : List AV} {h : Heap} {c : Nat} {rd : List Nat} {X : List (Rat × Bool)} (hc : Callable Tryz.prog f) (hX : ∃ blk, h c = some blk)
    (hH : ∀ h' n, (∀ b ∈ rd ++ [c], h' b = h b) → (∀ b ∈ rd ++ [c], (∃ blk, h b = some blk) → b < n) → HCalls Tryz.prog f args h' n (fun v h2 n' => v = .tup [] ∧ h2 c = some (flatC encB X) ∧ ∀ j, j < n → j ≠ c → h2 j = h' j)) :
    OLoc Tryz.prog f args h { v := .tup [], up := [(c, some (flatC encB X))], rd := rd } := by
  refine OLoc.of_eff hc (fun x hx => ?_) (fun x hx g => ?_) fun h' n hag hlt => ?_
  · simp only [List.map_cons, List.map_nil, List.mem_singleton] at hx; subst hx; exact hX
  · simp only [List.map_cons, List.map_nil, List.mem_singleton] at hx; subst hx
    exact ⟨flatC encB X, by simp only [updH, if_true], flat_set _⟩
  · have H := hH h' n hag hlt
    exact ⟨H.1, fun I M w cargs hr hargs => (H.2 I M w cargs hr hargs).mono fun e w' ⟨cv, v, I', M', h2, n2, he, ⟨hv, h3, h4⟩, hvr, hh, hx, hnn, hfr⟩ => ⟨cv, v, I', M', h2, n2, he, ⟨hv, fun j hj => by
      by_cases hjc : j = c
      · subst hjc; rw [h3]; simp only [updH, if_true]
      · rw [h4 j hj hjc]; simp only [updH]; rw [if_neg hjc]⟩, hvr, hh, hx, hnn, hfr⟩⟩

theorem zsend_sz {Z : List (Rat × Bool)} {m k : Nat} (hs : ∀ p ∈ Z, qw p.1 ≤ m) (a : Nat) (ha : a < Z.length) {x : Rat} (hx : qw x ≤ k) : ∀ p ∈ zsend Z a x, qw p.1 ≤ m + k + 1 := fun p hp => by
  rcases List.mem_or_eq_of_mem_set hp with h1 | h1
  · have := hs p h1; omega
  · subst h1
    have h2 := hs (Z.getD a (0, true)) (by rw [show Z.getD a (0, true) = Z[a] by simp [ha]]; exact List.getElem_mem _)
    have := qw_add (Z.getD a (0, true)).1 x
    simp only
    omega
theorem BkH.send {h h' : Heap} {b c y p n : Nat} {t : Tp} {D : List Rat} {S : Bk} {Z : List (Rat × Bool)} (H : BkH h b c y p t D S Z) {a : Nat} {x : Rat} (ha : a < Z.length) (hc : h' c = some (flatC encB (zsend Z a x))) (hk : ∀ j, j < n → j ≠ c → h' j = h j) (hbn : b < n) (hyn : y < n) (hpn : p < n) :
    BkH h' b c y p t D (S.send a x) (zsend Z a x) :=
  ⟨by rw [hk b hbn H.bc, H.hb, zsend_len]; rfl, hc, by rw [hk y hyn (Ne.symm H.cY), H.hy]; rfl, by rw [hk p hpn (Ne.symm H.cP), H.hp]; rfl, by rw [zsend_fst ha, H.co]; rfl, zsend_ok H.ok _ _, H.bc, H.bY, H.bP, H.cY, H.cP, H.yP⟩
theorem BkH.eq {h h' : Heap} {b c y p : Nat} {t : Tp} {D : List Rat} {S : Bk} {Z : List (Rat × Bool)} (H : BkH h b c y p t D S Z) (hb : h' b = h b) (hc : h' c = h c) (hy : h' y = h y) (hp : h' p = h p) : BkH h' b c y p t D S Z :=
  ⟨by rw [hb, H.hb], by rw [hc, H.hc], by rw [hy, H.hy], by rw [hp, H.hp], H.co, H.ok, H.bc, H.bY, H.bP, H.cY, H.cP, H.yP⟩
theorem oloc_sb (b c y p : Nat) (t : Tp) (D : List Rat) (S : Bk) (Z : List (Rat × Bool)) (a : Nat) (f : Fr) (h : Heap) (hb : h b = some [.sl 6 (t.code.map encI), .sl 1 (t.outs.map i64), .int .i64 t.dim, .int .i64 t.par, .sl 3 (D.map encQ), .own c 0 Z.length 3, .bool (cq S.t).neg, encW (cq S.t).n, encW (cq S.t).d, .own y 0 S.y.length 3, .own p 0 S.p.length 3])
    (hc : h c = some (flatC encB Z)) (hbc : b ≠ c) (ha : a < Z.length) (hz : okB Z) (hs : qw (Z.getD a (0, true)).1 ≤ 15000) (hf : okR 15000 f) :
    OLoc Tryz.prog 41 [.ptr b 0, .int .i64 a, encR f] h { v := .tup [], up := [(c, some (flatC encB (zsend Z a (rv f))))], rd := [b] } := oloc_send b c Z a f _ _ _ _ _ _ _ _ _ _ h hb hc hbc ha hz hs hf
theorem c_qsign {q : Rat} (h : qw q ≤ 80000) : PCalls Tryz.prog 35 [encQ q] (.int .i64 q.num.sign) := by have := c_fsign (cq q) (okR_cq h); rwa [rv_cq] at this
theorem c_sign0 : PCalls Tryz.prog 35 [.agg [.bool false, .nilsl, .nilsl]] (.int .i64 0) := by
  have h := c_fsign ⟨false, [], []⟩ ⟨.nil, .nil, Nat.zero_le _, Nat.zero_le _⟩
  have e : rv ⟨false, [], []⟩ = 0 := by simp [rv, val]
  rw [e] at h
  exact h.args_le (.cons (AV.le_agg' (.cons (AV.le_refl _) (.cons (AV.le_nil 1) (.cons (AV.le_nil 1) .nil)))) .nil)
theorem sign_ne {q : Rat} (h : q ≠ 0) : ¬ q.num.sign = 0 := fun hs => h (by
  have : q.num = 0 := Int.sign_eq_zero_iff_zero.1 hs
  exact Rat.num_eq_zero.1 this)

section
variable (b c y p : Nat) (t : Tp) (D : List Rat) (S : Bk) (Z : List (Rat × Bool)) (k : Nat) (h : Heap) (n : Nat)
/-- What is known ahead of a step. -/
structure Thr : Prop where
  H : BkH h b c y p t D S Z
  hbn : b < n
  hcn : c < n
  hyn : y < n
  hpn : p < n
  hk : k < t.code.length
  hm : mayB t (t.code.getD k ⟨0, 0, 0, ⟨false, [], []⟩⟩) k = true
  hD : D.length = t.code.length
  hZ : Z.length = t.code.length
  ly : (S.y.length : Int) = t.dim
  lp : (S.p.length : Int) = t.par
  hd : ∀ x ∈ D, qw x ≤ 50
  hq : qw (S.co.getD k 0) ≤ 50
  hs : ∀ q ∈ Z, qw q.1 ≤ 13000
  ht : qw S.t ≤ 13000
  sy : ∀ q ∈ S.y, qw q ≤ 13000
  sp : ∀ q ∈ S.p, qw q ≤ 13000

set_option maxRecDepth 20000 in
set_option maxHeartbeats 2000000 in
theorem c_thr0 (hT : Thr b c y p t D S Z k h n) (h0 : S.co.getD k 0 = 0) : HCalls Tryz.prog 45 [.ptr b 0, .int .i64 k] h n (fun v h' n' => BkPost h n b c y p t D (thr0 D (t.code.getD k ⟨0, 0, 0, ⟨false, [], []⟩⟩) k S) v h' n') := by
  have e0 : thr0 D (t.code.getD k ⟨0, 0, 0, ⟨false, [], []⟩⟩) k S = S := by unfold thr0; rw [if_pos h0]
  rw [e0]
  obtain ⟨H, hbn, hcn, hyn, hpn, hk, hm, hD, hZ, ly, lp, hd, hq, hs, ht, sy, sp⟩ := hT
  have hb := H.hb
  have hc := H.hc
  have hy := H.hy
  have hp := H.hp
  have hkZ : k < Z.length := by omega
  have gi : (t.code.map encI).getD k .undef = encI (t.code.getD k ⟨0, 0, 0, ⟨false, [], []⟩⟩) := by simp [List.getD, hk]
  have gb := get_b hkZ
  have lz := len_b Z
  have la : k * 3 ≤ Z.length * 3 := by omega
  have hk' : ((k : Nat) : Int) < (t.code.length : Nat) := by omega
  have hkz' : ((k : Nat) : Int) < (Z.length : Nat) := by omega
  have h0k : (0 : Int) ≤ (k : Nat) := by omega
  have hco : S.co.getD k 0 = (Z.getD k (0, true)).1 := by rw [← H.co]; simp [hkZ]
  have hok := getD_okB H.ok hkZ
  generalize t.code.getD k ⟨0, 0, 0, ⟨false, [], []⟩⟩ = i at *
  rw [h0] at hco
  generalize hpp : Z.getD k (0, true) = pp at *
  obtain ⟨q, fl⟩ := pp
  simp only at hco
  subst hco
  have s0 := c_sign0
  cases fl with
  | true =>
    simp only [encB, if_true, Bool.false_eq_true, if_false] at gb
    refine hcalls_of_AWR (pa := []) (fn := Tryz.f45) (rs := []) follows_mixed Tryz.func45 rfl rfl (by kernel_rfl) (by kernel_rfl) (by rw [Tryz.ntmps45]; simp) ?_
    simp only [go_sem, ↓reduceIte, hb, hc, gi, gb, lz, la, hk', hkz', h0k, List.length_map, encI, encW, upd1_old _ _ _ _ _ hbn, upd1_old0 _ _ _ _ hbn, old_ne hbn, new_ne hbn, old_ne0 hbn, new_ne0 hbn, upd1_old _ _ _ _ _ hcn, upd1_old0 _ _ _ _ hcn, old_ne hcn, new_ne hcn, old_ne0 hcn, new_ne0 hcn, upd1_old _ _ _ _ _ hyn, upd1_old0 _ _ _ _ hyn, old_ne hyn, new_ne hyn, old_ne0 hyn, new_ne0 hyn, upd1_old _ _ _ _ _ hpn, upd1_old0 _ _ _ _ hpn, old_ne hpn, new_ne hpn, old_ne0 hpn, new_ne0 hpn]
    refine callS_p s0 ?_
    simp only [go_sem, ↓reduceIte]
    exact .mk (.tup []) (by simp only [go_sem, ↓reduceIte, resR, resAll, resA] <;> rfl) ⟨rfl, ⟨Z, H.eq (by simp only [go_sem, ↓reduceIte, upd1_old _ _ _ _ _ hbn, upd1_old0 _ _ _ _ hbn, old_ne hbn, new_ne hbn, old_ne0 hbn, new_ne0 hbn, upd1_old _ _ _ _ _ hcn, upd1_old0 _ _ _ _ hcn, old_ne hcn, new_ne hcn, old_ne0 hcn, new_ne0 hcn, upd1_old _ _ _ _ _ hyn, upd1_old0 _ _ _ _ hyn, old_ne hyn, new_ne hyn, old_ne0 hyn, new_ne0 hyn, upd1_old _ _ _ _ _ hpn, upd1_old0 _ _ _ _ hpn, old_ne hpn, new_ne hpn, old_ne0 hpn, new_ne0 hpn]) (by simp only [go_sem, ↓reduceIte, upd1_old _ _ _ _ _ hbn, upd1_old0 _ _ _ _ hbn, old_ne hbn, new_ne hbn, old_ne0 hbn, new_ne0 hbn, upd1_old _ _ _ _ _ hcn, upd1_old0 _ _ _ _ hcn, old_ne hcn, new_ne hcn, old_ne0 hcn, new_ne0 hcn, upd1_old _ _ _ _ _ hyn, upd1_old0 _ _ _ _ hyn, old_ne hyn, new_ne hyn, old_ne0 hyn, new_ne0 hyn, upd1_old _ _ _ _ _ hpn, upd1_old0 _ _ _ _ hpn, old_ne hpn, new_ne hpn, old_ne0 hpn, new_ne0 hpn]) (by simp only [go_sem, ↓reduceIte, upd1_old _ _ _ _ _ hbn, upd1_old0 _ _ _ _ hbn, old_ne hbn, new_ne hbn, old_ne0 hbn, new_ne0 hbn, upd1_old _ _ _ _ _ hcn, upd1_old0 _ _ _ _ hcn, old_ne hcn, new_ne hcn, old_ne0 hcn, new_ne0 hcn, upd1_old _ _ _ _ _ hyn, upd1_old0 _ _ _ _ hyn, old_ne hyn, new_ne hyn, old_ne0 hyn, new_ne0 hyn, upd1_old _ _ _ _ _ hpn, upd1_old0 _ _ _ _ hpn, old_ne hpn, new_ne hpn, old_ne0 hpn, new_ne0 hpn]) (by simp only [go_sem, ↓reduceIte, upd1_old _ _ _ _ _ hbn, upd1_old0 _ _ _ _ hbn, old_ne hbn, new_ne hbn, old_ne0 hbn, new_ne0 hbn, upd1_old _ _ _ _ _ hcn, upd1_old0 _ _ _ _ hcn, old_ne hcn, new_ne hcn, old_ne0 hcn, new_ne0 hcn, upd1_old _ _ _ _ _ hyn, upd1_old0 _ _ _ _ hyn, old_ne hyn, new_ne hyn, old_ne0 hyn, new_ne0 hyn, upd1_old _ _ _ _ _ hpn, upd1_old0 _ _ _ _ hpn, old_ne hpn, new_ne hpn, old_ne0 hpn, new_ne0 hpn])⟩, fun j hj _ _ _ _ => by simp only [go_sem, ↓reduceIte, upd1_old _ _ _ _ _ hj, upd1_old0 _ _ _ _ hj]⟩
  | false =>
    simp only [encB, if_true, Bool.false_eq_true, if_false, encQ, encR, encW] at gb
    have s1 := c_qsign (q := 0) (by rw [qw_zero]; omega)
    rw [show ((0 : Rat).num.sign) = 0 from rfl] at s1
    simp only [encQ, encR, encW] at s1
    refine hcalls_of_AWR (pa := []) (fn := Tryz.f45) (rs := []) follows_mixed Tryz.func45 rfl rfl (by kernel_rfl) (by kernel_rfl) (by rw [Tryz.ntmps45]; simp) ?_
    simp only [go_sem, ↓reduceIte, hb, hc, gi, gb, lz, la, hk', hkz', h0k, List.length_map, encI, encW, upd1_old _ _ _ _ _ hbn, upd1_old0 _ _ _ _ hbn, old_ne hbn, new_ne hbn, old_ne0 hbn, new_ne0 hbn, upd1_old _ _ _ _ _ hcn, upd1_old0 _ _ _ _ hcn, old_ne hcn, new_ne hcn, old_ne0 hcn, new_ne0 hcn, upd1_old _ _ _ _ _ hyn, upd1_old0 _ _ _ _ hyn, old_ne hyn, new_ne hyn, old_ne0 hyn, new_ne0 hyn, upd1_old _ _ _ _ _ hpn, upd1_old0 _ _ _ _ hpn, old_ne hpn, new_ne hpn, old_ne0 hpn, new_ne0 hpn]
    refine callS_p s1 ?_
    simp only [go_sem, ↓reduceIte]
    exact .mk (.tup []) (by simp only [go_sem, ↓reduceIte, resR, resAll, resA] <;> rfl) ⟨rfl, ⟨Z, H.eq (by simp only [go_sem, ↓reduceIte, upd1_old _ _ _ _ _ hbn, upd1_old0 _ _ _ _ hbn, old_ne hbn, new_ne hbn, old_ne0 hbn, new_ne0 hbn, upd1_old _ _ _ _ _ hcn, upd1_old0 _ _ _ _ hcn, old_ne hcn, new_ne hcn, old_ne0 hcn, new_ne0 hcn, upd1_old _ _ _ _ _ hyn, upd1_old0 _ _ _ _ hyn, old_ne hyn, new_ne hyn, old_ne0 hyn, new_ne0 hyn, upd1_old _ _ _ _ _ hpn, upd1_old0 _ _ _ _ hpn, old_ne hpn, new_ne hpn, old_ne0 hpn, new_ne0 hpn]) (by simp only [go_sem, ↓reduceIte, upd1_old _ _ _ _ _ hbn, upd1_old0 _ _ _ _ hbn, old_ne hbn, new_ne hbn, old_ne0 hbn, new_ne0 hbn, upd1_old _ _ _ _ _ hcn, upd1_old0 _ _ _ _ hcn, old_ne hcn, new_ne hcn, old_ne0 hcn, new_ne0 hcn, upd1_old _ _ _ _ _ hyn, upd1_old0 _ _ _ _ hyn, old_ne hyn, new_ne hyn, old_ne0 hyn, new_ne0 hyn, upd1_old _ _ _ _ _ hpn, upd1_old0 _ _ _ _ hpn, old_ne hpn, new_ne hpn, old_ne0 hpn, new_ne0 hpn]) (by simp only [go_sem, ↓reduceIte, upd1_old _ _ _ _ _ hbn, upd1_old0 _ _ _ _ hbn, old_ne hbn, new_ne hbn, old_ne0 hbn, new_ne0 hbn, upd1_old _ _ _ _ _ hcn, upd1_old0 _ _ _ _ hcn, old_ne hcn, new_ne hcn, old_ne0 hcn, new_ne0 hcn, upd1_old _ _ _ _ _ hyn, upd1_old0 _ _ _ _ hyn, old_ne hyn, new_ne hyn, old_ne0 hyn, new_ne0 hyn, upd1_old _ _ _ _ _ hpn, upd1_old0 _ _ _ _ hpn, old_ne hpn, new_ne hpn, old_ne0 hpn, new_ne0 hpn]) (by simp only [go_sem, ↓reduceIte, upd1_old _ _ _ _ _ hbn, upd1_old0 _ _ _ _ hbn, old_ne hbn, new_ne hbn, old_ne0 hbn, new_ne0 hbn, upd1_old _ _ _ _ _ hcn, upd1_old0 _ _ _ _ hcn, old_ne hcn, new_ne hcn, old_ne0 hcn, new_ne0 hcn, upd1_old _ _ _ _ _ hyn, upd1_old0 _ _ _ _ hyn, old_ne hyn, new_ne hyn, old_ne0 hyn, new_ne0 hyn, upd1_old _ _ _ _ _ hpn, upd1_old0 _ _ _ _ hpn, old_ne hpn, new_ne hpn, old_ne0 hpn, new_ne0 hpn])⟩, fun j hj _ _ _ _ => by simp only [go_sem, ↓reduceIte, upd1_old _ _ _ _ _ hj, upd1_old0 _ _ _ _ hj]⟩

set_option maxRecDepth 20000 in
set_option maxHeartbeats 4000000 in
theorem c_thr2 (hT : Thr b c y p t D S Z k h n) (h0 : S.co.getD k 0 ≠ 0) (eop : (t.code.getD k ⟨0, 0, 0, ⟨false, [], []⟩⟩).op = 2) : HCalls Tryz.prog 45 [.ptr b 0, .int .i64 k] h n (fun v h' n' => BkPost h n b c y p t D (thr0 D (t.code.getD k ⟨0, 0, 0, ⟨false, [], []⟩⟩) k S) v h' n') := by
  obtain ⟨H, hbn, hcn, hyn, hpn, hk, hm, hD, hZ, ly, lp, hd, hq, hs, ht, sy, sp⟩ := hT
  have hb := H.hb
  have hc := H.hc
  have hy := H.hy
  have hp := H.hp
  have hkZ : k < Z.length := by omega
  have gi : (t.code.map encI).getD k .undef = encI (t.code.getD k ⟨0, 0, 0, ⟨false, [], []⟩⟩) := by simp [List.getD, hk]
  have gb := get_b hkZ
  have lz := len_b Z
  have la : k * 3 ≤ Z.length * 3 := by omega
  have hk' : ((k : Nat) : Int) < (t.code.length : Nat) := by omega
  have hkz' : ((k : Nat) : Int) < (Z.length : Nat) := by omega
  have h0k : (0 : Int) ≤ (k : Nat) := by omega
  have hco : S.co.getD k 0 = (Z.getD k (0, true)).1 := by rw [← H.co]; simp [hkZ]
  have hok := getD_okB H.ok hkZ
  generalize t.code.getD k ⟨0, 0, 0, ⟨false, [], []⟩⟩ = i at *
  have e0 : thr0 D i k S = thrQ D i k (S.co.getD k 0) S := thr0_eq D i k S
  rw [e0]
  clear e0
  generalize hqq : S.co.getD k 0 = q at *
  generalize hpp : Z.getD k (0, true) = pp at *
  obtain ⟨q', fl⟩ := pp
  simp only at hco
  subst hco
  obtain rfl : fl = false := by
    cases fl with
    | false => rfl
    | true => exact absurd (hok rfl) h0
  simp only [encB, if_true, Bool.false_eq_true, if_false, encQ, encR, encW] at gb
  have s1 := c_qsign (q := q) (by omega)
  simp only [encQ, encR, encW] at s1
  have sg := dec_false (sign_ne h0)
  have gz : ∀ j, j < Z.length → qw (Z.getD j (0, true)).1 ≤ 13000 := fun j hj => hs _ (by rw [show Z.getD j (0, true) = Z[j] by simp [hj]]; exact List.getElem_mem _)
  unfold mayB at hm
  rw [if_neg (show ¬ i.op = 1 by omega)] at hm
  simp only [Bool.and_eq_true, List.all_eq_true] at hm
  obtain ⟨m1, m2, m3⟩ := hm
  have hr : ∀ r ∈ readsI i, 0 ≤ r ∧ r.toNat < Z.length := fun r hr => by have := belowB_iff.1 (m2 r hr); omega
  have et : thrQ D i k q S = { S with t := S.t + q } := by simp only [thrQ, if_pos eop]
  rw [et]
  have hadd := c_qadd (a := S.t) (b := q) (by omega) (by omega)
  simp only [encQ, encR, encW] at hadd
  refine hcalls_of_AWR (pa := []) (fn := Tryz.f45) (rs := []) follows_mixed Tryz.func45 rfl rfl (by kernel_rfl) (by kernel_rfl) (by rw [Tryz.ntmps45]; simp) ?_
  simp only [go_sem, ↓reduceIte, hb, hc, hy, hp, gi, gb, lz, la, hk', hkz', h0k, List.length_map, encI, encW, upd1_old _ _ _ _ _ hbn, upd1_old0 _ _ _ _ hbn, old_ne hbn, new_ne hbn, old_ne0 hbn, new_ne0 hbn, upd1_old _ _ _ _ _ hcn, upd1_old0 _ _ _ _ hcn, old_ne hcn, new_ne hcn, old_ne0 hcn, new_ne0 hcn, upd1_old _ _ _ _ _ hyn, upd1_old0 _ _ _ _ hyn, old_ne hyn, new_ne hyn, old_ne0 hyn, new_ne0 hyn, upd1_old _ _ _ _ _ hpn, upd1_old0 _ _ _ _ hpn, old_ne hpn, new_ne hpn, old_ne0 hpn, new_ne0 hpn]
  refine callS_p s1 ?_
  simp only [go_sem, ↓reduceIte, beq_int, sg, dec_true eop, hb, hc, hy, hp, List.length_map, encQ, encR, encW, upd1_old _ _ _ _ _ hbn, upd1_old0 _ _ _ _ hbn, old_ne hbn, new_ne hbn, old_ne0 hbn, new_ne0 hbn, upd1_old _ _ _ _ _ hcn, upd1_old0 _ _ _ _ hcn, old_ne hcn, new_ne hcn, old_ne0 hcn, new_ne0 hcn, upd1_old _ _ _ _ _ hyn, upd1_old0 _ _ _ _ hyn, old_ne hyn, new_ne hyn, old_ne0 hyn, new_ne0 hyn, upd1_old _ _ _ _ _ hpn, upd1_old0 _ _ _ _ hpn, old_ne hpn, new_ne hpn, old_ne0 hpn, new_ne0 hpn]
  refine callD_p hadd ?_
  simp only [go_sem, ↓reduceIte, hb, hc, hy, hp, List.length_map, encQ, encR, encW, upd1_old _ _ _ _ _ hbn, upd1_old0 _ _ _ _ hbn, old_ne hbn, new_ne hbn, old_ne0 hbn, new_ne0 hbn, upd1_old _ _ _ _ _ hcn, upd1_old0 _ _ _ _ hcn, old_ne hcn, new_ne hcn, old_ne0 hcn, new_ne0 hcn, upd1_old _ _ _ _ _ hyn, upd1_old0 _ _ _ _ hyn, old_ne hyn, new_ne hyn, old_ne0 hyn, new_ne0 hyn, upd1_old _ _ _ _ _ hpn, upd1_old0 _ _ _ _ hpn, old_ne hpn, new_ne hpn, old_ne0 hpn, new_ne0 hpn]
  refine .mk (.tup []) (by simp only [go_sem, ↓reduceIte, resR, resAll, resA] <;> rfl) ⟨rfl, ⟨Z, ⟨by simp only [go_sem, ↓reduceIte, encW], by simp only [go_sem, ↓reduceIte, hc, upd1_nei (Ne.symm H.bc), upd1_old _ _ _ _ _ hbn, upd1_old0 _ _ _ _ hbn, old_ne hbn, new_ne hbn, old_ne0 hbn, new_ne0 hbn, upd1_old _ _ _ _ _ hcn, upd1_old0 _ _ _ _ hcn, old_ne hcn, new_ne hcn, old_ne0 hcn, new_ne0 hcn, upd1_old _ _ _ _ _ hyn, upd1_old0 _ _ _ _ hyn, old_ne hyn, new_ne hyn, old_ne0 hyn, new_ne0 hyn, upd1_old _ _ _ _ _ hpn, upd1_old0 _ _ _ _ hpn, old_ne hpn, new_ne hpn, old_ne0 hpn, new_ne0 hpn], by simp only [go_sem, ↓reduceIte, hy, upd1_nei (Ne.symm H.bY), upd1_old _ _ _ _ _ hbn, upd1_old0 _ _ _ _ hbn, old_ne hbn, new_ne hbn, old_ne0 hbn, new_ne0 hbn, upd1_old _ _ _ _ _ hcn, upd1_old0 _ _ _ _ hcn, old_ne hcn, new_ne hcn, old_ne0 hcn, new_ne0 hcn, upd1_old _ _ _ _ _ hyn, upd1_old0 _ _ _ _ hyn, old_ne hyn, new_ne hyn, old_ne0 hyn, new_ne0 hyn, upd1_old _ _ _ _ _ hpn, upd1_old0 _ _ _ _ hpn, old_ne hpn, new_ne hpn, old_ne0 hpn, new_ne0 hpn], by simp only [go_sem, ↓reduceIte, hp, upd1_nei (Ne.symm H.bP), upd1_old _ _ _ _ _ hbn, upd1_old0 _ _ _ _ hbn, old_ne hbn, new_ne hbn, old_ne0 hbn, new_ne0 hbn, upd1_old _ _ _ _ _ hcn, upd1_old0 _ _ _ _ hcn, old_ne hcn, new_ne hcn, old_ne0 hcn, new_ne0 hcn, upd1_old _ _ _ _ _ hyn, upd1_old0 _ _ _ _ hyn, old_ne hyn, new_ne hyn, old_ne0 hyn, new_ne0 hyn, upd1_old _ _ _ _ _ hpn, upd1_old0 _ _ _ _ hpn, old_ne hpn, new_ne hpn, old_ne0 hpn, new_ne0 hpn], H.co, H.ok, H.bc, H.bY, H.bP, H.cY, H.cP, H.yP⟩⟩, fun j hj j1 j2 j3 j4 => by simp only [go_sem, ↓reduceIte, upd1_nei j1, upd1_nei j2, upd1_nei j3, upd1_nei j4, upd1_old _ _ _ _ _ hj, upd1_old0 _ _ _ _ hj]⟩
set_option maxRecDepth 20000 in
set_option maxHeartbeats 4000000 in
theorem c_thr3 (hT : Thr b c y p t D S Z k h n) (h0 : S.co.getD k 0 ≠ 0) (eop : (t.code.getD k ⟨0, 0, 0, ⟨false, [], []⟩⟩).op = 3) : HCalls Tryz.prog 45 [.ptr b 0, .int .i64 k] h n (fun v h' n' => BkPost h n b c y p t D (thr0 D (t.code.getD k ⟨0, 0, 0, ⟨false, [], []⟩⟩) k S) v h' n') := by
  obtain ⟨H, hbn, hcn, hyn, hpn, hk, hm, hD, hZ, ly, lp, hd, hq, hs, ht, sy, sp⟩ := hT
  have hb := H.hb
  have hc := H.hc
  have hy := H.hy
  have hp := H.hp
  have hkZ : k < Z.length := by omega
  have gi : (t.code.map encI).getD k .undef = encI (t.code.getD k ⟨0, 0, 0, ⟨false, [], []⟩⟩) := by simp [List.getD, hk]
  have gb := get_b hkZ
  have lz := len_b Z
  have la : k * 3 ≤ Z.length * 3 := by omega
  have hk' : ((k : Nat) : Int) < (t.code.length : Nat) := by omega
  have hkz' : ((k : Nat) : Int) < (Z.length : Nat) := by omega
  have h0k : (0 : Int) ≤ (k : Nat) := by omega
  have hco : S.co.getD k 0 = (Z.getD k (0, true)).1 := by rw [← H.co]; simp [hkZ]
  have hok := getD_okB H.ok hkZ
  generalize t.code.getD k ⟨0, 0, 0, ⟨false, [], []⟩⟩ = i at *
  have e0 : thr0 D i k S = thrQ D i k (S.co.getD k 0) S := thr0_eq D i k S
  rw [e0]
  clear e0
  generalize hqq : S.co.getD k 0 = q at *
  generalize hpp : Z.getD k (0, true) = pp at *
  obtain ⟨q', fl⟩ := pp
  simp only at hco
  subst hco
  obtain rfl : fl = false := by
    cases fl with
    | false => rfl
    | true => exact absurd (hok rfl) h0
  simp only [encB, if_true, Bool.false_eq_true, if_false, encQ, encR, encW] at gb
  have s1 := c_qsign (q := q) (by omega)
  simp only [encQ, encR, encW] at s1
  have sg := dec_false (sign_ne h0)
  have gz : ∀ j, j < Z.length → qw (Z.getD j (0, true)).1 ≤ 13000 := fun j hj => hs _ (by rw [show Z.getD j (0, true) = Z[j] by simp [hj]]; exact List.getElem_mem _)
  unfold mayB at hm
  rw [if_neg (show ¬ i.op = 1 by omega)] at hm
  simp only [Bool.and_eq_true, List.all_eq_true] at hm
  obtain ⟨m1, m2, m3⟩ := hm
  have hr : ∀ r ∈ readsI i, 0 ≤ r ∧ r.toNat < Z.length := fun r hr => by have := belowB_iff.1 (m2 r hr); omega
  have n2 : ¬ i.op = 2 := by omega
  have et : thrQ D i k q S = { S with y := bump S.y i.a.toNat q } := by simp only [thrQ, if_neg n2, if_pos eop]
  rw [et]
  have hkd : 0 ≤ i.a ∧ i.a < t.dim := by
    rw [kindB, if_neg n2, if_pos eop, Bool.and_eq_true] at m3
    exact belowB_iff.1 m3.1
  have a0 := hkd.1
  have a1 : i.a.toNat < S.y.length := by omega
  have a2 : i.a < (S.y.length : Nat) := by omega
  have ga := get_q a1
  have lq := len_q S.y
  have lA : i.a.toNat * 3 ≤ S.y.length * 3 := by omega
  have lE : i.a.toNat * 3 + 3 ≤ S.y.length * 3 := by omega
  have zy : qw (S.y.getD i.a.toNat 0) ≤ 13000 := sy _ (by rw [show S.y.getD i.a.toNat 0 = S.y[i.a.toNat] by simp [a1]]; exact List.getElem_mem _)
  have hadd := c_qadd (a := S.y.getD i.a.toNat 0) (b := q) (by omega) (by omega)
  have hset := lay_q a1 (S.y.getD i.a.toNat 0 + q)
  simp only [encQ, encR, encW] at hadd
  refine hcalls_of_AWR (pa := []) (fn := Tryz.f45) (rs := []) follows_mixed Tryz.func45 rfl rfl (by kernel_rfl) (by kernel_rfl) (by rw [Tryz.ntmps45]; simp) ?_
  simp only [go_sem, ↓reduceIte, hb, hc, hy, hp, gi, gb, lz, la, hk', hkz', h0k, List.length_map, encI, encW, upd1_old _ _ _ _ _ hbn, upd1_old0 _ _ _ _ hbn, old_ne hbn, new_ne hbn, old_ne0 hbn, new_ne0 hbn, upd1_old _ _ _ _ _ hcn, upd1_old0 _ _ _ _ hcn, old_ne hcn, new_ne hcn, old_ne0 hcn, new_ne0 hcn, upd1_old _ _ _ _ _ hyn, upd1_old0 _ _ _ _ hyn, old_ne hyn, new_ne hyn, old_ne0 hyn, new_ne0 hyn, upd1_old _ _ _ _ _ hpn, upd1_old0 _ _ _ _ hpn, old_ne hpn, new_ne hpn, old_ne0 hpn, new_ne0 hpn, a0, a2, ga, lq, lA, lE]
  refine callS_p s1 ?_
  simp only [go_sem, ↓reduceIte, beq_int, sg, dec_false n2, dec_true eop, hb, hc, hy, hp, List.length_map, encQ, encR, encW, upd1_old _ _ _ _ _ hbn, upd1_old0 _ _ _ _ hbn, old_ne hbn, new_ne hbn, old_ne0 hbn, new_ne0 hbn, upd1_old _ _ _ _ _ hcn, upd1_old0 _ _ _ _ hcn, old_ne hcn, new_ne hcn, old_ne0 hcn, new_ne0 hcn, upd1_old _ _ _ _ _ hyn, upd1_old0 _ _ _ _ hyn, old_ne hyn, new_ne hyn, old_ne0 hyn, new_ne0 hyn, upd1_old _ _ _ _ _ hpn, upd1_old0 _ _ _ _ hpn, old_ne hpn, new_ne hpn, old_ne0 hpn, new_ne0 hpn, a0, a2, ga, lq, lA, lE]
  refine callD_p hadd ?_
  simp only [go_sem, ↓reduceIte, hb, hc, hy, hp, List.length_map, encQ, encR, encW, upd1_old _ _ _ _ _ hbn, upd1_old0 _ _ _ _ hbn, old_ne hbn, new_ne hbn, old_ne0 hbn, new_ne0 hbn, upd1_old _ _ _ _ _ hcn, upd1_old0 _ _ _ _ hcn, old_ne hcn, new_ne hcn, old_ne0 hcn, new_ne0 hcn, upd1_old _ _ _ _ _ hyn, upd1_old0 _ _ _ _ hyn, old_ne hyn, new_ne hyn, old_ne0 hyn, new_ne0 hyn, upd1_old _ _ _ _ _ hpn, upd1_old0 _ _ _ _ hpn, old_ne hpn, new_ne hpn, old_ne0 hpn, new_ne0 hpn, a0, a2, ga, lq, lA, lE]
  refine .mk (.tup []) (by simp only [go_sem, ↓reduceIte, resR, resAll, resA] <;> rfl) ⟨rfl, ⟨Z, ⟨by simp only [go_sem, ↓reduceIte, hb, bump_len, upd1_nei H.bY, upd1_old _ _ _ _ _ hbn, upd1_old0 _ _ _ _ hbn, old_ne hbn, new_ne hbn, old_ne0 hbn, new_ne0 hbn, upd1_old _ _ _ _ _ hcn, upd1_old0 _ _ _ _ hcn, old_ne hcn, new_ne hcn, old_ne0 hcn, new_ne0 hcn, upd1_old _ _ _ _ _ hyn, upd1_old0 _ _ _ _ hyn, old_ne hyn, new_ne hyn, old_ne0 hyn, new_ne0 hyn, upd1_old _ _ _ _ _ hpn, upd1_old0 _ _ _ _ hpn, old_ne hpn, new_ne hpn, old_ne0 hpn, new_ne0 hpn], by simp only [go_sem, ↓reduceIte, hc, upd1_nei H.cY, upd1_old _ _ _ _ _ hbn, upd1_old0 _ _ _ _ hbn, old_ne hbn, new_ne hbn, old_ne0 hbn, new_ne0 hbn, upd1_old _ _ _ _ _ hcn, upd1_old0 _ _ _ _ hcn, old_ne hcn, new_ne hcn, old_ne0 hcn, new_ne0 hcn, upd1_old _ _ _ _ _ hyn, upd1_old0 _ _ _ _ hyn, old_ne hyn, new_ne hyn, old_ne0 hyn, new_ne0 hyn, upd1_old _ _ _ _ _ hpn, upd1_old0 _ _ _ _ hpn, old_ne hpn, new_ne hpn, old_ne0 hpn, new_ne0 hpn], by simp only [go_sem, ↓reduceIte]; exact congrArg some hset, by simp only [go_sem, ↓reduceIte, hp, upd1_nei (Ne.symm H.yP), upd1_old _ _ _ _ _ hbn, upd1_old0 _ _ _ _ hbn, old_ne hbn, new_ne hbn, old_ne0 hbn, new_ne0 hbn, upd1_old _ _ _ _ _ hcn, upd1_old0 _ _ _ _ hcn, old_ne hcn, new_ne hcn, old_ne0 hcn, new_ne0 hcn, upd1_old _ _ _ _ _ hyn, upd1_old0 _ _ _ _ hyn, old_ne hyn, new_ne hyn, old_ne0 hyn, new_ne0 hyn, upd1_old _ _ _ _ _ hpn, upd1_old0 _ _ _ _ hpn, old_ne hpn, new_ne hpn, old_ne0 hpn, new_ne0 hpn], H.co, H.ok, H.bc, H.bY, H.bP, H.cY, H.cP, H.yP⟩⟩, fun j hj j1 j2 j3 j4 => by simp only [go_sem, ↓reduceIte, upd1_nei j1, upd1_nei j2, upd1_nei j3, upd1_nei j4, upd1_old _ _ _ _ _ hj, upd1_old0 _ _ _ _ hj]⟩
set_option maxRecDepth 20000 in
set_option maxHeartbeats 4000000 in
theorem c_thr4 (hT : Thr b c y p t D S Z k h n) (h0 : S.co.getD k 0 ≠ 0) (eop : (t.code.getD k ⟨0, 0, 0, ⟨false, [], []⟩⟩).op = 4) : HCalls Tryz.prog 45 [.ptr b 0, .int .i64 k] h n (fun v h' n' => BkPost h n b c y p t D (thr0 D (t.code.getD k ⟨0, 0, 0, ⟨false, [], []⟩⟩) k S) v h' n') := by
  obtain ⟨H, hbn, hcn, hyn, hpn, hk, hm, hD, hZ, ly, lp, hd, hq, hs, ht, sy, sp⟩ := hT
  have hb := H.hb
  have hc := H.hc
  have hy := H.hy
  have hp := H.hp
  have hkZ : k < Z.length := by omega
  have gi : (t.code.map encI).getD k .undef = encI (t.code.getD k ⟨0, 0, 0, ⟨false, [], []⟩⟩) := by simp [List.getD, hk]
  have gb := get_b hkZ
  have lz := len_b Z
  have la : k * 3 ≤ Z.length * 3 := by omega
  have hk' : ((k : Nat) : Int) < (t.code.length : Nat) := by omega
  have hkz' : ((k : Nat) : Int) < (Z.length : Nat) := by omega
  have h0k : (0 : Int) ≤ (k : Nat) := by omega
  have hco : S.co.getD k 0 = (Z.getD k (0, true)).1 := by rw [← H.co]; simp [hkZ]
  have hok := getD_okB H.ok hkZ
  generalize t.code.getD k ⟨0, 0, 0, ⟨false, [], []⟩⟩ = i at *
  have e0 : thr0 D i k S = thrQ D i k (S.co.getD k 0) S := thr0_eq D i k S
  rw [e0]
  clear e0
  generalize hqq : S.co.getD k 0 = q at *
  generalize hpp : Z.getD k (0, true) = pp at *
  obtain ⟨q', fl⟩ := pp
  simp only at hco
  subst hco
  obtain rfl : fl = false := by
    cases fl with
    | false => rfl
    | true => exact absurd (hok rfl) h0
  simp only [encB, if_true, Bool.false_eq_true, if_false, encQ, encR, encW] at gb
  have s1 := c_qsign (q := q) (by omega)
  simp only [encQ, encR, encW] at s1
  have sg := dec_false (sign_ne h0)
  have gz : ∀ j, j < Z.length → qw (Z.getD j (0, true)).1 ≤ 13000 := fun j hj => hs _ (by rw [show Z.getD j (0, true) = Z[j] by simp [hj]]; exact List.getElem_mem _)
  unfold mayB at hm
  rw [if_neg (show ¬ i.op = 1 by omega)] at hm
  simp only [Bool.and_eq_true, List.all_eq_true] at hm
  obtain ⟨m1, m2, m3⟩ := hm
  have hr : ∀ r ∈ readsI i, 0 ≤ r ∧ r.toNat < Z.length := fun r hr => by have := belowB_iff.1 (m2 r hr); omega
  have n2 : ¬ i.op = 2 := by omega
  have n3 : ¬ i.op = 3 := by omega
  have et : thrQ D i k q S = { S with p := bump S.p i.a.toNat q } := by simp only [thrQ, if_neg n2, if_neg n3, if_pos eop]
  rw [et]
  have hkd : 0 ≤ i.a ∧ i.a < t.par := by
    rw [kindB, if_neg n2, if_neg n3, if_pos eop, Bool.and_eq_true] at m3
    exact belowB_iff.1 m3.1
  have a0 := hkd.1
  have a1 : i.a.toNat < S.p.length := by omega
  have a2 : i.a < (S.p.length : Nat) := by omega
  have ga := get_q a1
  have lq := len_q S.p
  have lA : i.a.toNat * 3 ≤ S.p.length * 3 := by omega
  have lE : i.a.toNat * 3 + 3 ≤ S.p.length * 3 := by omega
  have zy : qw (S.p.getD i.a.toNat 0) ≤ 13000 := sp _ (by rw [show S.p.getD i.a.toNat 0 = S.p[i.a.toNat] by simp [a1]]; exact List.getElem_mem _)
  have hadd := c_qadd (a := S.p.getD i.a.toNat 0) (b := q) (by omega) (by omega)
  have hset := lay_q a1 (S.p.getD i.a.toNat 0 + q)
  simp only [encQ, encR, encW] at hadd
  refine hcalls_of_AWR (pa := []) (fn := Tryz.f45) (rs := []) follows_mixed Tryz.func45 rfl rfl (by kernel_rfl) (by kernel_rfl) (by rw [Tryz.ntmps45]; simp) ?_
  simp only [go_sem, ↓reduceIte, hb, hc, hy, hp, gi, gb, lz, la, hk', hkz', h0k, List.length_map, encI, encW, upd1_old _ _ _ _ _ hbn, upd1_old0 _ _ _ _ hbn, old_ne hbn, new_ne hbn, old_ne0 hbn, new_ne0 hbn, upd1_old _ _ _ _ _ hcn, upd1_old0 _ _ _ _ hcn, old_ne hcn, new_ne hcn, old_ne0 hcn, new_ne0 hcn, upd1_old _ _ _ _ _ hyn, upd1_old0 _ _ _ _ hyn, old_ne hyn, new_ne hyn, old_ne0 hyn, new_ne0 hyn, upd1_old _ _ _ _ _ hpn, upd1_old0 _ _ _ _ hpn, old_ne hpn, new_ne hpn, old_ne0 hpn, new_ne0 hpn, a0, a2, ga, lq, lA, lE]
  refine callS_p s1 ?_
  simp only [go_sem, ↓reduceIte, beq_int, sg, dec_false n2, dec_false n3, dec_true eop, hb, hc, hy, hp, List.length_map, encQ, encR, encW, upd1_old _ _ _ _ _ hbn, upd1_old0 _ _ _ _ hbn, old_ne hbn, new_ne hbn, old_ne0 hbn, new_ne0 hbn, upd1_old _ _ _ _ _ hcn, upd1_old0 _ _ _ _ hcn, old_ne hcn, new_ne hcn, old_ne0 hcn, new_ne0 hcn, upd1_old _ _ _ _ _ hyn, upd1_old0 _ _ _ _ hyn, old_ne hyn, new_ne hyn, old_ne0 hyn, new_ne0 hyn, upd1_old _ _ _ _ _ hpn, upd1_old0 _ _ _ _ hpn, old_ne hpn, new_ne hpn, old_ne0 hpn, new_ne0 hpn, a0, a2, ga, lq, lA, lE]
  refine callD_p hadd ?_
  simp only [go_sem, ↓reduceIte, hb, hc, hy, hp, List.length_map, encQ, encR, encW, upd1_old _ _ _ _ _ hbn, upd1_old0 _ _ _ _ hbn, old_ne hbn, new_ne hbn, old_ne0 hbn, new_ne0 hbn, upd1_old _ _ _ _ _ hcn, upd1_old0 _ _ _ _ hcn, old_ne hcn, new_ne hcn, old_ne0 hcn, new_ne0 hcn, upd1_old _ _ _ _ _ hyn, upd1_old0 _ _ _ _ hyn, old_ne hyn, new_ne hyn, old_ne0 hyn, new_ne0 hyn, upd1_old _ _ _ _ _ hpn, upd1_old0 _ _ _ _ hpn, old_ne hpn, new_ne hpn, old_ne0 hpn, new_ne0 hpn, a0, a2, ga, lq, lA, lE]
  refine .mk (.tup []) (by simp only [go_sem, ↓reduceIte, resR, resAll, resA] <;> rfl) ⟨rfl, ⟨Z, ⟨by simp only [go_sem, ↓reduceIte, hb, bump_len, upd1_nei H.bP, upd1_old _ _ _ _ _ hbn, upd1_old0 _ _ _ _ hbn, old_ne hbn, new_ne hbn, old_ne0 hbn, new_ne0 hbn, upd1_old _ _ _ _ _ hcn, upd1_old0 _ _ _ _ hcn, old_ne hcn, new_ne hcn, old_ne0 hcn, new_ne0 hcn, upd1_old _ _ _ _ _ hyn, upd1_old0 _ _ _ _ hyn, old_ne hyn, new_ne hyn, old_ne0 hyn, new_ne0 hyn, upd1_old _ _ _ _ _ hpn, upd1_old0 _ _ _ _ hpn, old_ne hpn, new_ne hpn, old_ne0 hpn, new_ne0 hpn], by simp only [go_sem, ↓reduceIte, hc, upd1_nei H.cP, upd1_old _ _ _ _ _ hbn, upd1_old0 _ _ _ _ hbn, old_ne hbn, new_ne hbn, old_ne0 hbn, new_ne0 hbn, upd1_old _ _ _ _ _ hcn, upd1_old0 _ _ _ _ hcn, old_ne hcn, new_ne hcn, old_ne0 hcn, new_ne0 hcn, upd1_old _ _ _ _ _ hyn, upd1_old0 _ _ _ _ hyn, old_ne hyn, new_ne hyn, old_ne0 hyn, new_ne0 hyn, upd1_old _ _ _ _ _ hpn, upd1_old0 _ _ _ _ hpn, old_ne hpn, new_ne hpn, old_ne0 hpn, new_ne0 hpn], by simp only [go_sem, ↓reduceIte, hy, upd1_nei H.yP, upd1_old _ _ _ _ _ hbn, upd1_old0 _ _ _ _ hbn, old_ne hbn, new_ne hbn, old_ne0 hbn, new_ne0 hbn, upd1_old _ _ _ _ _ hcn, upd1_old0 _ _ _ _ hcn, old_ne hcn, new_ne hcn, old_ne0 hcn, new_ne0 hcn, upd1_old _ _ _ _ _ hyn, upd1_old0 _ _ _ _ hyn, old_ne hyn, new_ne hyn, old_ne0 hyn, new_ne0 hyn, upd1_old _ _ _ _ _ hpn, upd1_old0 _ _ _ _ hpn, old_ne hpn, new_ne hpn, old_ne0 hpn, new_ne0 hpn], by simp only [go_sem, ↓reduceIte]; exact congrArg some hset, H.co, H.ok, H.bc, H.bY, H.bP, H.cY, H.cP, H.yP⟩⟩, fun j hj j1 j2 j3 j4 => by simp only [go_sem, ↓reduceIte, upd1_nei j1, upd1_nei j2, upd1_nei j3, upd1_nei j4, upd1_old _ _ _ _ _ hj, upd1_old0 _ _ _ _ hj]⟩
set_option maxRecDepth 20000 in
set_option maxHeartbeats 4000000 in
theorem c_thr6 (hT : Thr b c y p t D S Z k h n) (h0 : S.co.getD k 0 ≠ 0) (eop : (t.code.getD k ⟨0, 0, 0, ⟨false, [], []⟩⟩).op = 6) : HCalls Tryz.prog 45 [.ptr b 0, .int .i64 k] h n (fun v h' n' => BkPost h n b c y p t D (thr0 D (t.code.getD k ⟨0, 0, 0, ⟨false, [], []⟩⟩) k S) v h' n') := by
  obtain ⟨H, hbn, hcn, hyn, hpn, hk, hm, hD, hZ, ly, lp, hd, hq, hs, ht, sy, sp⟩ := hT
  have hb := H.hb
  have hc := H.hc
  have hy := H.hy
  have hp := H.hp
  have hkZ : k < Z.length := by omega
  have gi : (t.code.map encI).getD k .undef = encI (t.code.getD k ⟨0, 0, 0, ⟨false, [], []⟩⟩) := by simp [List.getD, hk]
  have gb := get_b hkZ
  have lz := len_b Z
  have la : k * 3 ≤ Z.length * 3 := by omega
  have hk' : ((k : Nat) : Int) < (t.code.length : Nat) := by omega
  have hkz' : ((k : Nat) : Int) < (Z.length : Nat) := by omega
  have h0k : (0 : Int) ≤ (k : Nat) := by omega
  have hco : S.co.getD k 0 = (Z.getD k (0, true)).1 := by rw [← H.co]; simp [hkZ]
  have hok := getD_okB H.ok hkZ
  generalize t.code.getD k ⟨0, 0, 0, ⟨false, [], []⟩⟩ = i at *
  have e0 : thr0 D i k S = thrQ D i k (S.co.getD k 0) S := thr0_eq D i k S
  rw [e0]
  clear e0
  generalize hqq : S.co.getD k 0 = q at *
  generalize hpp : Z.getD k (0, true) = pp at *
  obtain ⟨q', fl⟩ := pp
  simp only at hco
  subst hco
  obtain rfl : fl = false := by
    cases fl with
    | false => rfl
    | true => exact absurd (hok rfl) h0
  simp only [encB, if_true, Bool.false_eq_true, if_false, encQ, encR, encW] at gb
  have s1 := c_qsign (q := q) (by omega)
  simp only [encQ, encR, encW] at s1
  have sg := dec_false (sign_ne h0)
  have gz : ∀ j, j < Z.length → qw (Z.getD j (0, true)).1 ≤ 13000 := fun j hj => hs _ (by rw [show Z.getD j (0, true) = Z[j] by simp [hj]]; exact List.getElem_mem _)
  unfold mayB at hm
  rw [if_neg (show ¬ i.op = 1 by omega)] at hm
  simp only [Bool.and_eq_true, List.all_eq_true] at hm
  obtain ⟨m1, m2, m3⟩ := hm
  have hr : ∀ r ∈ readsI i, 0 ≤ r ∧ r.toNat < Z.length := fun r hr => by have := belowB_iff.1 (m2 r hr); omega
  have n2 : ¬ i.op = 2 := by omega
  have n3 : ¬ i.op = 3 := by omega
  have n4 : ¬ i.op = 4 := by omega
  have et : thrQ D i k q S = S.send i.a.toNat (-q) := by simp only [thrQ, if_neg n2, if_neg n3, if_neg n4, if_pos eop]
  rw [et]
  obtain ⟨a0, a1⟩ := hr i.a (by rw [readsI, if_pos (.inl eop)]; simp)
  have zq := qw_neg q
  have ga := gz _ a1
  have hneg := c_qneg (a := q) (by omega)
  have hsend := fun H' e1 e2 => oloc_sb b c y p t D S Z i.a.toNat (cq (-q)) H' e1 e2 H.bc a1 H.ok (by omega) (okR_cq (by omega))
  rw [show ((i.a.toNat : Nat) : Int) = i.a by omega] at hsend
  simp only [rv_cq] at hsend
  simp only [encQ, encR, encW] at hneg hsend
  refine hcalls_of_AWR (pa := []) (fn := Tryz.f45) (rs := []) follows_mixed Tryz.func45 rfl rfl (by kernel_rfl) (by kernel_rfl) (by rw [Tryz.ntmps45]; simp) ?_
  simp only [go_sem, ↓reduceIte, hb, hc, hy, hp, gi, gb, lz, la, hk', hkz', h0k, List.length_map, encI, encW, upd1_old _ _ _ _ _ hbn, upd1_old0 _ _ _ _ hbn, old_ne hbn, new_ne hbn, old_ne0 hbn, new_ne0 hbn, upd1_old _ _ _ _ _ hcn, upd1_old0 _ _ _ _ hcn, old_ne hcn, new_ne hcn, old_ne0 hcn, new_ne0 hcn, upd1_old _ _ _ _ _ hyn, upd1_old0 _ _ _ _ hyn, old_ne hyn, new_ne hyn, old_ne0 hyn, new_ne0 hyn, upd1_old _ _ _ _ _ hpn, upd1_old0 _ _ _ _ hpn, old_ne hpn, new_ne hpn, old_ne0 hpn, new_ne0 hpn]
  refine callS_p s1 ?_
  simp only [go_sem, ↓reduceIte, beq_int, sg, dec_false n2, dec_false n3, dec_false n4, dec_true eop, hb, hc, hy, hp, List.length_map, encQ, encR, encW, upd1_old _ _ _ _ _ hbn, upd1_old0 _ _ _ _ hbn, old_ne hbn, new_ne hbn, old_ne0 hbn, new_ne0 hbn, upd1_old _ _ _ _ _ hcn, upd1_old0 _ _ _ _ hcn, old_ne hcn, new_ne hcn, old_ne0 hcn, new_ne0 hcn, upd1_old _ _ _ _ _ hyn, upd1_old0 _ _ _ _ hyn, old_ne hyn, new_ne hyn, old_ne0 hyn, new_ne0 hyn, upd1_old _ _ _ _ _ hpn, upd1_old0 _ _ _ _ hpn, old_ne hpn, new_ne hpn, old_ne0 hpn, new_ne0 hpn]
  refine callD_p hneg ?_
  simp only [go_sem, ↓reduceIte, hb, hc, hy, hp, List.length_map, encQ, encR, encW, upd1_old _ _ _ _ _ hbn, upd1_old0 _ _ _ _ hbn, old_ne hbn, new_ne hbn, old_ne0 hbn, new_ne0 hbn, upd1_old _ _ _ _ _ hcn, upd1_old0 _ _ _ _ hcn, old_ne hcn, new_ne hcn, old_ne0 hcn, new_ne0 hcn, upd1_old _ _ _ _ _ hyn, upd1_old0 _ _ _ _ hyn, old_ne hyn, new_ne hyn, old_ne0 hyn, new_ne0 hyn, upd1_old _ _ _ _ _ hpn, upd1_old0 _ _ _ _ hpn, old_ne hpn, new_ne hpn, old_ne0 hpn, new_ne0 hpn]
  refine callD_o (hsend _ (by simp only [go_sem, ↓reduceIte, hb, encW, upd1_old _ _ _ _ _ hbn, upd1_old0 _ _ _ _ hbn, old_ne hbn, new_ne hbn, old_ne0 hbn, new_ne0 hbn, upd1_old _ _ _ _ _ hcn, upd1_old0 _ _ _ _ hcn, old_ne hcn, new_ne hcn, old_ne0 hcn, new_ne0 hcn, upd1_old _ _ _ _ _ hyn, upd1_old0 _ _ _ _ hyn, old_ne hyn, new_ne hyn, old_ne0 hyn, new_ne0 hyn, upd1_old _ _ _ _ _ hpn, upd1_old0 _ _ _ _ hpn, old_ne hpn, new_ne hpn, old_ne0 hpn, new_ne0 hpn]) (by simp only [go_sem, ↓reduceIte, hc, upd1_old _ _ _ _ _ hbn, upd1_old0 _ _ _ _ hbn, old_ne hbn, new_ne hbn, old_ne0 hbn, new_ne0 hbn, upd1_old _ _ _ _ _ hcn, upd1_old0 _ _ _ _ hcn, old_ne hcn, new_ne hcn, old_ne0 hcn, new_ne0 hcn, upd1_old _ _ _ _ _ hyn, upd1_old0 _ _ _ _ hyn, old_ne hyn, new_ne hyn, old_ne0 hyn, new_ne0 hyn, upd1_old _ _ _ _ _ hpn, upd1_old0 _ _ _ _ hpn, old_ne hpn, new_ne hpn, old_ne0 hpn, new_ne0 hpn])) rfl ?_ (newOk_one (blk := flatC encB Z) (by simp only [go_sem, ↓reduceIte, hc, upd1_old _ _ _ _ _ hbn, upd1_old0 _ _ _ _ hbn, old_ne hbn, new_ne hbn, old_ne0 hbn, new_ne0 hbn, upd1_old _ _ _ _ _ hcn, upd1_old0 _ _ _ _ hcn, old_ne hcn, new_ne hcn, old_ne0 hcn, new_ne0 hcn, upd1_old _ _ _ _ _ hyn, upd1_old0 _ _ _ _ hyn, old_ne hyn, new_ne hyn, old_ne0 hyn, new_ne0 hyn, upd1_old _ _ _ _ _ hpn, upd1_old0 _ _ _ _ hpn, old_ne hpn, new_ne hpn, old_ne0 hpn, new_ne0 hpn])) ?_
  · simp only [go_sem, ↓reduceIte, H.bc, Ne.symm H.bc, H.bY, Ne.symm H.bY, H.bP, Ne.symm H.bP, H.cY, Ne.symm H.cY, H.cP, Ne.symm H.cP, H.yP, Ne.symm H.yP, upd1_old _ _ _ _ _ hbn, upd1_old0 _ _ _ _ hbn, old_ne hbn, new_ne hbn, old_ne0 hbn, new_ne0 hbn, upd1_old _ _ _ _ _ hcn, upd1_old0 _ _ _ _ hcn, old_ne hcn, new_ne hcn, old_ne0 hcn, new_ne0 hcn, upd1_old _ _ _ _ _ hyn, upd1_old0 _ _ _ _ hyn, old_ne hyn, new_ne hyn, old_ne0 hyn, new_ne0 hyn, upd1_old _ _ _ _ _ hpn, upd1_old0 _ _ _ _ hpn, old_ne hpn, new_ne hpn, old_ne0 hpn, new_ne0 hpn]
  simp only [go_sem, ↓reduceIte]
  refine .mk (.tup []) (by simp only [go_sem, ↓reduceIte, resR, resAll, resA] <;> rfl) ⟨rfl, ⟨_, H.send (n := n) (h' := upd1 h c (some (flatC encB (zsend Z i.a.toNat (-q))))) (by omega) (by simp only [go_sem, ↓reduceIte]) (fun j hj hjc => upd1_nei hjc) hbn hyn hpn |>.eq (by simp only [go_sem, ↓reduceIte, upd1_nei H.bc, upd1_old _ _ _ _ _ hbn, upd1_old0 _ _ _ _ hbn, old_ne hbn, new_ne hbn, old_ne0 hbn, new_ne0 hbn, upd1_old _ _ _ _ _ hcn, upd1_old0 _ _ _ _ hcn, old_ne hcn, new_ne hcn, old_ne0 hcn, new_ne0 hcn, upd1_old _ _ _ _ _ hyn, upd1_old0 _ _ _ _ hyn, old_ne hyn, new_ne hyn, old_ne0 hyn, new_ne0 hyn, upd1_old _ _ _ _ _ hpn, upd1_old0 _ _ _ _ hpn, old_ne hpn, new_ne hpn, old_ne0 hpn, new_ne0 hpn]) (by simp only [go_sem, ↓reduceIte]) (by simp only [go_sem, ↓reduceIte, upd1_nei (Ne.symm H.cY), upd1_old _ _ _ _ _ hbn, upd1_old0 _ _ _ _ hbn, old_ne hbn, new_ne hbn, old_ne0 hbn, new_ne0 hbn, upd1_old _ _ _ _ _ hcn, upd1_old0 _ _ _ _ hcn, old_ne hcn, new_ne hcn, old_ne0 hcn, new_ne0 hcn, upd1_old _ _ _ _ _ hyn, upd1_old0 _ _ _ _ hyn, old_ne hyn, new_ne hyn, old_ne0 hyn, new_ne0 hyn, upd1_old _ _ _ _ _ hpn, upd1_old0 _ _ _ _ hpn, old_ne hpn, new_ne hpn, old_ne0 hpn, new_ne0 hpn]) (by simp only [go_sem, ↓reduceIte, upd1_nei (Ne.symm H.cP), upd1_old _ _ _ _ _ hbn, upd1_old0 _ _ _ _ hbn, old_ne hbn, new_ne hbn, old_ne0 hbn, new_ne0 hbn, upd1_old _ _ _ _ _ hcn, upd1_old0 _ _ _ _ hcn, old_ne hcn, new_ne hcn, old_ne0 hcn, new_ne0 hcn, upd1_old _ _ _ _ _ hyn, upd1_old0 _ _ _ _ hyn, old_ne hyn, new_ne hyn, old_ne0 hyn, new_ne0 hyn, upd1_old _ _ _ _ _ hpn, upd1_old0 _ _ _ _ hpn, old_ne hpn, new_ne hpn, old_ne0 hpn, new_ne0 hpn])⟩, fun j hj j1 j2 j3 j4 => by simp only [go_sem, ↓reduceIte, upd1_nei j1, upd1_nei j2, upd1_nei j3, upd1_nei j4, upd1_old _ _ _ _ _ hj, upd1_old0 _ _ _ _ hj]⟩
end
end Go.Proofs.YtopmghclhgihfaaGreatDoor

set_option linter.unusedVariables false
set_option linter.unusedSimpArgs false
set_option maxRecDepth 10000
namespace Go.Proofs.YtopmghclhgihfaaGreatDoor
open Go Go.Ab Go.Num

theorem BkH.send' {h h' : Heap} {b c y p : Nat} {t : Tp} {D : List Rat} {S : Bk} {Z : List (Rat × Bool)} (H : BkH h b c y p t D S Z) {a : Nat} {x : Rat} (ha : a < Z.length) (hc : h' c = some (flatC encB (zsend Z a x))) (e1 : h' b = h b) (e2 : h' y = h y) (e3 : h' p = h p) :
    BkH h' b c y p t D (S.send a x) (zsend Z a x) :=
  ⟨by rw [e1, H.hb, zsend_len]; rfl, hc, by rw [e2, H.hy]; rfl, by rw [e3, H.hp]; rfl, by rw [zsend_fst ha, H.co]; rfl, zsend_ok H.ok _ _, H.bc, H.bY, H.bP, H.cY, H.cP, H.yP⟩
theorem BkH.send2 {h h' : Heap} {b c y p : Nat} {t : Tp} {D : List Rat} {S : Bk} {Z : List (Rat × Bool)} (H : BkH h b c y p t D S Z) {a a' : Nat} {x x' : Rat} (ha : a < Z.length) (ha' : a' < Z.length) (hc : h' c = some (flatC encB (zsend (zsend Z a x) a' x'))) (e1 : h' b = h b) (e2 : h' y = h y) (e3 : h' p = h p) :
    BkH h' b c y p t D ((S.send a x).send a' x') (zsend (zsend Z a x) a' x') :=
  ⟨by rw [e1, H.hb, zsend_len, zsend_len]; rfl, hc, by rw [e2, H.hy]; rfl, by rw [e3, H.hp]; rfl, by rw [zsend_fst (by rw [zsend_len]; exact ha'), zsend_fst ha, H.co]; rfl, zsend_ok (zsend_ok H.ok _ _) _ _, H.bc, H.bY, H.bP, H.cY, H.cP, H.yP⟩
theorem c_sb (b c y p : Nat) (t : Tp) (D : List Rat) (S : Bk) (Z : List (Rat × Bool)) (a : Nat) (f : Fr) (h : Heap) (n : Nat) (hb : h b = some [.sl 6 (t.code.map encI), .sl 1 (t.outs.map i64), .int .i64 t.dim, .int .i64 t.par, .sl 3 (D.map encQ), .own c 0 Z.length 3, .bool (cq S.t).neg, encW (cq S.t).n, encW (cq S.t).d, .own y 0 S.y.length 3, .own p 0 S.p.length 3])
    (hc : h c = some (flatC encB Z)) (hbn : b < n) (hcn : c < n) (hbc : b ≠ c) (ha : a < Z.length) (hz : okB Z) (hs : qw (Z.getD a (0, true)).1 ≤ 15000) (hf : okR 15000 f) :
    HCalls Tryz.prog 41 [.ptr b 0, .int .i64 a, encR f] h n (fun v h' n' => v = .tup [] ∧ h' c = some (flatC encB (zsend Z a (rv f))) ∧ ∀ j, j < n → j ≠ c → h' j = h j) := c_send b c Z a f _ _ _ _ _ _ _ _ _ _ h n hb hc hbn hcn hbc ha hz hs hf
theorem oloc_bquo (b c : Nat) (Z : List (Rat × Bool)) (D : List Rat) (i : Ins) (x0 x1 x2 x3 x6 x7 x8 x9 x10 : AV) (h : Heap) (q r : Rat) (hb : h b = some [x0, x1, x2, x3, .sl 3 (D.map encQ), .own c 0 Z.length 3, x6, x7, x8, x9, x10]) (hc : h c = some (flatC encB Z)) (hbc : b ≠ c)
    (a0 : 0 ≤ i.a) (a1 : i.a.toNat < Z.length) (b0 : 0 ≤ i.b) (b1 : i.b.toNat < Z.length) (hD : D.length = Z.length) (hz : okB Z) (hs : ∀ p ∈ Z, qw p.1 ≤ 14000) (hq : qw q ≤ 50) (hr : qw r ≤ 50) (hd : ∀ x ∈ D, qw x ≤ 50) :
    OLoc Tryz.prog 74 [.ptr b 0, encI i, encQ q, encQ r] h { v := .tup [], up := [(c, some (flatC encB (zsend (zsend Z i.a.toNat (q / D.getD i.b.toNat 0)) i.b.toNat (-(q / D.getD i.b.toNat 0 * r)))))], rd := [b] } :=
  oloc_one (c_bquo b c Z D i x0 x1 x2 x3 x6 x7 x8 x9 x10 h (b + c + 1) q r hb hc (by omega) (by omega) hbc a0 a1 b0 b1 hD hz hs hq hr hd).1 ⟨_, hc⟩ fun h' n hag hlt =>
    c_bquo b c Z D i x0 x1 x2 x3 x6 x7 x8 x9 x10 h' n q r ((hag b (by simp)).trans hb) ((hag c (by simp)).trans hc) (hlt b (by simp) ⟨_, hb⟩) (hlt c (by simp) ⟨_, hc⟩) hbc a0 a1 b0 b1 hD hz hs hq hr hd
theorem oloc_bpow (b c : Nat) (Z : List (Rat × Bool)) (D : List Rat) (i : Ins) (x0 x1 x2 x3 x6 x7 x8 x9 x10 : AV) (h : Heap) (q r : Rat) (hb : h b = some [x0, x1, x2, x3, .sl 3 (D.map encQ), .own c 0 Z.length 3, x6, x7, x8, x9, x10]) (hc : h c = some (flatC encB Z)) (hbc : b ≠ c)
    (a0 : 0 ≤ i.a) (a1 : i.a.toNat < Z.length) (e1 : -8 ≤ i.b) (e2 : i.b ≤ 8) (hD : D.length = Z.length) (hz : okB Z) (hs : ∀ p ∈ Z, qw p.1 ≤ 14000) (hq : qw q ≤ 50) (hr : qw r ≤ 50) (hd : ∀ x ∈ D, qw x ≤ 50) :
    OLoc Tryz.prog 75 [.ptr b 0, encI i, encQ q, encQ r] h { v := .tup [], up := [(c, some (flatC encB (zsend Z i.a.toNat (q * ((i.b : Rat) * turnQ (D.getD i.a.toNat 0) i.b r)))))], rd := [b] } :=
  oloc_one (c_bpow b c Z D i x0 x1 x2 x3 x6 x7 x8 x9 x10 h (b + c + 1) q r hb hc (by omega) (by omega) hbc a0 a1 e1 e2 hD hz hs hq hr hd).1 ⟨_, hc⟩ fun h' n hag hlt =>
    c_bpow b c Z D i x0 x1 x2 x3 x6 x7 x8 x9 x10 h' n q r ((hag b (by simp)).trans hb) ((hag c (by simp)).trans hc) (hlt b (by simp) ⟨_, hb⟩) (hlt c (by simp) ⟨_, hc⟩) hbc a0 a1 e1 e2 hD hz hs hq hr hd

section
variable (b c y p : Nat) (t : Tp) (D : List Rat) (S : Bk) (Z : List (Rat × Bool)) (k : Nat) (h : Heap) (n : Nat)
set_option maxRecDepth 20000 in
set_option maxHeartbeats 4000000 in
theorem c_thr7 (hT : Thr b c y p t D S Z k h n) (h0 : S.co.getD k 0 ≠ 0) (eop : (t.code.getD k ⟨0, 0, 0, ⟨false, [], []⟩⟩).op = 7) : HCalls Tryz.prog 45 [.ptr b 0, .int .i64 k] h n (fun v h' n' => BkPost h n b c y p t D (thr0 D (t.code.getD k ⟨0, 0, 0, ⟨false, [], []⟩⟩) k S) v h' n') := by
  obtain ⟨H, hbn, hcn, hyn, hpn, hk, hm, hD, hZ, ly, lp, hd, hq, hs, ht, sy, sp⟩ := hT
  have hb := H.hb
  have hc := H.hc
  have hy := H.hy
  have hp := H.hp
  have hkZ : k < Z.length := by omega
  have gi : (t.code.map encI).getD k .undef = encI (t.code.getD k ⟨0, 0, 0, ⟨false, [], []⟩⟩) := by simp [List.getD, hk]
  have gb := get_b hkZ
  have lz := len_b Z
  have la : k * 3 ≤ Z.length * 3 := by omega
  have hk' : ((k : Nat) : Int) < (t.code.length : Nat) := by omega
  have hkz' : ((k : Nat) : Int) < (Z.length : Nat) := by omega
  have h0k : (0 : Int) ≤ (k : Nat) := by omega
  have hco : S.co.getD k 0 = (Z.getD k (0, true)).1 := by rw [← H.co]; simp [hkZ]
  have hok := getD_okB H.ok hkZ
  generalize t.code.getD k ⟨0, 0, 0, ⟨false, [], []⟩⟩ = i at *
  have e0 : thr0 D i k S = thrQ D i k (S.co.getD k 0) S := thr0_eq D i k S
  rw [e0]
  clear e0
  generalize hqq : S.co.getD k 0 = q at *
  generalize hpp : Z.getD k (0, true) = pp at *
  obtain ⟨q', fl⟩ := pp
  simp only at hco
  subst hco
  obtain rfl : fl = false := by
    cases fl with
    | false => rfl
    | true => exact absurd (hok rfl) h0
  simp only [encB, if_true, Bool.false_eq_true, if_false, encQ, encR, encW] at gb
  have s1 := c_qsign (q := q) (by omega)
  simp only [encQ, encR, encW] at s1
  have sg := dec_false (sign_ne h0)
  have gz : ∀ j, j < Z.length → qw (Z.getD j (0, true)).1 ≤ 13000 := fun j hj => hs _ (by rw [show Z.getD j (0, true) = Z[j] by simp [hj]]; exact List.getElem_mem _)
  unfold mayB at hm
  rw [if_neg (show ¬ i.op = 1 by omega)] at hm
  simp only [Bool.and_eq_true, List.all_eq_true] at hm
  obtain ⟨m1, m2, m3⟩ := hm
  have hr : ∀ r ∈ readsI i, 0 ≤ r ∧ r.toNat < Z.length := fun r hr => by have := belowB_iff.1 (m2 r hr); omega
  have n2 : ¬ i.op = 2 := by omega
  have n3 : ¬ i.op = 3 := by omega
  have n4 : ¬ i.op = 4 := by omega
  have n6 : ¬ i.op = 6 := by omega
  have et : thrQ D i k q S = (S.send i.a.toNat q).send i.b.toNat q := by simp only [thrQ, if_neg n2, if_neg n3, if_neg n4, if_neg n6, if_pos eop]
  rw [et]
  obtain ⟨a0, a1⟩ := hr i.a (by rw [readsI, if_neg (by omega), if_pos (by omega)]; simp)
  obtain ⟨b0, b1⟩ := hr i.b (by rw [readsI, if_neg (by omega), if_pos (by omega)]; simp)
  have ga := gz _ a1
  have hs1 : ∀ x, qw x ≤ 500 → ∀ pp ∈ zsend Z i.a.toNat x, qw pp.1 ≤ 14000 := fun x hx pp hpp => Nat.le_trans (zsend_sz hs _ a1 hx pp hpp) (by omega)
  have gz1 : ∀ x, qw x ≤ 500 → qw ((zsend Z i.a.toNat x).getD i.b.toNat (0, true)).1 ≤ 14000 := fun x hx => hs1 x hx _ (by rw [show (zsend Z i.a.toNat x).getD i.b.toNat (0, true) = (zsend Z i.a.toNat x)[i.b.toNat]'(by rw [zsend_len]; exact b1) by simp [zsend_len, b1]]; exact List.getElem_mem _)
  have ia : ((i.a.toNat : Nat) : Int) = i.a := by omega
  have ib : ((i.b.toNat : Nat) : Int) = i.b := by omega
  have g2 := gz1 q (by omega)
  have hsend := fun H' N e1 e2 e3 e4 => c_sb b c y p t D S Z i.a.toNat (cq q) H' N e1 e2 e3 e4 H.bc a1 H.ok (by omega) (okR_cq (by omega))
  have hsend2 := fun H' N e1 e2 e3 e4 => c_sb b c y p t D S (zsend Z i.a.toNat q) i.b.toNat (cq q) H' N e1 e2 e3 e4 H.bc (by rw [zsend_len]; exact b1) (zsend_ok H.ok _ _) (by omega) (okR_cq (by omega))
  rw [ia] at hsend
  rw [ib] at hsend2
  simp only [rv_cq, zsend_len] at hsend hsend2
  simp only [encQ, encR, encW] at hsend hsend2
  refine hcalls_of_AWR (pa := []) (fn := Tryz.f45) (rs := []) follows_mixed Tryz.func45 rfl rfl (by kernel_rfl) (by kernel_rfl) (by rw [Tryz.ntmps45]; simp) ?_
  simp only [go_sem, ↓reduceIte, hb, hc, hy, hp, gi, gb, lz, la, hk', hkz', h0k, List.length_map, encI, encW, upd1_old _ _ _ _ _ hbn, upd1_old0 _ _ _ _ hbn, old_ne hbn, new_ne hbn, old_ne0 hbn, new_ne0 hbn, upd1_old _ _ _ _ _ hcn, upd1_old0 _ _ _ _ hcn, old_ne hcn, new_ne hcn, old_ne0 hcn, new_ne0 hcn, upd1_old _ _ _ _ _ hyn, upd1_old0 _ _ _ _ hyn, old_ne hyn, new_ne hyn, old_ne0 hyn, new_ne0 hyn, upd1_old _ _ _ _ _ hpn, upd1_old0 _ _ _ _ hpn, old_ne hpn, new_ne hpn, old_ne0 hpn, new_ne0 hpn]
  refine callS_p s1 ?_
  simp only [go_sem, ↓reduceIte, beq_int, sg, dec_false n2, dec_false n3, dec_false n4, dec_false n6, dec_true eop, hb, hc, hy, hp, List.length_map, encI, encQ, encR, encW, upd1_old _ _ _ _ _ hbn, upd1_old0 _ _ _ _ hbn, old_ne hbn, new_ne hbn, old_ne0 hbn, new_ne0 hbn, upd1_old _ _ _ _ _ hcn, upd1_old0 _ _ _ _ hcn, old_ne hcn, new_ne hcn, old_ne0 hcn, new_ne0 hcn, upd1_old _ _ _ _ _ hyn, upd1_old0 _ _ _ _ hyn, old_ne hyn, new_ne hyn, old_ne0 hyn, new_ne0 hyn, upd1_old _ _ _ _ _ hpn, upd1_old0 _ _ _ _ hpn, old_ne hpn, new_ne hpn, old_ne0 hpn, new_ne0 hpn]
  refine callS_h (hsend _ _ (by simp only [go_sem, ↓reduceIte, hb, encW, upd1_old _ _ _ _ _ hbn, upd1_old0 _ _ _ _ hbn, old_ne hbn, new_ne hbn, old_ne0 hbn, new_ne0 hbn, upd1_old _ _ _ _ _ hcn, upd1_old0 _ _ _ _ hcn, old_ne hcn, new_ne hcn, old_ne0 hcn, new_ne0 hcn, upd1_old _ _ _ _ _ hyn, upd1_old0 _ _ _ _ hyn, old_ne hyn, new_ne hyn, old_ne0 hyn, new_ne0 hyn, upd1_old _ _ _ _ _ hpn, upd1_old0 _ _ _ _ hpn, old_ne hpn, new_ne hpn, old_ne0 hpn, new_ne0 hpn]) (by simp only [go_sem, ↓reduceIte, hc, upd1_old _ _ _ _ _ hbn, upd1_old0 _ _ _ _ hbn, old_ne hbn, new_ne hbn, old_ne0 hbn, new_ne0 hbn, upd1_old _ _ _ _ _ hcn, upd1_old0 _ _ _ _ hcn, old_ne hcn, new_ne hcn, old_ne0 hcn, new_ne0 hcn, upd1_old _ _ _ _ _ hyn, upd1_old0 _ _ _ _ hyn, old_ne hyn, new_ne hyn, old_ne0 hyn, new_ne0 hyn, upd1_old _ _ _ _ _ hpn, upd1_old0 _ _ _ _ hpn, old_ne hpn, new_ne hpn, old_ne0 hpn, new_ne0 hpn]) (by simp only [go_sem, ↓reduceIte]; omega) (by simp only [go_sem, ↓reduceIte]; omega)) ?_
  rintro v h1 n1 hn1 ⟨rfl, hc1, hk1⟩
  simp only [go_sem, ↓reduceIte] at hn1 hk1
  have k15 := hk1 (n + 15) (by omega) (by omega)
  have k16 := hk1 (n + 16) (by omega) (by omega)
  have kb := hk1 b (by omega) H.bc
  have kk : ∀ j, j < n → j ≠ c → h1 j = h j := fun j hj hjc => by rw [hk1 j (by omega) hjc]; simp only [go_sem, ↓reduceIte, upd1_old _ _ _ _ _ hj, upd1_old0 _ _ _ _ hj]
  clear hk1
  simp only [go_sem, ↓reduceIte, hb, encW, upd1_old _ _ _ _ _ hbn, upd1_old0 _ _ _ _ hbn, old_ne hbn, new_ne hbn, old_ne0 hbn, new_ne0 hbn, upd1_old _ _ _ _ _ hcn, upd1_old0 _ _ _ _ hcn, old_ne hcn, new_ne hcn, old_ne0 hcn, new_ne0 hcn, upd1_old _ _ _ _ _ hyn, upd1_old0 _ _ _ _ hyn, old_ne hyn, new_ne hyn, old_ne0 hyn, new_ne0 hyn, upd1_old _ _ _ _ _ hpn, upd1_old0 _ _ _ _ hpn, old_ne hpn, new_ne hpn, old_ne0 hpn, new_ne0 hpn] at k15 k16 kb
  have hcn1 : c < n1 := by omega
  have hbn1 : b < n1 := by omega
  simp only [go_sem, ↓reduceIte, kb, hc1, k15, k16]
  refine callS_h (hsend2 _ _ (by simp only [go_sem, ↓reduceIte, kb]) (by simp only [go_sem, ↓reduceIte, hc1]) (by simp only [go_sem, ↓reduceIte]; omega) (by simp only [go_sem, ↓reduceIte]; omega)) ?_
  rintro v h2 n2 hn2 ⟨rfl, hc2, hk2⟩
  simp only [go_sem, ↓reduceIte] at hn2 hk2
  have kk2 : ∀ j, j < n → j ≠ c → h2 j = h j := fun j hj hjc => by rw [hk2 j (by omega) hjc]; exact kk j hj hjc
  simp only [go_sem, ↓reduceIte]
  refine .mk (.tup []) (by simp only [go_sem, ↓reduceIte, resR, resAll, resA] <;> rfl) ⟨rfl, ⟨_, H.send2 (x := q) (x' := q) a1 b1 (by simp only [go_sem, ↓reduceIte]; exact hc2) (by simp only [go_sem, ↓reduceIte]; exact kk2 b hbn H.bc) (by simp only [go_sem, ↓reduceIte]; exact kk2 y hyn (Ne.symm H.cY)) (by simp only [go_sem, ↓reduceIte]; exact kk2 p hpn (Ne.symm H.cP))⟩, fun j hj j1 j2 j3 j4 => by simp only [go_sem, ↓reduceIte]; exact kk2 j hj j2⟩
set_option maxRecDepth 20000 in
set_option maxHeartbeats 4000000 in
theorem c_thr8 (hT : Thr b c y p t D S Z k h n) (h0 : S.co.getD k 0 ≠ 0) (eop : (t.code.getD k ⟨0, 0, 0, ⟨false, [], []⟩⟩).op = 8) : HCalls Tryz.prog 45 [.ptr b 0, .int .i64 k] h n (fun v h' n' => BkPost h n b c y p t D (thr0 D (t.code.getD k ⟨0, 0, 0, ⟨false, [], []⟩⟩) k S) v h' n') := by
  obtain ⟨H, hbn, hcn, hyn, hpn, hk, hm, hD, hZ, ly, lp, hd, hq, hs, ht, sy, sp⟩ := hT
  have hb := H.hb
  have hc := H.hc
  have hy := H.hy
  have hp := H.hp
  have hkZ : k < Z.length := by omega
  have gi : (t.code.map encI).getD k .undef = encI (t.code.getD k ⟨0, 0, 0, ⟨false, [], []⟩⟩) := by simp [List.getD, hk]
  have gb := get_b hkZ
  have lz := len_b Z
  have la : k * 3 ≤ Z.length * 3 := by omega
  have hk' : ((k : Nat) : Int) < (t.code.length : Nat) := by omega
  have hkz' : ((k : Nat) : Int) < (Z.length : Nat) := by omega
  have h0k : (0 : Int) ≤ (k : Nat) := by omega
  have hco : S.co.getD k 0 = (Z.getD k (0, true)).1 := by rw [← H.co]; simp [hkZ]
  have hok := getD_okB H.ok hkZ
  generalize t.code.getD k ⟨0, 0, 0, ⟨false, [], []⟩⟩ = i at *
  have e0 : thr0 D i k S = thrQ D i k (S.co.getD k 0) S := thr0_eq D i k S
  rw [e0]
  clear e0
  generalize hqq : S.co.getD k 0 = q at *
  generalize hpp : Z.getD k (0, true) = pp at *
  obtain ⟨q', fl⟩ := pp
  simp only at hco
  subst hco
  obtain rfl : fl = false := by
    cases fl with
    | false => rfl
    | true => exact absurd (hok rfl) h0
  simp only [encB, if_true, Bool.false_eq_true, if_false, encQ, encR, encW] at gb
  have s1 := c_qsign (q := q) (by omega)
  simp only [encQ, encR, encW] at s1
  have sg := dec_false (sign_ne h0)
  have gz : ∀ j, j < Z.length → qw (Z.getD j (0, true)).1 ≤ 13000 := fun j hj => hs _ (by rw [show Z.getD j (0, true) = Z[j] by simp [hj]]; exact List.getElem_mem _)
  unfold mayB at hm
  rw [if_neg (show ¬ i.op = 1 by omega)] at hm
  simp only [Bool.and_eq_true, List.all_eq_true] at hm
  obtain ⟨m1, m2, m3⟩ := hm
  have hr : ∀ r ∈ readsI i, 0 ≤ r ∧ r.toNat < Z.length := fun r hr => by have := belowB_iff.1 (m2 r hr); omega
  have n2 : ¬ i.op = 2 := by omega
  have n3 : ¬ i.op = 3 := by omega
  have n4 : ¬ i.op = 4 := by omega
  have n6 : ¬ i.op = 6 := by omega
  have n7 : ¬ i.op = 7 := by omega
  have et : thrQ D i k q S = (S.send i.a.toNat q).send i.b.toNat (-q) := by simp only [thrQ, if_neg n2, if_neg n3, if_neg n4, if_neg n6, if_neg n7, if_pos eop]
  rw [et]
  obtain ⟨a0, a1⟩ := hr i.a (by rw [readsI, if_neg (by omega), if_pos (by omega)]; simp)
  obtain ⟨b0, b1⟩ := hr i.b (by rw [readsI, if_neg (by omega), if_pos (by omega)]; simp)
  have ga := gz _ a1
  have hs1 : ∀ x, qw x ≤ 500 → ∀ pp ∈ zsend Z i.a.toNat x, qw pp.1 ≤ 14000 := fun x hx pp hpp => Nat.le_trans (zsend_sz hs _ a1 hx pp hpp) (by omega)
  have gz1 : ∀ x, qw x ≤ 500 → qw ((zsend Z i.a.toNat x).getD i.b.toNat (0, true)).1 ≤ 14000 := fun x hx => hs1 x hx _ (by rw [show (zsend Z i.a.toNat x).getD i.b.toNat (0, true) = (zsend Z i.a.toNat x)[i.b.toNat]'(by rw [zsend_len]; exact b1) by simp [zsend_len, b1]]; exact List.getElem_mem _)
  have ia : ((i.a.toNat : Nat) : Int) = i.a := by omega
  have ib : ((i.b.toNat : Nat) : Int) = i.b := by omega
  have g2 := gz1 q (by omega)
  have zq := qw_neg q
  have hneg := c_qneg (a := q) (by omega)
  have hsend := fun H' N e1 e2 e3 e4 => c_sb b c y p t D S Z i.a.toNat (cq q) H' N e1 e2 e3 e4 H.bc a1 H.ok (by omega) (okR_cq (by omega))
  have hsend2 := fun H' e1 e2 => oloc_sb b c y p t D S (zsend Z i.a.toNat q) i.b.toNat (cq (-q)) H' e1 e2 H.bc (by rw [zsend_len]; exact b1) (zsend_ok H.ok _ _) (by omega) (okR_cq (by omega))
  rw [ia] at hsend
  rw [ib] at hsend2
  simp only [rv_cq, zsend_len] at hsend hsend2
  simp only [encQ, encR, encW] at hsend hsend2 hneg
  refine hcalls_of_AWR (pa := []) (fn := Tryz.f45) (rs := []) follows_mixed Tryz.func45 rfl rfl (by kernel_rfl) (by kernel_rfl) (by rw [Tryz.ntmps45]; simp) ?_
  simp only [go_sem, ↓reduceIte, hb, hc, hy, hp, gi, gb, lz, la, hk', hkz', h0k, List.length_map, encI, encW, upd1_old _ _ _ _ _ hbn, upd1_old0 _ _ _ _ hbn, old_ne hbn, new_ne hbn, old_ne0 hbn, new_ne0 hbn, upd1_old _ _ _ _ _ hcn, upd1_old0 _ _ _ _ hcn, old_ne hcn, new_ne hcn, old_ne0 hcn, new_ne0 hcn, upd1_old _ _ _ _ _ hyn, upd1_old0 _ _ _ _ hyn, old_ne hyn, new_ne hyn, old_ne0 hyn, new_ne0 hyn, upd1_old _ _ _ _ _ hpn, upd1_old0 _ _ _ _ hpn, old_ne hpn, new_ne hpn, old_ne0 hpn, new_ne0 hpn]
  refine callS_p s1 ?_
  simp only [go_sem, ↓reduceIte, beq_int, sg, dec_false n2, dec_false n3, dec_false n4, dec_false n6, dec_false n7, dec_true eop, hb, hc, hy, hp, List.length_map, encI, encQ, encR, encW, upd1_old _ _ _ _ _ hbn, upd1_old0 _ _ _ _ hbn, old_ne hbn, new_ne hbn, old_ne0 hbn, new_ne0 hbn, upd1_old _ _ _ _ _ hcn, upd1_old0 _ _ _ _ hcn, old_ne hcn, new_ne hcn, old_ne0 hcn, new_ne0 hcn, upd1_old _ _ _ _ _ hyn, upd1_old0 _ _ _ _ hyn, old_ne hyn, new_ne hyn, old_ne0 hyn, new_ne0 hyn, upd1_old _ _ _ _ _ hpn, upd1_old0 _ _ _ _ hpn, old_ne hpn, new_ne hpn, old_ne0 hpn, new_ne0 hpn]
  refine callS_h (hsend _ _ (by simp only [go_sem, ↓reduceIte, hb, encW, upd1_old _ _ _ _ _ hbn, upd1_old0 _ _ _ _ hbn, old_ne hbn, new_ne hbn, old_ne0 hbn, new_ne0 hbn, upd1_old _ _ _ _ _ hcn, upd1_old0 _ _ _ _ hcn, old_ne hcn, new_ne hcn, old_ne0 hcn, new_ne0 hcn, upd1_old _ _ _ _ _ hyn, upd1_old0 _ _ _ _ hyn, old_ne hyn, new_ne hyn, old_ne0 hyn, new_ne0 hyn, upd1_old _ _ _ _ _ hpn, upd1_old0 _ _ _ _ hpn, old_ne hpn, new_ne hpn, old_ne0 hpn, new_ne0 hpn]) (by simp only [go_sem, ↓reduceIte, hc, upd1_old _ _ _ _ _ hbn, upd1_old0 _ _ _ _ hbn, old_ne hbn, new_ne hbn, old_ne0 hbn, new_ne0 hbn, upd1_old _ _ _ _ _ hcn, upd1_old0 _ _ _ _ hcn, old_ne hcn, new_ne hcn, old_ne0 hcn, new_ne0 hcn, upd1_old _ _ _ _ _ hyn, upd1_old0 _ _ _ _ hyn, old_ne hyn, new_ne hyn, old_ne0 hyn, new_ne0 hyn, upd1_old _ _ _ _ _ hpn, upd1_old0 _ _ _ _ hpn, old_ne hpn, new_ne hpn, old_ne0 hpn, new_ne0 hpn]) (by simp only [go_sem, ↓reduceIte]; omega) (by simp only [go_sem, ↓reduceIte]; omega)) ?_
  rintro v h1 n1 hn1 ⟨rfl, hc1, hk1⟩
  simp only [go_sem, ↓reduceIte] at hn1 hk1
  have k15 := hk1 (n + 15) (by omega) (by omega)
  have k16 := hk1 (n + 16) (by omega) (by omega)
  have kb := hk1 b (by omega) H.bc
  have kk : ∀ j, j < n → j ≠ c → h1 j = h j := fun j hj hjc => by rw [hk1 j (by omega) hjc]; simp only [go_sem, ↓reduceIte, upd1_old _ _ _ _ _ hj, upd1_old0 _ _ _ _ hj]
  clear hk1
  simp only [go_sem, ↓reduceIte, hb, encW, upd1_old _ _ _ _ _ hbn, upd1_old0 _ _ _ _ hbn, old_ne hbn, new_ne hbn, old_ne0 hbn, new_ne0 hbn, upd1_old _ _ _ _ _ hcn, upd1_old0 _ _ _ _ hcn, old_ne hcn, new_ne hcn, old_ne0 hcn, new_ne0 hcn, upd1_old _ _ _ _ _ hyn, upd1_old0 _ _ _ _ hyn, old_ne hyn, new_ne hyn, old_ne0 hyn, new_ne0 hyn, upd1_old _ _ _ _ _ hpn, upd1_old0 _ _ _ _ hpn, old_ne hpn, new_ne hpn, old_ne0 hpn, new_ne0 hpn] at k15 k16 kb
  have hcn1 : c < n1 := by omega
  have hbn1 : b < n1 := by omega
  simp only [go_sem, ↓reduceIte, kb, hc1, k15, k16]
  refine callD_p hneg ?_
  simp only [go_sem, ↓reduceIte, kb, hc1, k15, k16]
  refine callD_o (hsend2 _ (by simp only [go_sem, ↓reduceIte, kb]) (by simp only [go_sem, ↓reduceIte, hc1])) rfl ?_ (newOk_one (blk := flatC encB (zsend Z i.a.toNat q)) (by simp only [go_sem, ↓reduceIte, hc1])) ?_
  · simp only [go_sem, ↓reduceIte, H.bc, Ne.symm H.bc, H.bY, Ne.symm H.bY, H.bP, Ne.symm H.bP, H.cY, Ne.symm H.cY, H.cP, Ne.symm H.cP, H.yP, Ne.symm H.yP, show ¬ c = n + 15 by omega, show ¬ c = n + 16 by omega, show ¬ n + 15 = c by omega, show ¬ n + 16 = c by omega]
  simp only [go_sem, ↓reduceIte]
  refine .mk (.tup []) (by simp only [go_sem, ↓reduceIte, resR, resAll, resA] <;> rfl) ⟨rfl, ⟨_, H.send2 (x := q) (x' := -q) a1 b1 (by simp only [go_sem, ↓reduceIte]) (by simp only [go_sem, ↓reduceIte, upd1_nei H.bc]; exact kk b hbn H.bc) (by simp only [go_sem, ↓reduceIte, upd1_nei (Ne.symm H.cY)]; exact kk y hyn (Ne.symm H.cY)) (by simp only [go_sem, ↓reduceIte, upd1_nei (Ne.symm H.cP)]; exact kk p hpn (Ne.symm H.cP))⟩, fun j hj j1 j2 j3 j4 => by simp only [go_sem, ↓reduceIte, upd1_nei j2]; exact kk j hj j2⟩
set_option maxRecDepth 20000 in
set_option maxHeartbeats 4000000 in
theorem c_thr9 (hT : Thr b c y p t D S Z k h n) (h0 : S.co.getD k 0 ≠ 0) (eop : (t.code.getD k ⟨0, 0, 0, ⟨false, [], []⟩⟩).op = 9) : HCalls Tryz.prog 45 [.ptr b 0, .int .i64 k] h n (fun v h' n' => BkPost h n b c y p t D (thr0 D (t.code.getD k ⟨0, 0, 0, ⟨false, [], []⟩⟩) k S) v h' n') := by
  obtain ⟨H, hbn, hcn, hyn, hpn, hk, hm, hD, hZ, ly, lp, hd, hq, hs, ht, sy, sp⟩ := hT
  have hb := H.hb
  have hc := H.hc
  have hy := H.hy
  have hp := H.hp
  have hkZ : k < Z.length := by omega
  have gi : (t.code.map encI).getD k .undef = encI (t.code.getD k ⟨0, 0, 0, ⟨false, [], []⟩⟩) := by simp [List.getD, hk]
  have gb := get_b hkZ
  have lz := len_b Z
  have la : k * 3 ≤ Z.length * 3 := by omega
  have hk' : ((k : Nat) : Int) < (t.code.length : Nat) := by omega
  have hkz' : ((k : Nat) : Int) < (Z.length : Nat) := by omega
  have h0k : (0 : Int) ≤ (k : Nat) := by omega
  have hco : S.co.getD k 0 = (Z.getD k (0, true)).1 := by rw [← H.co]; simp [hkZ]
  have hok := getD_okB H.ok hkZ
  generalize t.code.getD k ⟨0, 0, 0, ⟨false, [], []⟩⟩ = i at *
  have e0 : thr0 D i k S = thrQ D i k (S.co.getD k 0) S := thr0_eq D i k S
  rw [e0]
  clear e0
  generalize hqq : S.co.getD k 0 = q at *
  generalize hpp : Z.getD k (0, true) = pp at *
  obtain ⟨q', fl⟩ := pp
  simp only at hco
  subst hco
  obtain rfl : fl = false := by
    cases fl with
    | false => rfl
    | true => exact absurd (hok rfl) h0
  simp only [encB, if_true, Bool.false_eq_true, if_false, encQ, encR, encW] at gb
  have s1 := c_qsign (q := q) (by omega)
  simp only [encQ, encR, encW] at s1
  have sg := dec_false (sign_ne h0)
  have gz : ∀ j, j < Z.length → qw (Z.getD j (0, true)).1 ≤ 13000 := fun j hj => hs _ (by rw [show Z.getD j (0, true) = Z[j] by simp [hj]]; exact List.getElem_mem _)
  unfold mayB at hm
  rw [if_neg (show ¬ i.op = 1 by omega)] at hm
  simp only [Bool.and_eq_true, List.all_eq_true] at hm
  obtain ⟨m1, m2, m3⟩ := hm
  have hr : ∀ r ∈ readsI i, 0 ≤ r ∧ r.toNat < Z.length := fun r hr => by have := belowB_iff.1 (m2 r hr); omega
  have n2 : ¬ i.op = 2 := by omega
  have n3 : ¬ i.op = 3 := by omega
  have n4 : ¬ i.op = 4 := by omega
  have n6 : ¬ i.op = 6 := by omega
  have n7 : ¬ i.op = 7 := by omega
  have n8 : ¬ i.op = 8 := by omega
  have et : thrQ D i k q S = (S.send i.a.toNat (q * D.getD i.b.toNat 0)).send i.b.toNat (q * D.getD i.a.toNat 0) := by simp only [thrQ, if_neg n2, if_neg n3, if_neg n4, if_neg n6, if_neg n7, if_neg n8, if_pos eop]
  rw [et]
  obtain ⟨a0, a1⟩ := hr i.a (by rw [readsI, if_neg (by omega), if_pos (by omega)]; simp)
  obtain ⟨b0, b1⟩ := hr i.b (by rw [readsI, if_neg (by omega), if_pos (by omega)]; simp)
  have ga := gz _ a1
  have hs1 : ∀ x, qw x ≤ 500 → ∀ pp ∈ zsend Z i.a.toNat x, qw pp.1 ≤ 14000 := fun x hx pp hpp => Nat.le_trans (zsend_sz hs _ a1 hx pp hpp) (by omega)
  have gz1 : ∀ x, qw x ≤ 500 → qw ((zsend Z i.a.toNat x).getD i.b.toNat (0, true)).1 ≤ 14000 := fun x hx => hs1 x hx _ (by rw [show (zsend Z i.a.toNat x).getD i.b.toNat (0, true) = (zsend Z i.a.toNat x)[i.b.toNat]'(by rw [zsend_len]; exact b1) by simp [zsend_len, b1]]; exact List.getElem_mem _)
  have ia : ((i.a.toNat : Nat) : Int) = i.a := by omega
  have ib : ((i.b.toNat : Nat) : Int) = i.b := by omega
  have gda : (D.map encQ).getD i.a.toNat .undef = encQ (D.getD i.a.toNat 0) := by simp [List.getD, show i.a.toNat < D.length by omega]
  have gdb : (D.map encQ).getD i.b.toNat .undef = encQ (D.getD i.b.toNat 0) := by simp [List.getD, show i.b.toNat < D.length by omega]
  have zda := getD_size hd (by omega) i.a.toNat
  have zdb := getD_size hd (by omega) i.b.toNat
  have a2 : i.a < (D.length : Nat) := by omega
  have b2 : i.b < (D.length : Nat) := by omega
  generalize D.getD i.a.toNat 0 = da at *
  generalize D.getD i.b.toNat 0 = db at *
  have z1 := qw_mul q da
  have z2 := qw_mul q db
  have g2 := gz1 (q * db) (by omega)
  have hm1 := c_qmul (a := q) (b := db) (by omega) (by omega)
  have hm2 := c_qmul (a := q) (b := da) (by omega) (by omega)
  have hsend := fun H' e1 e2 => oloc_sb b c y p t D S Z i.a.toNat (cq (q * db)) H' e1 e2 H.bc a1 H.ok (by omega) (okR_cq (by omega))
  have hsend2 := fun H' e1 e2 => oloc_sb b c y p t D S (zsend Z i.a.toNat (q * db)) i.b.toNat (cq (q * da)) H' e1 e2 H.bc (by rw [zsend_len]; exact b1) (zsend_ok H.ok _ _) (by omega) (okR_cq (by omega))
  rw [ia] at hsend
  rw [ib] at hsend2
  simp only [rv_cq, zsend_len] at hsend hsend2
  simp only [encQ, encR, encW] at hsend hsend2 hm1 hm2 gda gdb
  refine hcalls_of_AWR (pa := []) (fn := Tryz.f45) (rs := []) follows_mixed Tryz.func45 rfl rfl (by kernel_rfl) (by kernel_rfl) (by rw [Tryz.ntmps45]; simp) ?_
  simp only [go_sem, ↓reduceIte, hb, hc, hy, hp, gi, gb, lz, la, hk', hkz', h0k, List.length_map, encI, encW, upd1_old _ _ _ _ _ hbn, upd1_old0 _ _ _ _ hbn, old_ne hbn, new_ne hbn, old_ne0 hbn, new_ne0 hbn, upd1_old _ _ _ _ _ hcn, upd1_old0 _ _ _ _ hcn, old_ne hcn, new_ne hcn, old_ne0 hcn, new_ne0 hcn, upd1_old _ _ _ _ _ hyn, upd1_old0 _ _ _ _ hyn, old_ne hyn, new_ne hyn, old_ne0 hyn, new_ne0 hyn, upd1_old _ _ _ _ _ hpn, upd1_old0 _ _ _ _ hpn, old_ne hpn, new_ne hpn, old_ne0 hpn, new_ne0 hpn, gda, gdb, a0, b0, a2, b2]
  refine callS_p s1 ?_
  simp only [go_sem, ↓reduceIte, beq_int, sg, dec_false n2, dec_false n3, dec_false n4, dec_false n6, dec_false n7, dec_false n8, dec_true eop, hb, hc, hy, hp, List.length_map, encI, encQ, encR, encW, upd1_old _ _ _ _ _ hbn, upd1_old0 _ _ _ _ hbn, old_ne hbn, new_ne hbn, old_ne0 hbn, new_ne0 hbn, upd1_old _ _ _ _ _ hcn, upd1_old0 _ _ _ _ hcn, old_ne hcn, new_ne hcn, old_ne0 hcn, new_ne0 hcn, upd1_old _ _ _ _ _ hyn, upd1_old0 _ _ _ _ hyn, old_ne hyn, new_ne hyn, old_ne0 hyn, new_ne0 hyn, upd1_old _ _ _ _ _ hpn, upd1_old0 _ _ _ _ hpn, old_ne hpn, new_ne hpn, old_ne0 hpn, new_ne0 hpn, gda, gdb, a0, b0, a2, b2]
  refine callD_p hm1 ?_
  simp only [go_sem, ↓reduceIte, hb, hc, hy, hp, List.length_map, encI, encQ, encR, encW, upd1_old _ _ _ _ _ hbn, upd1_old0 _ _ _ _ hbn, old_ne hbn, new_ne hbn, old_ne0 hbn, new_ne0 hbn, upd1_old _ _ _ _ _ hcn, upd1_old0 _ _ _ _ hcn, old_ne hcn, new_ne hcn, old_ne0 hcn, new_ne0 hcn, upd1_old _ _ _ _ _ hyn, upd1_old0 _ _ _ _ hyn, old_ne hyn, new_ne hyn, old_ne0 hyn, new_ne0 hyn, upd1_old _ _ _ _ _ hpn, upd1_old0 _ _ _ _ hpn, old_ne hpn, new_ne hpn, old_ne0 hpn, new_ne0 hpn]
  refine callD_o (hsend _ (by simp only [go_sem, ↓reduceIte, hb, encW, upd1_old _ _ _ _ _ hbn, upd1_old0 _ _ _ _ hbn, old_ne hbn, new_ne hbn, old_ne0 hbn, new_ne0 hbn, upd1_old _ _ _ _ _ hcn, upd1_old0 _ _ _ _ hcn, old_ne hcn, new_ne hcn, old_ne0 hcn, new_ne0 hcn, upd1_old _ _ _ _ _ hyn, upd1_old0 _ _ _ _ hyn, old_ne hyn, new_ne hyn, old_ne0 hyn, new_ne0 hyn, upd1_old _ _ _ _ _ hpn, upd1_old0 _ _ _ _ hpn, old_ne hpn, new_ne hpn, old_ne0 hpn, new_ne0 hpn]) (by simp only [go_sem, ↓reduceIte, hc, upd1_old _ _ _ _ _ hbn, upd1_old0 _ _ _ _ hbn, old_ne hbn, new_ne hbn, old_ne0 hbn, new_ne0 hbn, upd1_old _ _ _ _ _ hcn, upd1_old0 _ _ _ _ hcn, old_ne hcn, new_ne hcn, old_ne0 hcn, new_ne0 hcn, upd1_old _ _ _ _ _ hyn, upd1_old0 _ _ _ _ hyn, old_ne hyn, new_ne hyn, old_ne0 hyn, new_ne0 hyn, upd1_old _ _ _ _ _ hpn, upd1_old0 _ _ _ _ hpn, old_ne hpn, new_ne hpn, old_ne0 hpn, new_ne0 hpn])) rfl ?_ (newOk_one (blk := flatC encB Z) (by simp only [go_sem, ↓reduceIte, hc, upd1_old _ _ _ _ _ hbn, upd1_old0 _ _ _ _ hbn, old_ne hbn, new_ne hbn, old_ne0 hbn, new_ne0 hbn, upd1_old _ _ _ _ _ hcn, upd1_old0 _ _ _ _ hcn, old_ne hcn, new_ne hcn, old_ne0 hcn, new_ne0 hcn, upd1_old _ _ _ _ _ hyn, upd1_old0 _ _ _ _ hyn, old_ne hyn, new_ne hyn, old_ne0 hyn, new_ne0 hyn, upd1_old _ _ _ _ _ hpn, upd1_old0 _ _ _ _ hpn, old_ne hpn, new_ne hpn, old_ne0 hpn, new_ne0 hpn])) ?_
  · simp only [go_sem, ↓reduceIte, H.bc, Ne.symm H.bc, H.bY, Ne.symm H.bY, H.bP, Ne.symm H.bP, H.cY, Ne.symm H.cY, H.cP, Ne.symm H.cP, H.yP, Ne.symm H.yP, upd1_old _ _ _ _ _ hbn, upd1_old0 _ _ _ _ hbn, old_ne hbn, new_ne hbn, old_ne0 hbn, new_ne0 hbn, upd1_old _ _ _ _ _ hcn, upd1_old0 _ _ _ _ hcn, old_ne hcn, new_ne hcn, old_ne0 hcn, new_ne0 hcn, upd1_old _ _ _ _ _ hyn, upd1_old0 _ _ _ _ hyn, old_ne hyn, new_ne hyn, old_ne0 hyn, new_ne0 hyn, upd1_old _ _ _ _ _ hpn, upd1_old0 _ _ _ _ hpn, old_ne hpn, new_ne hpn, old_ne0 hpn, new_ne0 hpn]
  simp only [go_sem, ↓reduceIte, gda, gdb, a0, b0, a2, b2, upd1_nei H.bc, upd1_nei (show n + 15 ≠ c by omega), upd1_nei (show n + 16 ≠ c by omega), hb, hc, hy, hp, List.length_map, encI, encQ, encR, encW, upd1_old _ _ _ _ _ hbn, upd1_old0 _ _ _ _ hbn, old_ne hbn, new_ne hbn, old_ne0 hbn, new_ne0 hbn, upd1_old _ _ _ _ _ hcn, upd1_old0 _ _ _ _ hcn, old_ne hcn, new_ne hcn, old_ne0 hcn, new_ne0 hcn, upd1_old _ _ _ _ _ hyn, upd1_old0 _ _ _ _ hyn, old_ne hyn, new_ne hyn, old_ne0 hyn, new_ne0 hyn, upd1_old _ _ _ _ _ hpn, upd1_old0 _ _ _ _ hpn, old_ne hpn, new_ne hpn, old_ne0 hpn, new_ne0 hpn]
  refine callD_p hm2 ?_
  simp only [go_sem, ↓reduceIte, upd1_nei H.bc, hb, hc, hy, hp, List.length_map, encI, encQ, encR, encW, upd1_old _ _ _ _ _ hbn, upd1_old0 _ _ _ _ hbn, old_ne hbn, new_ne hbn, old_ne0 hbn, new_ne0 hbn, upd1_old _ _ _ _ _ hcn, upd1_old0 _ _ _ _ hcn, old_ne hcn, new_ne hcn, old_ne0 hcn, new_ne0 hcn, upd1_old _ _ _ _ _ hyn, upd1_old0 _ _ _ _ hyn, old_ne hyn, new_ne hyn, old_ne0 hyn, new_ne0 hyn, upd1_old _ _ _ _ _ hpn, upd1_old0 _ _ _ _ hpn, old_ne hpn, new_ne hpn, old_ne0 hpn, new_ne0 hpn]
  refine callD_o (hsend2 _ (by simp only [go_sem, ↓reduceIte, hb, encW, upd1_nei H.bc, upd1_old _ _ _ _ _ hbn, upd1_old0 _ _ _ _ hbn, old_ne hbn, new_ne hbn, old_ne0 hbn, new_ne0 hbn, upd1_old _ _ _ _ _ hcn, upd1_old0 _ _ _ _ hcn, old_ne hcn, new_ne hcn, old_ne0 hcn, new_ne0 hcn, upd1_old _ _ _ _ _ hyn, upd1_old0 _ _ _ _ hyn, old_ne hyn, new_ne hyn, old_ne0 hyn, new_ne0 hyn, upd1_old _ _ _ _ _ hpn, upd1_old0 _ _ _ _ hpn, old_ne hpn, new_ne hpn, old_ne0 hpn, new_ne0 hpn]) (by simp only [go_sem, ↓reduceIte])) rfl ?_ (newOk_one (blk := flatC encB (zsend Z i.a.toNat (q * db))) (by simp only [go_sem, ↓reduceIte])) ?_
  · simp only [go_sem, ↓reduceIte, H.bc, Ne.symm H.bc, H.bY, Ne.symm H.bY, H.bP, Ne.symm H.bP, H.cY, Ne.symm H.cY, H.cP, Ne.symm H.cP, H.yP, Ne.symm H.yP, upd1_old _ _ _ _ _ hbn, upd1_old0 _ _ _ _ hbn, old_ne hbn, new_ne hbn, old_ne0 hbn, new_ne0 hbn, upd1_old _ _ _ _ _ hcn, upd1_old0 _ _ _ _ hcn, old_ne hcn, new_ne hcn, old_ne0 hcn, new_ne0 hcn, upd1_old _ _ _ _ _ hyn, upd1_old0 _ _ _ _ hyn, old_ne hyn, new_ne hyn, old_ne0 hyn, new_ne0 hyn, upd1_old _ _ _ _ _ hpn, upd1_old0 _ _ _ _ hpn, old_ne hpn, new_ne hpn, old_ne0 hpn, new_ne0 hpn]
  simp only [go_sem, ↓reduceIte]
  refine .mk (.tup []) (by simp only [go_sem, ↓reduceIte, resR, resAll, resA] <;> rfl) ⟨rfl, ⟨_, H.send2 (x := q * db) (x' := q * da) a1 b1 (by simp only [go_sem, ↓reduceIte]) (by simp only [go_sem, ↓reduceIte, upd1_nei H.bc, upd1_old _ _ _ _ _ hbn, upd1_old0 _ _ _ _ hbn, old_ne hbn, new_ne hbn, old_ne0 hbn, new_ne0 hbn, upd1_old _ _ _ _ _ hcn, upd1_old0 _ _ _ _ hcn, old_ne hcn, new_ne hcn, old_ne0 hcn, new_ne0 hcn, upd1_old _ _ _ _ _ hyn, upd1_old0 _ _ _ _ hyn, old_ne hyn, new_ne hyn, old_ne0 hyn, new_ne0 hyn, upd1_old _ _ _ _ _ hpn, upd1_old0 _ _ _ _ hpn, old_ne hpn, new_ne hpn, old_ne0 hpn, new_ne0 hpn]) (by simp only [go_sem, ↓reduceIte, upd1_nei (Ne.symm H.cY), upd1_old _ _ _ _ _ hbn, upd1_old0 _ _ _ _ hbn, old_ne hbn, new_ne hbn, old_ne0 hbn, new_ne0 hbn, upd1_old _ _ _ _ _ hcn, upd1_old0 _ _ _ _ hcn, old_ne hcn, new_ne hcn, old_ne0 hcn, new_ne0 hcn, upd1_old _ _ _ _ _ hyn, upd1_old0 _ _ _ _ hyn, old_ne hyn, new_ne hyn, old_ne0 hyn, new_ne0 hyn, upd1_old _ _ _ _ _ hpn, upd1_old0 _ _ _ _ hpn, old_ne hpn, new_ne hpn, old_ne0 hpn, new_ne0 hpn]) (by simp only [go_sem, ↓reduceIte, upd1_nei (Ne.symm H.cP), upd1_old _ _ _ _ _ hbn, upd1_old0 _ _ _ _ hbn, old_ne hbn, new_ne hbn, old_ne0 hbn, new_ne0 hbn, upd1_old _ _ _ _ _ hcn, upd1_old0 _ _ _ _ hcn, old_ne hcn, new_ne hcn, old_ne0 hcn, new_ne0 hcn, upd1_old _ _ _ _ _ hyn, upd1_old0 _ _ _ _ hyn, old_ne hyn, new_ne hyn, old_ne0 hyn, new_ne0 hyn, upd1_old _ _ _ _ _ hpn, upd1_old0 _ _ _ _ hpn, old_ne hpn, new_ne hpn, old_ne0 hpn, new_ne0 hpn])⟩, fun j hj j1 j2 j3 j4 => by simp only [go_sem, ↓reduceIte, upd1_nei j1, upd1_nei j2, upd1_nei j3, upd1_nei j4, upd1_old _ _ _ _ _ hj, upd1_old0 _ _ _ _ hj]⟩
set_option maxRecDepth 20000 in
set_option maxHeartbeats 4000000 in
theorem c_thr10 (hT : Thr b c y p t D S Z k h n) (h0 : S.co.getD k 0 ≠ 0) (eop : (t.code.getD k ⟨0, 0, 0, ⟨false, [], []⟩⟩).op = 10) : HCalls Tryz.prog 45 [.ptr b 0, .int .i64 k] h n (fun v h' n' => BkPost h n b c y p t D (thr0 D (t.code.getD k ⟨0, 0, 0, ⟨false, [], []⟩⟩) k S) v h' n') := by
  obtain ⟨H, hbn, hcn, hyn, hpn, hk, hm, hD, hZ, ly, lp, hd, hq, hs, ht, sy, sp⟩ := hT
  have hb := H.hb
  have hc := H.hc
  have hy := H.hy
  have hp := H.hp
  have hkZ : k < Z.length := by omega
  have gi : (t.code.map encI).getD k .undef = encI (t.code.getD k ⟨0, 0, 0, ⟨false, [], []⟩⟩) := by simp [List.getD, hk]
  have gb := get_b hkZ
  have lz := len_b Z
  have la : k * 3 ≤ Z.length * 3 := by omega
  have hk' : ((k : Nat) : Int) < (t.code.length : Nat) := by omega
  have hkz' : ((k : Nat) : Int) < (Z.length : Nat) := by omega
  have h0k : (0 : Int) ≤ (k : Nat) := by omega
  have hco : S.co.getD k 0 = (Z.getD k (0, true)).1 := by rw [← H.co]; simp [hkZ]
  have hok := getD_okB H.ok hkZ
  generalize t.code.getD k ⟨0, 0, 0, ⟨false, [], []⟩⟩ = i at *
  have e0 : thr0 D i k S = thrQ D i k (S.co.getD k 0) S := thr0_eq D i k S
  rw [e0]
  clear e0
  generalize hqq : S.co.getD k 0 = q at *
  generalize hpp : Z.getD k (0, true) = pp at *
  obtain ⟨q', fl⟩ := pp
  simp only at hco
  subst hco
  obtain rfl : fl = false := by
    cases fl with
    | false => rfl
    | true => exact absurd (hok rfl) h0
  simp only [encB, if_true, Bool.false_eq_true, if_false, encQ, encR, encW] at gb
  have s1 := c_qsign (q := q) (by omega)
  simp only [encQ, encR, encW] at s1
  have sg := dec_false (sign_ne h0)
  have gz : ∀ j, j < Z.length → qw (Z.getD j (0, true)).1 ≤ 13000 := fun j hj => hs _ (by rw [show Z.getD j (0, true) = Z[j] by simp [hj]]; exact List.getElem_mem _)
  unfold mayB at hm
  rw [if_neg (show ¬ i.op = 1 by omega)] at hm
  simp only [Bool.and_eq_true, List.all_eq_true] at hm
  obtain ⟨m1, m2, m3⟩ := hm
  have hr : ∀ r ∈ readsI i, 0 ≤ r ∧ r.toNat < Z.length := fun r hr => by have := belowB_iff.1 (m2 r hr); omega
  have n2 : ¬ i.op = 2 := by omega
  have n3 : ¬ i.op = 3 := by omega
  have n4 : ¬ i.op = 4 := by omega
  have n6 : ¬ i.op = 6 := by omega
  have n7 : ¬ i.op = 7 := by omega
  have n8 : ¬ i.op = 8 := by omega
  have n9 : ¬ i.op = 9 := by omega
  have et : thrQ D i k q S = (S.send i.a.toNat (q / D.getD i.b.toNat 0)).send i.b.toNat (-(q / D.getD i.b.toNat 0 * D.getD k 0)) := by simp only [thrQ, if_neg n2, if_neg n3, if_neg n4, if_neg n6, if_neg n7, if_neg n8, if_neg n9, if_pos eop]
  rw [et]
  have gdk : (D.map encQ).getD k .undef = encQ (D.getD k 0) := by simp [List.getD, show k < D.length by omega]
  have zdk := getD_size hd (by omega) k
  have k2 : ((k : Nat) : Int) < (D.length : Nat) := by omega
  obtain ⟨a0, a1⟩ := hr i.a (by rw [readsI, if_neg (by omega), if_pos (by omega)]; simp)
  obtain ⟨b0, b1⟩ := hr i.b (by rw [readsI, if_neg (by omega), if_pos (by omega)]; simp)
  have ga := gz _ a1
  have hs1 : ∀ x, qw x ≤ 500 → ∀ pp ∈ zsend Z i.a.toNat x, qw pp.1 ≤ 14000 := fun x hx pp hpp => Nat.le_trans (zsend_sz hs _ a1 hx pp hpp) (by omega)
  have gz1 : ∀ x, qw x ≤ 500 → qw ((zsend Z i.a.toNat x).getD i.b.toNat (0, true)).1 ≤ 14000 := fun x hx => hs1 x hx _ (by rw [show (zsend Z i.a.toNat x).getD i.b.toNat (0, true) = (zsend Z i.a.toNat x)[i.b.toNat]'(by rw [zsend_len]; exact b1) by simp [zsend_len, b1]]; exact List.getElem_mem _)
  have ia : ((i.a.toNat : Nat) : Int) = i.a := by omega
  have ib : ((i.b.toNat : Nat) : Int) = i.b := by omega
  have hO := fun H' e1 e2 => oloc_bquo b c Z D i (.sl 6 (t.code.map encI)) (.sl 1 (t.outs.map i64)) (.int .i64 t.dim) (.int .i64 t.par) (.bool (cq S.t).neg) (encW (cq S.t).n) (encW (cq S.t).d) (.own y 0 S.y.length 3) (.own p 0 S.p.length 3) H' q (D.getD k 0) e1 e2 H.bc a0 a1 b0 b1 (by omega) H.ok (fun pp hpp => Nat.le_trans (hs pp hpp) (by omega)) (by omega) zdk hd
  simp only [encI, encQ, encR, encW] at hO gdk
  refine hcalls_of_AWR (pa := []) (fn := Tryz.f45) (rs := []) follows_mixed Tryz.func45 rfl rfl (by kernel_rfl) (by kernel_rfl) (by rw [Tryz.ntmps45]; simp) ?_
  simp only [go_sem, ↓reduceIte, hb, hc, hy, hp, gi, gb, lz, la, hk', hkz', h0k, List.length_map, encI, encW, upd1_old _ _ _ _ _ hbn, upd1_old0 _ _ _ _ hbn, old_ne hbn, new_ne hbn, old_ne0 hbn, new_ne0 hbn, upd1_old _ _ _ _ _ hcn, upd1_old0 _ _ _ _ hcn, old_ne hcn, new_ne hcn, old_ne0 hcn, new_ne0 hcn, upd1_old _ _ _ _ _ hyn, upd1_old0 _ _ _ _ hyn, old_ne hyn, new_ne hyn, old_ne0 hyn, new_ne0 hyn, upd1_old _ _ _ _ _ hpn, upd1_old0 _ _ _ _ hpn, old_ne hpn, new_ne hpn, old_ne0 hpn, new_ne0 hpn, gdk, k2]
  refine callS_p s1 ?_
  simp only [go_sem, ↓reduceIte, beq_int, sg, dec_false n2, dec_false n3, dec_false n4, dec_false n6, dec_false n7, dec_false n8, dec_false n9, dec_true eop, hb, hc, hy, hp, List.length_map, encI, encQ, encR, encW, upd1_old _ _ _ _ _ hbn, upd1_old0 _ _ _ _ hbn, old_ne hbn, new_ne hbn, old_ne0 hbn, new_ne0 hbn, upd1_old _ _ _ _ _ hcn, upd1_old0 _ _ _ _ hcn, old_ne hcn, new_ne hcn, old_ne0 hcn, new_ne0 hcn, upd1_old _ _ _ _ _ hyn, upd1_old0 _ _ _ _ hyn, old_ne hyn, new_ne hyn, old_ne0 hyn, new_ne0 hyn, upd1_old _ _ _ _ _ hpn, upd1_old0 _ _ _ _ hpn, old_ne hpn, new_ne hpn, old_ne0 hpn, new_ne0 hpn, gdk, k2]
  refine callD_o (hO _ (by simp only [go_sem, ↓reduceIte, hb, encW, encQ, encR, upd1_old _ _ _ _ _ hbn, upd1_old0 _ _ _ _ hbn, old_ne hbn, new_ne hbn, old_ne0 hbn, new_ne0 hbn, upd1_old _ _ _ _ _ hcn, upd1_old0 _ _ _ _ hcn, old_ne hcn, new_ne hcn, old_ne0 hcn, new_ne0 hcn, upd1_old _ _ _ _ _ hyn, upd1_old0 _ _ _ _ hyn, old_ne hyn, new_ne hyn, old_ne0 hyn, new_ne0 hyn, upd1_old _ _ _ _ _ hpn, upd1_old0 _ _ _ _ hpn, old_ne hpn, new_ne hpn, old_ne0 hpn, new_ne0 hpn]) (by simp only [go_sem, ↓reduceIte, hc, upd1_old _ _ _ _ _ hbn, upd1_old0 _ _ _ _ hbn, old_ne hbn, new_ne hbn, old_ne0 hbn, new_ne0 hbn, upd1_old _ _ _ _ _ hcn, upd1_old0 _ _ _ _ hcn, old_ne hcn, new_ne hcn, old_ne0 hcn, new_ne0 hcn, upd1_old _ _ _ _ _ hyn, upd1_old0 _ _ _ _ hyn, old_ne hyn, new_ne hyn, old_ne0 hyn, new_ne0 hyn, upd1_old _ _ _ _ _ hpn, upd1_old0 _ _ _ _ hpn, old_ne hpn, new_ne hpn, old_ne0 hpn, new_ne0 hpn])) rfl ?_ (newOk_one (blk := flatC encB Z) (by simp only [go_sem, ↓reduceIte, hc, upd1_old _ _ _ _ _ hbn, upd1_old0 _ _ _ _ hbn, old_ne hbn, new_ne hbn, old_ne0 hbn, new_ne0 hbn, upd1_old _ _ _ _ _ hcn, upd1_old0 _ _ _ _ hcn, old_ne hcn, new_ne hcn, old_ne0 hcn, new_ne0 hcn, upd1_old _ _ _ _ _ hyn, upd1_old0 _ _ _ _ hyn, old_ne hyn, new_ne hyn, old_ne0 hyn, new_ne0 hyn, upd1_old _ _ _ _ _ hpn, upd1_old0 _ _ _ _ hpn, old_ne hpn, new_ne hpn, old_ne0 hpn, new_ne0 hpn])) ?_
  · simp only [go_sem, ↓reduceIte, H.bc, Ne.symm H.bc, H.bY, Ne.symm H.bY, H.bP, Ne.symm H.bP, H.cY, Ne.symm H.cY, H.cP, Ne.symm H.cP, H.yP, Ne.symm H.yP, upd1_old _ _ _ _ _ hbn, upd1_old0 _ _ _ _ hbn, old_ne hbn, new_ne hbn, old_ne0 hbn, new_ne0 hbn, upd1_old _ _ _ _ _ hcn, upd1_old0 _ _ _ _ hcn, old_ne hcn, new_ne hcn, old_ne0 hcn, new_ne0 hcn, upd1_old _ _ _ _ _ hyn, upd1_old0 _ _ _ _ hyn, old_ne hyn, new_ne hyn, old_ne0 hyn, new_ne0 hyn, upd1_old _ _ _ _ _ hpn, upd1_old0 _ _ _ _ hpn, old_ne hpn, new_ne hpn, old_ne0 hpn, new_ne0 hpn]
  simp only [go_sem, ↓reduceIte]
  refine .mk (.tup []) (by simp only [go_sem, ↓reduceIte, resR, resAll, resA] <;> rfl) ⟨rfl, ⟨_, H.send2 (x := q / D.getD i.b.toNat 0) (x' := -(q / D.getD i.b.toNat 0 * D.getD k 0)) a1 b1 (by simp only [go_sem, ↓reduceIte]) (by simp only [go_sem, ↓reduceIte, upd1_nei H.bc, upd1_old _ _ _ _ _ hbn, upd1_old0 _ _ _ _ hbn, old_ne hbn, new_ne hbn, old_ne0 hbn, new_ne0 hbn, upd1_old _ _ _ _ _ hcn, upd1_old0 _ _ _ _ hcn, old_ne hcn, new_ne hcn, old_ne0 hcn, new_ne0 hcn, upd1_old _ _ _ _ _ hyn, upd1_old0 _ _ _ _ hyn, old_ne hyn, new_ne hyn, old_ne0 hyn, new_ne0 hyn, upd1_old _ _ _ _ _ hpn, upd1_old0 _ _ _ _ hpn, old_ne hpn, new_ne hpn, old_ne0 hpn, new_ne0 hpn]) (by simp only [go_sem, ↓reduceIte, upd1_nei (Ne.symm H.cY), upd1_old _ _ _ _ _ hbn, upd1_old0 _ _ _ _ hbn, old_ne hbn, new_ne hbn, old_ne0 hbn, new_ne0 hbn, upd1_old _ _ _ _ _ hcn, upd1_old0 _ _ _ _ hcn, old_ne hcn, new_ne hcn, old_ne0 hcn, new_ne0 hcn, upd1_old _ _ _ _ _ hyn, upd1_old0 _ _ _ _ hyn, old_ne hyn, new_ne hyn, old_ne0 hyn, new_ne0 hyn, upd1_old _ _ _ _ _ hpn, upd1_old0 _ _ _ _ hpn, old_ne hpn, new_ne hpn, old_ne0 hpn, new_ne0 hpn]) (by simp only [go_sem, ↓reduceIte, upd1_nei (Ne.symm H.cP), upd1_old _ _ _ _ _ hbn, upd1_old0 _ _ _ _ hbn, old_ne hbn, new_ne hbn, old_ne0 hbn, new_ne0 hbn, upd1_old _ _ _ _ _ hcn, upd1_old0 _ _ _ _ hcn, old_ne hcn, new_ne hcn, old_ne0 hcn, new_ne0 hcn, upd1_old _ _ _ _ _ hyn, upd1_old0 _ _ _ _ hyn, old_ne hyn, new_ne hyn, old_ne0 hyn, new_ne0 hyn, upd1_old _ _ _ _ _ hpn, upd1_old0 _ _ _ _ hpn, old_ne hpn, new_ne hpn, old_ne0 hpn, new_ne0 hpn])⟩, fun j hj j1 j2 j3 j4 => by simp only [go_sem, ↓reduceIte, upd1_nei j1, upd1_nei j2, upd1_nei j3, upd1_nei j4, upd1_old _ _ _ _ _ hj, upd1_old0 _ _ _ _ hj]⟩
set_option maxRecDepth 20000 in
set_option maxHeartbeats 4000000 in
theorem c_thr11 (hT : Thr b c y p t D S Z k h n) (h0 : S.co.getD k 0 ≠ 0) (eop : (t.code.getD k ⟨0, 0, 0, ⟨false, [], []⟩⟩).op = 11) : HCalls Tryz.prog 45 [.ptr b 0, .int .i64 k] h n (fun v h' n' => BkPost h n b c y p t D (thr0 D (t.code.getD k ⟨0, 0, 0, ⟨false, [], []⟩⟩) k S) v h' n') := by
  obtain ⟨H, hbn, hcn, hyn, hpn, hk, hm, hD, hZ, ly, lp, hd, hq, hs, ht, sy, sp⟩ := hT
  have hb := H.hb
  have hc := H.hc
  have hy := H.hy
  have hp := H.hp
  have hkZ : k < Z.length := by omega
  have gi : (t.code.map encI).getD k .undef = encI (t.code.getD k ⟨0, 0, 0, ⟨false, [], []⟩⟩) := by simp [List.getD, hk]
  have gb := get_b hkZ
  have lz := len_b Z
  have la : k * 3 ≤ Z.length * 3 := by omega
  have hk' : ((k : Nat) : Int) < (t.code.length : Nat) := by omega
  have hkz' : ((k : Nat) : Int) < (Z.length : Nat) := by omega
  have h0k : (0 : Int) ≤ (k : Nat) := by omega
  have hco : S.co.getD k 0 = (Z.getD k (0, true)).1 := by rw [← H.co]; simp [hkZ]
  have hok := getD_okB H.ok hkZ
  generalize t.code.getD k ⟨0, 0, 0, ⟨false, [], []⟩⟩ = i at *
  have e0 : thr0 D i k S = thrQ D i k (S.co.getD k 0) S := thr0_eq D i k S
  rw [e0]
  clear e0
  generalize hqq : S.co.getD k 0 = q at *
  generalize hpp : Z.getD k (0, true) = pp at *
  obtain ⟨q', fl⟩ := pp
  simp only at hco
  subst hco
  obtain rfl : fl = false := by
    cases fl with
    | false => rfl
    | true => exact absurd (hok rfl) h0
  simp only [encB, if_true, Bool.false_eq_true, if_false, encQ, encR, encW] at gb
  have s1 := c_qsign (q := q) (by omega)
  simp only [encQ, encR, encW] at s1
  have sg := dec_false (sign_ne h0)
  have gz : ∀ j, j < Z.length → qw (Z.getD j (0, true)).1 ≤ 13000 := fun j hj => hs _ (by rw [show Z.getD j (0, true) = Z[j] by simp [hj]]; exact List.getElem_mem _)
  unfold mayB at hm
  rw [if_neg (show ¬ i.op = 1 by omega)] at hm
  simp only [Bool.and_eq_true, List.all_eq_true] at hm
  obtain ⟨m1, m2, m3⟩ := hm
  have hr : ∀ r ∈ readsI i, 0 ≤ r ∧ r.toNat < Z.length := fun r hr => by have := belowB_iff.1 (m2 r hr); omega
  have n2 : ¬ i.op = 2 := by omega
  have n3 : ¬ i.op = 3 := by omega
  have n4 : ¬ i.op = 4 := by omega
  have n6 : ¬ i.op = 6 := by omega
  have n7 : ¬ i.op = 7 := by omega
  have n8 : ¬ i.op = 8 := by omega
  have n9 : ¬ i.op = 9 := by omega
  have n10 : ¬ i.op = 10 := by omega
  have et : thrQ D i k q S = S.send i.a.toNat (q * ((i.b : Rat) * turnQ (D.getD i.a.toNat 0) i.b (D.getD k 0))) := by simp only [thrQ, if_neg n2, if_neg n3, if_neg n4, if_neg n6, if_neg n7, if_neg n8, if_neg n9, if_neg n10, if_pos eop]
  rw [et]
  have gdk : (D.map encQ).getD k .undef = encQ (D.getD k 0) := by simp [List.getD, show k < D.length by omega]
  have zdk := getD_size hd (by omega) k
  have k2 : ((k : Nat) : Int) < (D.length : Nat) := by omega
  obtain ⟨a0, a1⟩ := hr i.a (by rw [readsI, if_pos (.inr eop)]; simp)
  have hpw : -8 ≤ i.b ∧ i.b ≤ 8 := by
    rw [kindB, if_neg n2, if_neg n3, if_neg n4, if_neg n6, if_pos eop, Bool.and_eq_true] at m3
    exact ⟨of_decide_eq_true m3.1, of_decide_eq_true m3.2⟩
  have hO := fun H' e1 e2 => oloc_bpow b c Z D i (.sl 6 (t.code.map encI)) (.sl 1 (t.outs.map i64)) (.int .i64 t.dim) (.int .i64 t.par) (.bool (cq S.t).neg) (encW (cq S.t).n) (encW (cq S.t).d) (.own y 0 S.y.length 3) (.own p 0 S.p.length 3) H' q (D.getD k 0) e1 e2 H.bc a0 a1 hpw.1 hpw.2 (by omega) H.ok (fun pp hpp => Nat.le_trans (hs pp hpp) (by omega)) (by omega) zdk hd
  simp only [encI, encQ, encR, encW] at hO gdk
  refine hcalls_of_AWR (pa := []) (fn := Tryz.f45) (rs := []) follows_mixed Tryz.func45 rfl rfl (by kernel_rfl) (by kernel_rfl) (by rw [Tryz.ntmps45]; simp) ?_
  simp only [go_sem, ↓reduceIte, hb, hc, hy, hp, gi, gb, lz, la, hk', hkz', h0k, List.length_map, encI, encW, upd1_old _ _ _ _ _ hbn, upd1_old0 _ _ _ _ hbn, old_ne hbn, new_ne hbn, old_ne0 hbn, new_ne0 hbn, upd1_old _ _ _ _ _ hcn, upd1_old0 _ _ _ _ hcn, old_ne hcn, new_ne hcn, old_ne0 hcn, new_ne0 hcn, upd1_old _ _ _ _ _ hyn, upd1_old0 _ _ _ _ hyn, old_ne hyn, new_ne hyn, old_ne0 hyn, new_ne0 hyn, upd1_old _ _ _ _ _ hpn, upd1_old0 _ _ _ _ hpn, old_ne hpn, new_ne hpn, old_ne0 hpn, new_ne0 hpn, gdk, k2]
  refine callS_p s1 ?_
  simp only [go_sem, ↓reduceIte, beq_int, sg, dec_false n2, dec_false n3, dec_false n4, dec_false n6, dec_false n7, dec_false n8, dec_false n9, dec_false n10, dec_true eop, hb, hc, hy, hp, List.length_map, encI, encQ, encR, encW, upd1_old _ _ _ _ _ hbn, upd1_old0 _ _ _ _ hbn, old_ne hbn, new_ne hbn, old_ne0 hbn, new_ne0 hbn, upd1_old _ _ _ _ _ hcn, upd1_old0 _ _ _ _ hcn, old_ne hcn, new_ne hcn, old_ne0 hcn, new_ne0 hcn, upd1_old _ _ _ _ _ hyn, upd1_old0 _ _ _ _ hyn, old_ne hyn, new_ne hyn, old_ne0 hyn, new_ne0 hyn, upd1_old _ _ _ _ _ hpn, upd1_old0 _ _ _ _ hpn, old_ne hpn, new_ne hpn, old_ne0 hpn, new_ne0 hpn, gdk, k2]
  refine callD_o (hO _ (by simp only [go_sem, ↓reduceIte, hb, encW, encQ, encR, upd1_old _ _ _ _ _ hbn, upd1_old0 _ _ _ _ hbn, old_ne hbn, new_ne hbn, old_ne0 hbn, new_ne0 hbn, upd1_old _ _ _ _ _ hcn, upd1_old0 _ _ _ _ hcn, old_ne hcn, new_ne hcn, old_ne0 hcn, new_ne0 hcn, upd1_old _ _ _ _ _ hyn, upd1_old0 _ _ _ _ hyn, old_ne hyn, new_ne hyn, old_ne0 hyn, new_ne0 hyn, upd1_old _ _ _ _ _ hpn, upd1_old0 _ _ _ _ hpn, old_ne hpn, new_ne hpn, old_ne0 hpn, new_ne0 hpn]) (by simp only [go_sem, ↓reduceIte, hc, upd1_old _ _ _ _ _ hbn, upd1_old0 _ _ _ _ hbn, old_ne hbn, new_ne hbn, old_ne0 hbn, new_ne0 hbn, upd1_old _ _ _ _ _ hcn, upd1_old0 _ _ _ _ hcn, old_ne hcn, new_ne hcn, old_ne0 hcn, new_ne0 hcn, upd1_old _ _ _ _ _ hyn, upd1_old0 _ _ _ _ hyn, old_ne hyn, new_ne hyn, old_ne0 hyn, new_ne0 hyn, upd1_old _ _ _ _ _ hpn, upd1_old0 _ _ _ _ hpn, old_ne hpn, new_ne hpn, old_ne0 hpn, new_ne0 hpn])) rfl ?_ (newOk_one (blk := flatC encB Z) (by simp only [go_sem, ↓reduceIte, hc, upd1_old _ _ _ _ _ hbn, upd1_old0 _ _ _ _ hbn, old_ne hbn, new_ne hbn, old_ne0 hbn, new_ne0 hbn, upd1_old _ _ _ _ _ hcn, upd1_old0 _ _ _ _ hcn, old_ne hcn, new_ne hcn, old_ne0 hcn, new_ne0 hcn, upd1_old _ _ _ _ _ hyn, upd1_old0 _ _ _ _ hyn, old_ne hyn, new_ne hyn, old_ne0 hyn, new_ne0 hyn, upd1_old _ _ _ _ _ hpn, upd1_old0 _ _ _ _ hpn, old_ne hpn, new_ne hpn, old_ne0 hpn, new_ne0 hpn])) ?_
  · simp only [go_sem, ↓reduceIte, H.bc, Ne.symm H.bc, H.bY, Ne.symm H.bY, H.bP, Ne.symm H.bP, H.cY, Ne.symm H.cY, H.cP, Ne.symm H.cP, H.yP, Ne.symm H.yP, upd1_old _ _ _ _ _ hbn, upd1_old0 _ _ _ _ hbn, old_ne hbn, new_ne hbn, old_ne0 hbn, new_ne0 hbn, upd1_old _ _ _ _ _ hcn, upd1_old0 _ _ _ _ hcn, old_ne hcn, new_ne hcn, old_ne0 hcn, new_ne0 hcn, upd1_old _ _ _ _ _ hyn, upd1_old0 _ _ _ _ hyn, old_ne hyn, new_ne hyn, old_ne0 hyn, new_ne0 hyn, upd1_old _ _ _ _ _ hpn, upd1_old0 _ _ _ _ hpn, old_ne hpn, new_ne hpn, old_ne0 hpn, new_ne0 hpn]
  simp only [go_sem, ↓reduceIte]
  refine .mk (.tup []) (by simp only [go_sem, ↓reduceIte, resR, resAll, resA] <;> rfl) ⟨rfl, ⟨_, H.send' (x := q * ((i.b : Rat) * turnQ (D.getD i.a.toNat 0) i.b (D.getD k 0))) a1 (by simp only [go_sem, ↓reduceIte]) (by simp only [go_sem, ↓reduceIte, upd1_nei H.bc, upd1_old _ _ _ _ _ hbn, upd1_old0 _ _ _ _ hbn, old_ne hbn, new_ne hbn, old_ne0 hbn, new_ne0 hbn, upd1_old _ _ _ _ _ hcn, upd1_old0 _ _ _ _ hcn, old_ne hcn, new_ne hcn, old_ne0 hcn, new_ne0 hcn, upd1_old _ _ _ _ _ hyn, upd1_old0 _ _ _ _ hyn, old_ne hyn, new_ne hyn, old_ne0 hyn, new_ne0 hyn, upd1_old _ _ _ _ _ hpn, upd1_old0 _ _ _ _ hpn, old_ne hpn, new_ne hpn, old_ne0 hpn, new_ne0 hpn]) (by simp only [go_sem, ↓reduceIte, upd1_nei (Ne.symm H.cY), upd1_old _ _ _ _ _ hbn, upd1_old0 _ _ _ _ hbn, old_ne hbn, new_ne hbn, old_ne0 hbn, new_ne0 hbn, upd1_old _ _ _ _ _ hcn, upd1_old0 _ _ _ _ hcn, old_ne hcn, new_ne hcn, old_ne0 hcn, new_ne0 hcn, upd1_old _ _ _ _ _ hyn, upd1_old0 _ _ _ _ hyn, old_ne hyn, new_ne hyn, old_ne0 hyn, new_ne0 hyn, upd1_old _ _ _ _ _ hpn, upd1_old0 _ _ _ _ hpn, old_ne hpn, new_ne hpn, old_ne0 hpn, new_ne0 hpn]) (by simp only [go_sem, ↓reduceIte, upd1_nei (Ne.symm H.cP), upd1_old _ _ _ _ _ hbn, upd1_old0 _ _ _ _ hbn, old_ne hbn, new_ne hbn, old_ne0 hbn, new_ne0 hbn, upd1_old _ _ _ _ _ hcn, upd1_old0 _ _ _ _ hcn, old_ne hcn, new_ne hcn, old_ne0 hcn, new_ne0 hcn, upd1_old _ _ _ _ _ hyn, upd1_old0 _ _ _ _ hyn, old_ne hyn, new_ne hyn, old_ne0 hyn, new_ne0 hyn, upd1_old _ _ _ _ _ hpn, upd1_old0 _ _ _ _ hpn, old_ne hpn, new_ne hpn, old_ne0 hpn, new_ne0 hpn])⟩, fun j hj j1 j2 j3 j4 => by simp only [go_sem, ↓reduceIte, upd1_nei j1, upd1_nei j2, upd1_nei j3, upd1_nei j4, upd1_old _ _ _ _ _ hj, upd1_old0 _ _ _ _ hj]⟩
end
end Go.Proofs.YtopmghclhgihfaaGreatDoor

set_option linter.unusedVariables false
set_option linter.unusedSimpArgs false
set_option maxRecDepth 10000
namespace Go.Proofs.YtopmghclhgihfaaGreatDoor
open Go Go.Ab Go.Num

theorem Gau.eq' {H H' : Heap} {g : Nat} {l : Int} (h : Gau H g l) (he : H' g = H g) : Gau H' g l := by
  obtain ⟨s, p, h⟩ := h
  exact ⟨s, p, by rw [he, h]⟩
/-- Two new rows of noughts, and a nought. -/
def ZeroP (h : Heap) (n m k : Nat) (v : AV) (h' : Heap) (n' : Nat) : Prop := ∃ b1 b2, v = .agg [.bool (cq 0).neg, encW (cq 0).n, encW (cq 0).d, .own b1 0 m 3, .own b2 0 k 3] ∧ h' b1 = some (flatC encQ (zeros m)) ∧ h' b2 = some (flatC encQ (zeros k)) ∧ n ≤ b1 ∧ n ≤ b2 ∧ b1 ≠ b2 ∧ b1 < n' ∧ b2 < n' ∧ ∀ j, j < n → h' j = h j
set_option maxRecDepth 20000 in
theorem c_pzero (m k : Nat) (hm : m ≤ 300) (hk : k ≤ 300) (h : Heap) (n : Nat) : HCalls Tryz.prog 39 [.int .i64 m, .int .i64 k] h n (fun v h' n' => ZeroP h n m k v h' n') := by
  have h0 := c_q0
  simp only [encQ, encR, encW] at h0
  refine hcalls_of_AWR (pa := []) (fn := Tryz.f39) (rs := [.cell 4 54]) follows_mixed Tryz.func39 rfl rfl (by kernel_rfl) (by kernel_rfl) (by rw [Tryz.ntmps39]; simp) ?_
  simp only [go_sem, ↓reduceIte]
  refine callS_p h0 ?_
  simp only [go_sem, ↓reduceIte]
  refine callS_h (c_rzero m hm _ _) ?_
  rintro v h1 n1 hn1 ⟨⟨b1, rfl, e1, l1, l1'⟩, k1⟩
  simp only [go_sem, ↓reduceIte] at hn1 l1 k1
  have lm : (zeros m).length = m := by simp [zeros]
  have lk : (zeros k).length = k := by simp [zeros]
  rw [lm]
  have k1n := k1 n (by omega)
  simp only [go_sem, ↓reduceIte] at k1n
  simp only [go_sem, ↓reduceIte]
  refine callS_h (c_rzero k hk _ _) ?_
  rintro v h2 n2 hn2 ⟨⟨b2, rfl, e2, l2, l2'⟩, k2⟩
  simp only [go_sem, ↓reduceIte] at hn2 l2 k2
  rw [lk]
  have hb2n := (k2 n (by omega)).trans k1n
  have hb1 := (k2 b1 l1').trans e1
  simp only [go_sem, ↓reduceIte, hb2n]
  refine .mk (.agg [.bool (cq 0).neg, encW (cq 0).n, encW (cq 0).d, .own b1 0 m 3, .own b2 0 k 3]) (by simp only [go_sem, ↓reduceIte, resR, resAll, resA, encW] <;> rfl) ⟨b1, b2, rfl, by simp only [go_sem, ↓reduceIte, upd1_nei (show b1 ≠ n by omega), hb1], by simp only [go_sem, ↓reduceIte, upd1_nei (show b2 ≠ n by omega), e2], by omega, by omega, by omega, by simp only [go_sem, ↓reduceIte]; omega, by simp only [go_sem, ↓reduceIte]; omega, fun j hj => by simp only [go_sem, ↓reduceIte, upd1_nei (show j ≠ n by omega)]; rw [k2 j (by omega), k1 j (by omega)]; simp only [go_sem, ↓reduceIte, upd1_old0 _ _ _ _ hj, upd1_old _ _ _ _ _ hj]⟩

def vLong (l : Int) (L : List Rat) : AV := match firstLong l L 0 with
  | some i => .tup [.int .i64 (i : Nat), .bool false]
  | none => .tup [.int .i64 (L.length : Nat), .bool true]
theorem firstLong_drop (l : Int) : ∀ (L : List Rat) (k i : Nat), i < L.length → firstLong l (L.drop i) k = if fitQ l (L.getD i 0) then firstLong l (L.drop (i + 1)) (k + 1) else some k := fun L k i hi => by
  rw [drop_cons hi, firstLong, show L.getD i 0 = L[i] by simp [hi]]
set_option maxRecDepth 20000 in
set_option maxHeartbeats 1000000 in
theorem c_growr (g c : Nat) (L : List Rat) (l : Int) (h : Heap) (n : Nat) (hg : Gau h g l) (hc : h c = some (flatC encQ L)) (hgn : g < n) (hcn : c < n) (hgc : g ≠ c) (hL : L.length ≤ 100000) (hs : ∀ q ∈ L, qw q ≤ 80000) :
    HCalls Tryz.prog 46 [.ptr g 0, .own c 0 L.length 3] h n (fun v h' n' => v = vLong l L ∧ ∀ j, j < n → j ≠ g → h' j = h j) := by
  unfold vLong
  refine hcalls_of_AWR (pa := []) (fn := Tryz.f46) (rs := [.tmp 4, .tmp 5]) follows_mixed Tryz.func46 rfl rfl (by kernel_rfl) (by kernel_rfl) (by rw [Tryz.ntmps46]; simp) ?_
  simp only [go_sem, ↓reduceIte]
  refine AW_while (fun m st => ∃ i, i + m = L.length ∧ firstLong l (L.drop i) i = firstLong l L 0 ∧ st.τ 0 = .ptr g 0 ∧ st.τ 1 = .own c 0 L.length 3 ∧ st.τ 8 = .own c 0 L.length 3 ∧ st.τ 9 = .int .i64 L.length ∧ st.τ 10 = .int .i64 (i : Nat) ∧ Gau st.h g l ∧ st.h c = some (flatC encQ L) ∧ n ≤ st.n ∧ ∀ j, j < n → j ≠ g → st.h j = h j) L.length ?_ ?_
  · exact ⟨0, by omega, rfl, by simp only [go_sem, ↓reduceIte], by simp only [go_sem, ↓reduceIte], by simp only [go_sem, ↓reduceIte], by simp only [go_sem, ↓reduceIte], by simp only [go_sem, ↓reduceIte] <;> rfl, hg.eq' (by simp only [go_sem, ↓reduceIte]), by simp only [go_sem, ↓reduceIte, hc], by simp only [go_sem, ↓reduceIte] <;> omega, fun j hj hjg => by simp only [go_sem, ↓reduceIte]⟩
  · rintro m st ⟨i, hi, hfl, e0, e1, e8, e9, e10, hgg, hcc, hn, hkp⟩ next
    have hcn' : c < st.n := by omega
    have hgn' : g < st.n := by omega
    by_cases hlt : i < L.length
    · have hlt' : ((i : Nat) : Int) < (L.length : Nat) := by omega
      have h0i : (0 : Int) ≤ (i : Nat) := by omega
      have ga := get_q hlt
      have la : i * 3 ≤ L.length * 3 := by omega
      have lq := len_q L
      rw [firstLong_drop l L i i hlt] at hfl
      have hq : qw (L.getD i 0) ≤ 80000 := hs _ (by rw [show L.getD i 0 = L[i] by simp [hlt]]; exact List.getElem_mem _)
      have ht := fun H N (h1 : Gau H g l) (h2 : g < N) => c_gtake g (cq (L.getD i 0)) (okR_cq hq) H N l h1 h2
      have ef : decide ((fsz (cq (L.getD i 0)) : Int) ≤ l) = fitQ l (L.getD i 0) := rfl
      simp only [encR, encW, ef] at ht
      simp only [go_sem, ↓reduceIte, e0, e1, e8, e9, e10, hlt', h0i, hcc, ga, la, lq, encW, upd1_old _ _ _ _ _ hcn', upd1_old0 _ _ _ _ hcn']
      refine callS_h (ht _ _ (hgg.eq' (by simp only [go_sem, ↓reduceIte, upd1_old _ _ _ _ _ hgn'])) (by simp only [go_sem, ↓reduceIte] <;> omega)) ?_
      clear ht
      rintro v h' n' hn' ⟨rfl, hg', hk⟩
      simp only [go_sem, ↓reduceIte] at hn' hk
      have kc : h' c = some (flatC encQ L) := by rw [hk c (by omega) (fun h => hgc h.symm)]; simp only [go_sem, ↓reduceIte, upd1_old _ _ _ _ _ hcn', hcc]
      have kk : ∀ j, j < n → j ≠ g → h' j = h j := fun j hj hjg => by rw [hk j (by omega) hjg]; simp only [go_sem, ↓reduceIte, upd1_old _ _ _ _ _ (show j < st.n by omega), hkp j hj hjg]
      cases hf : fitQ l (L.getD i 0) with
      | false =>
        rw [hf, if_neg (by decide)] at hfl
        rw [← hfl]
        simp only [go_sem, ↓reduceIte, e0, e1, e8, e9, e10]
        refine .mk (.tup [.int .i64 (i : Nat), .bool false]) (by simp only [go_sem, ↓reduceIte, resR, resAll, resA] <;> rfl) ⟨rfl, fun j hj hjg => by simp only [go_sem, ↓reduceIte]; exact kk j hj hjg⟩
      | true =>
        rw [hf, if_pos rfl] at hfl
        simp only [go_sem, ↓reduceIte, e0, e1, e8, e9, e10]
        refine next (m - 1) _ (by omega) ⟨i + 1, by omega, hfl, by simp only [go_sem, ↓reduceIte, e0], by simp only [go_sem, ↓reduceIte, e1], by simp only [go_sem, ↓reduceIte, e8], by simp only [go_sem, ↓reduceIte, e9], by simp only [go_sem, ↓reduceIte]; rw [wrap64_id (by omega) (by omega)]; rfl, hg'.eq' (by simp only [go_sem, ↓reduceIte]), by simp only [go_sem, ↓reduceIte, kc], by simp only [go_sem, ↓reduceIte]; omega, fun j hj hjg => by simp only [go_sem, ↓reduceIte]; exact kk j hj hjg⟩
    · have hlt' := dec_false (show ¬ ((i : Nat) : Int) < (L.length : Nat) by omega)
      rw [List.drop_eq_nil_of_le (by omega), firstLong] at hfl
      rw [← hfl]
      simp only [go_sem, ↓reduceIte, e0, e1, e8, e9, e10, hlt']
      refine .mk (.tup [.int .i64 (L.length : Nat), .bool true]) (by simp only [go_sem, ↓reduceIte, resR, resAll, resA] <;> rfl) ⟨rfl, fun j hj hjg => by simp only [go_sem, ↓reduceIte]; exact hkp j hj hjg⟩

set_option maxRecDepth 20000 in
set_option maxHeartbeats 1000000 in
theorem c_all (q : Rat) (Y P : List Rat) (y p : Nat) (h : Heap) (n : Nat) (hy : h y = some (flatC encQ Y)) (hp : h p = some (flatC encQ P)) (hyn : y < n) (hpn : p < n) (lY : Y.length ≤ 1000) (lP : P.length ≤ 1000) :
    HCalls Tryz.prog 47 [.agg [.bool (cq q).neg, encW (cq q).n, encW (cq q).d, .own y 0 Y.length 3, .own p 0 P.length 3]] h n (fun v h' n' => NewOwn h n (q :: (Y ++ P)) v h' n') := by
  have a1 : Y.length ≤ 274877906944 := by omega
  have a2 : P.length ≤ 274877906944 := by omega
  have l1 := len_q Y
  have l2 := len_q P
  have tkY : (flatC encQ Y).take (Y.length * 3) = flatC encQ Y := List.take_of_length_le (Nat.le_of_eq l1)
  have tkP : (flatC encQ P).take (P.length * 3) = flatC encQ P := List.take_of_length_le (Nat.le_of_eq l2)
  have a3 : 1 + Y.length ≤ 274877906944 := by omega
  have a4 : (1 + Y.length) * 3 ≤ Y.length * 3 + 3 := by omega
  have eL : (q :: (Y ++ P)).length = 1 + (Y.length + P.length) := by simp; omega
  have eF : ∀ c1 c2 c3 : AV, (c1 :: c2 :: c3 :: flatC encQ Y).take ((1 + Y.length) * 3) = c1 :: c2 :: c3 :: flatC encQ Y := fun c1 c2 c3 => List.take_of_length_le (by simp only [List.length_cons, l1]; omega)
  have eB : flatC encQ (q :: (Y ++ P)) = .bool (cq q).neg :: encW (cq q).n :: encW (cq q).d :: (flatC encQ Y ++ flatC encQ P) := by
    simp only [flatC, List.flatMap_cons, List.flatMap_append]; rfl
  refine hcalls_of_AWR (pa := []) (fn := Tryz.f47) (rs := [.tmp 2]) follows_mixed Tryz.func47 rfl rfl (by kernel_rfl) (by kernel_rfl) (by rw [Tryz.ntmps47]; simp) ?_
  simp only [go_sem, ↓reduceIte, encW, hy, hp, l1, l2, a1, a2, a3, a4, tkY, tkP, eF, upd1_old _ _ _ _ _ hyn, upd1_old0 _ _ _ _ hyn, upd1_old _ _ _ _ _ hpn, upd1_old0 _ _ _ _ hpn, old_ne hyn, new_ne hyn, old_ne0 hyn, new_ne0 hyn, old_ne hpn, new_ne hpn, old_ne0 hpn, new_ne0 hpn]
  refine .mk (.own (n + 12) 0 (1 + (Y.length + P.length)) 3) (by simp only [go_sem, ↓reduceIte, resR, resAll, resA] <;> rfl) ⟨⟨n + 12, by rw [eL], by rw [eB]; simp only [go_sem, ↓reduceIte, encW], by omega, by simp only [go_sem, ↓reduceIte]; omega⟩, fun j hj => by simp only [go_sem, ↓reduceIte, upd1_old _ _ _ _ _ hj, upd1_old0 _ _ _ _ hj]⟩
end Go.Proofs.YtopmghclhgihfaaGreatDoor

set_option linter.unusedVariables false
set_option linter.unusedSimpArgs false
set_option maxRecDepth 10000
namespace Go.Proofs.YtopmghclhgihfaaGreatDoor
open Go Go.Ab Go.Num

section
variable (b c y p : Nat) (t : Tp) (D : List Rat) (S : Bk) (Z : List (Rat × Bool)) (k : Nat) (h : Heap) (n : Nat)
set_option maxRecDepth 20000 in
set_option maxHeartbeats 4000000 in
theorem c_thr1 (hT : Thr b c y p t D S Z k h n) (h0 : S.co.getD k 0 ≠ 0) (eop : (t.code.getD k ⟨0, 0, 0, ⟨false, [], []⟩⟩).op = 1) : HCalls Tryz.prog 45 [.ptr b 0, .int .i64 k] h n (fun v h' n' => BkPost h n b c y p t D (thr0 D (t.code.getD k ⟨0, 0, 0, ⟨false, [], []⟩⟩) k S) v h' n') := by
  obtain ⟨H, hbn, hcn, hyn, hpn, hk, hm, hD, hZ, ly, lp, hd, hq, hs, ht, sy, sp⟩ := hT
  have hb := H.hb
  have hc := H.hc
  have hy := H.hy
  have hp := H.hp
  have hkZ : k < Z.length := by omega
  have gi : (t.code.map encI).getD k .undef = encI (t.code.getD k ⟨0, 0, 0, ⟨false, [], []⟩⟩) := by simp [List.getD, hk]
  have gb := get_b hkZ
  have lz := len_b Z
  have la : k * 3 ≤ Z.length * 3 := by omega
  have hk' : ((k : Nat) : Int) < (t.code.length : Nat) := by omega
  have hkz' : ((k : Nat) : Int) < (Z.length : Nat) := by omega
  have h0k : (0 : Int) ≤ (k : Nat) := by omega
  have hco : S.co.getD k 0 = (Z.getD k (0, true)).1 := by rw [← H.co]; simp [hkZ]
  have hok := getD_okB H.ok hkZ
  generalize t.code.getD k ⟨0, 0, 0, ⟨false, [], []⟩⟩ = i at *
  have e0 : thr0 D i k S = thrQ D i k (S.co.getD k 0) S := thr0_eq D i k S
  rw [e0]
  clear e0
  generalize hqq : S.co.getD k 0 = q at *
  generalize hpp : Z.getD k (0, true) = pp at *
  obtain ⟨q', fl⟩ := pp
  simp only at hco
  subst hco
  obtain rfl : fl = false := by
    cases fl with
    | false => rfl
    | true => exact absurd (hok rfl) h0
  simp only [encB, if_true, Bool.false_eq_true, if_false, encQ, encR, encW] at gb
  have s1 := c_qsign (q := q) (by omega)
  simp only [encQ, encR, encW] at s1
  have sg := dec_false (sign_ne h0)
  have n2 : ¬ i.op = 2 := by omega
  have n3 : ¬ i.op = 3 := by omega
  have n4 : ¬ i.op = 4 := by omega
  have n6 : ¬ i.op = 6 := by omega
  have n7 : ¬ i.op = 7 := by omega
  have n8 : ¬ i.op = 8 := by omega
  have n9 : ¬ i.op = 9 := by omega
  have n10 : ¬ i.op = 10 := by omega
  have n11 : ¬ i.op = 11 := by omega
  have et : thrQ D i k q S = S := by simp only [thrQ, if_neg n2, if_neg n3, if_neg n4, if_neg n6, if_neg n7, if_neg n8, if_neg n9, if_neg n10, if_neg n11]
  rw [et]
  refine hcalls_of_AWR (pa := []) (fn := Tryz.f45) (rs := []) follows_mixed Tryz.func45 rfl rfl (by kernel_rfl) (by kernel_rfl) (by rw [Tryz.ntmps45]; simp) ?_
  simp only [go_sem, ↓reduceIte, hb, hc, hy, hp, gi, gb, lz, la, hk', hkz', h0k, List.length_map, encI, encW, upd1_old _ _ _ _ _ hbn, upd1_old0 _ _ _ _ hbn, old_ne hbn, new_ne hbn, old_ne0 hbn, new_ne0 hbn, upd1_old _ _ _ _ _ hcn, upd1_old0 _ _ _ _ hcn, old_ne hcn, new_ne hcn, old_ne0 hcn, new_ne0 hcn, upd1_old _ _ _ _ _ hyn, upd1_old0 _ _ _ _ hyn, old_ne hyn, new_ne hyn, old_ne0 hyn, new_ne0 hyn, upd1_old _ _ _ _ _ hpn, upd1_old0 _ _ _ _ hpn, old_ne hpn, new_ne hpn, old_ne0 hpn, new_ne0 hpn]
  refine callS_p s1 ?_
  simp only [go_sem, ↓reduceIte, beq_int, sg, dec_false n2, dec_false n3, dec_false n4, dec_false n6, dec_false n7, dec_false n8, dec_false n9, dec_false n10, dec_false n11, hb, hc, hy, hp, upd1_old _ _ _ _ _ hbn, upd1_old0 _ _ _ _ hbn, old_ne hbn, new_ne hbn, old_ne0 hbn, new_ne0 hbn, upd1_old _ _ _ _ _ hcn, upd1_old0 _ _ _ _ hcn, old_ne hcn, new_ne hcn, old_ne0 hcn, new_ne0 hcn, upd1_old _ _ _ _ _ hyn, upd1_old0 _ _ _ _ hyn, old_ne hyn, new_ne hyn, old_ne0 hyn, new_ne0 hyn, upd1_old _ _ _ _ _ hpn, upd1_old0 _ _ _ _ hpn, old_ne hpn, new_ne hpn, old_ne0 hpn, new_ne0 hpn]
  exact .mk (.tup []) (by simp only [go_sem, ↓reduceIte, resR, resAll, resA] <;> rfl) ⟨rfl, ⟨Z, H.eq (by simp only [go_sem, ↓reduceIte, upd1_old _ _ _ _ _ hbn, upd1_old0 _ _ _ _ hbn, old_ne hbn, new_ne hbn, old_ne0 hbn, new_ne0 hbn, upd1_old _ _ _ _ _ hcn, upd1_old0 _ _ _ _ hcn, old_ne hcn, new_ne hcn, old_ne0 hcn, new_ne0 hcn, upd1_old _ _ _ _ _ hyn, upd1_old0 _ _ _ _ hyn, old_ne hyn, new_ne hyn, old_ne0 hyn, new_ne0 hyn, upd1_old _ _ _ _ _ hpn, upd1_old0 _ _ _ _ hpn, old_ne hpn, new_ne hpn, old_ne0 hpn, new_ne0 hpn]) (by simp only [go_sem, ↓reduceIte, upd1_old _ _ _ _ _ hbn, upd1_old0 _ _ _ _ hbn, old_ne hbn, new_ne hbn, old_ne0 hbn, new_ne0 hbn, upd1_old _ _ _ _ _ hcn, upd1_old0 _ _ _ _ hcn, old_ne hcn, new_ne hcn, old_ne0 hcn, new_ne0 hcn, upd1_old _ _ _ _ _ hyn, upd1_old0 _ _ _ _ hyn, old_ne hyn, new_ne hyn, old_ne0 hyn, new_ne0 hyn, upd1_old _ _ _ _ _ hpn, upd1_old0 _ _ _ _ hpn, old_ne hpn, new_ne hpn, old_ne0 hpn, new_ne0 hpn]) (by simp only [go_sem, ↓reduceIte, upd1_old _ _ _ _ _ hbn, upd1_old0 _ _ _ _ hbn, old_ne hbn, new_ne hbn, old_ne0 hbn, new_ne0 hbn, upd1_old _ _ _ _ _ hcn, upd1_old0 _ _ _ _ hcn, old_ne hcn, new_ne hcn, old_ne0 hcn, new_ne0 hcn, upd1_old _ _ _ _ _ hyn, upd1_old0 _ _ _ _ hyn, old_ne hyn, new_ne hyn, old_ne0 hyn, new_ne0 hyn, upd1_old _ _ _ _ _ hpn, upd1_old0 _ _ _ _ hpn, old_ne hpn, new_ne hpn, old_ne0 hpn, new_ne0 hpn]) (by simp only [go_sem, ↓reduceIte, upd1_old _ _ _ _ _ hbn, upd1_old0 _ _ _ _ hbn, old_ne hbn, new_ne hbn, old_ne0 hbn, new_ne0 hbn, upd1_old _ _ _ _ _ hcn, upd1_old0 _ _ _ _ hcn, old_ne hcn, new_ne hcn, old_ne0 hcn, new_ne0 hcn, upd1_old _ _ _ _ _ hyn, upd1_old0 _ _ _ _ hyn, old_ne hyn, new_ne hyn, old_ne0 hyn, new_ne0 hyn, upd1_old _ _ _ _ _ hpn, upd1_old0 _ _ _ _ hpn, old_ne hpn, new_ne hpn, old_ne0 hpn, new_ne0 hpn])⟩, fun j hj _ _ _ _ => by simp only [go_sem, ↓reduceIte, upd1_old _ _ _ _ _ hj, upd1_old0 _ _ _ _ hj]⟩
theorem c_through (hT : Thr b c y p t D S Z k h n) : HCalls Tryz.prog 45 [.ptr b 0, .int .i64 k] h n (fun v h' n' => BkPost h n b c y p t D (thr0 D (t.code.getD k ⟨0, 0, 0, ⟨false, [], []⟩⟩) k S) v h' n') := by
  by_cases h0 : S.co.getD k 0 = 0
  · exact c_thr0 b c y p t D S Z k h n hT h0
  by_cases n1 : (t.code.getD k ⟨0, 0, 0, ⟨false, [], []⟩⟩).op = 1
  · exact c_thr1 b c y p t D S Z k h n hT h0 n1
  by_cases n2 : (t.code.getD k ⟨0, 0, 0, ⟨false, [], []⟩⟩).op = 2
  · exact c_thr2 b c y p t D S Z k h n hT h0 n2
  by_cases n3 : (t.code.getD k ⟨0, 0, 0, ⟨false, [], []⟩⟩).op = 3
  · exact c_thr3 b c y p t D S Z k h n hT h0 n3
  by_cases n4 : (t.code.getD k ⟨0, 0, 0, ⟨false, [], []⟩⟩).op = 4
  · exact c_thr4 b c y p t D S Z k h n hT h0 n4
  by_cases n6 : (t.code.getD k ⟨0, 0, 0, ⟨false, [], []⟩⟩).op = 6
  · exact c_thr6 b c y p t D S Z k h n hT h0 n6
  by_cases n7 : (t.code.getD k ⟨0, 0, 0, ⟨false, [], []⟩⟩).op = 7
  · exact c_thr7 b c y p t D S Z k h n hT h0 n7
  by_cases n8 : (t.code.getD k ⟨0, 0, 0, ⟨false, [], []⟩⟩).op = 8
  · exact c_thr8 b c y p t D S Z k h n hT h0 n8
  by_cases n9 : (t.code.getD k ⟨0, 0, 0, ⟨false, [], []⟩⟩).op = 9
  · exact c_thr9 b c y p t D S Z k h n hT h0 n9
  by_cases n10 : (t.code.getD k ⟨0, 0, 0, ⟨false, [], []⟩⟩).op = 10
  · exact c_thr10 b c y p t D S Z k h n hT h0 n10
  by_cases n11 : (t.code.getD k ⟨0, 0, 0, ⟨false, [], []⟩⟩).op = 11
  · exact c_thr11 b c y p t D S Z k h n hT h0 n11
  have hm := hT.hm
  unfold mayB at hm
  rw [if_neg n1, Bool.and_eq_true, Bool.and_eq_true] at hm
  have hk := hm.2.2
  rw [kindB, if_neg n2, if_neg n3, if_neg n4, if_neg n6, if_neg n11] at hk
  have := of_decide_eq_true hk
  omega
end

/-! ### How great do numbers get? -/
theorem bump_sz {l : List Rat} {m k : Nat} (h : ∀ q ∈ l, qw q ≤ m) (hm : 1 ≤ m) (i : Nat) {x : Rat} (hx : qw x ≤ k) : ∀ q ∈ bump l i x, qw q ≤ m + k + 1 := fun q hq => by
  rcases List.mem_or_eq_of_mem_set hq with h1 | h1
  · have := h q h1; omega
  · subst h1
    have h2 := getD_size h hm i
    have := qw_add (l.getD i 0) x
    omega
/-- Bounds of a state. -/
structure BkSz (S : Bk) (m : Nat) : Prop where
  co : ∀ q ∈ S.co, qw q ≤ m
  t : qw S.t ≤ m
  y : ∀ q ∈ S.y, qw q ≤ m
  p : ∀ q ∈ S.p, qw q ≤ m
theorem BkSz.mono {S : Bk} {m k : Nat} (h : BkSz S m) (hk : m ≤ k) : BkSz S k := ⟨fun q hq => Nat.le_trans (h.co q hq) hk, Nat.le_trans h.t hk, fun q hq => Nat.le_trans (h.y q hq) hk, fun q hq => Nat.le_trans (h.p q hq) hk⟩
theorem BkSz.send {S : Bk} {m k : Nat} (h : BkSz S m) (hm : 1 ≤ m) (i : Nat) {x : Rat} (hx : qw x ≤ k) : BkSz (S.send i x) (m + k + 1) :=
  ⟨bump_sz h.co hm i hx, Nat.le_trans h.t (by omega), fun q hq => Nat.le_trans (h.y q hq) (by omega), fun q hq => Nat.le_trans (h.p q hq) (by omega)⟩
theorem thrQ_sz {D : List Rat} {i : Ins} {k : Nat} {c : Rat} {S : Bk} {m : Nat} (h : BkSz S m) (hm : 1 ≤ m) (hd : ∀ x ∈ D, qw x ≤ 50) (hc : qw c ≤ 50) (hb : i.op = 11 → -8 ≤ i.b ∧ i.b ≤ 8) : BkSz (thrQ D i k c S) (m + 510) := by
  have da := getD_size hd (by omega) i.a.toNat
  have db := getD_size hd (by omega) i.b.toNat
  have dk := getD_size hd (by omega) k
  have cn := qw_neg c
  unfold thrQ
  split
  · have := qw_add S.t c
    have := h.t
    exact ⟨fun q hq => Nat.le_trans (h.co q hq) (by omega), by simp only; omega, fun q hq => Nat.le_trans (h.y q hq) (by omega), fun q hq => Nat.le_trans (h.p q hq) (by omega)⟩
  split
  · exact ⟨fun q hq => Nat.le_trans (h.co q hq) (by omega), Nat.le_trans h.t (by omega), fun q hq => Nat.le_trans (bump_sz h.y hm _ hc q hq) (by omega), fun q hq => Nat.le_trans (h.p q hq) (by omega)⟩
  split
  · exact ⟨fun q hq => Nat.le_trans (h.co q hq) (by omega), Nat.le_trans h.t (by omega), fun q hq => Nat.le_trans (h.y q hq) (by omega), fun q hq => Nat.le_trans (bump_sz h.p hm _ hc q hq) (by omega)⟩
  split
  · exact (h.send hm _ (k := 50) (by omega)).mono (by omega)
  split
  · exact ((h.send hm _ (k := 50) (by omega)).send (by omega) _ (k := 50) (by omega)).mono (by omega)
  split
  · exact ((h.send hm _ (k := 50) (by omega)).send (by omega) _ (k := 50) (by omega)).mono (by omega)
  split
  · have z1 := qw_mul c (D.getD i.a.toNat 0)
    have z2 := qw_mul c (D.getD i.b.toNat 0)
    exact ((h.send hm _ (k := 100) (by omega)).send (by omega) _ (k := 100) (by omega)).mono (by omega)
  split
  · have z1 := qw_div c (D.getD i.b.toNat 0)
    have z2 := qw_mul (c / D.getD i.b.toNat 0) (D.getD k 0)
    have z3 := qw_neg (c / D.getD i.b.toNat 0 * D.getD k 0)
    exact ((h.send hm _ (k := 100) (by omega)).send (by omega) _ (k := 150) (by omega)).mono (by omega)
  split
  · rename_i e11
    have hp := qw_pos (D.getD i.a.toNat 0)
    obtain ⟨e1, e2⟩ := hb e11
    have z1 := turn_size (D.getD i.a.toNat 0) i.b (D.getD k 0) (by omega) (k := 50) (by omega) (by omega) (by omega)
    have z2 := qw_of i.b (by omega)
    have z3 := qw_mul (i.b : Rat) (turnQ (D.getD i.a.toNat 0) i.b (D.getD k 0))
    have z4 := qw_mul c ((i.b : Rat) * turnQ (D.getD i.a.toNat 0) i.b (D.getD k 0))
    exact (h.send hm _ (k := 501) (by omega)).mono (by omega)
  · exact h.mono (by omega)
theorem fit_size50 {l : Int} {q : Rat} (hl : l ≤ 1500) (h : fitQ l q = true) : qw q ≤ 50 := by
  have h := of_decide_eq_true h
  simp only [fsz, cq] at h
  have h1 := dig_len_blen q.num.natAbs
  have h2 := dig_len_blen q.den
  rw [val_dig, val_dig] at h
  unfold qw
  omega
theorem runL_sz50 (T : Rat) (Y P : List Rat) (l : Int) (hl : l ≤ 1500) : ∀ (c : List Ins) (D : List Rat), (∀ q ∈ D, qw q ≤ 50) → ∀ q ∈ (runL T Y P l c D).1, qw q ≤ 50
  | [], D, h => h
  | i :: r, D, h => by
    rw [runL]
    cases e : stepQ T Y P i D with
    | none => intro q hq; simp at hq
    | some q =>
      by_cases hf : fitQ l q = true
      · simp only [if_pos hf]
        refine runL_sz50 T Y P l hl r _ fun x hx => ?_
        rcases List.mem_append.1 hx with hx | hx
        · exact h x hx
        · rw [List.mem_singleton] at hx; subst hx; exact fit_size50 hl hf
      · simp only [if_neg hf]; intro q hq; simp at hq
theorem runT_sz50 (t : Tp) (T : Rat) (Y P : List Rat) {l : Int} (hl : l ≤ 1500) : ∀ q ∈ (runT t T Y P l).1, qw q ≤ 50 := by
  unfold runT
  split
  · exact runL_sz50 T Y P l hl _ _ (fun q hq => by simp at hq)
  · intro q hq; simp at hq
theorem sendAll_sz : ∀ (os : List Int) (w co : List Rat) (m k : Nat), 1 ≤ m → (∀ q ∈ w, qw q ≤ k) → (∀ q ∈ co, qw q ≤ m) → ∀ q ∈ sendAll os w co, qw q ≤ m + os.length * (k + 1)
  | [], w, co, m, k, _, _, hc => by cases w <;> (simp only [sendAll]; intro q hq; have := hc q hq; simp; omega)
  | o :: os, [], co, m, k, _, _, hc => by simp only [sendAll]; intro q hq; have := hc q hq; omega
  | o :: os, w :: ws, co, m, k, hm, hw, hc => fun q hq => by
    rw [sendAll] at hq
    have := sendAll_sz os ws _ (m + k + 1) k (by omega) (fun q hq => hw q (by simp [hq])) (bump_sz hc hm _ (hw w (by simp))) q hq
    simp only [List.length_cons, Nat.add_mul, Nat.one_mul]
    omega
end Go.Proofs.YtopmghclhgihfaaGreatDoor

set_option linter.unusedVariables false
set_option linter.unusedSimpArgs false
set_option maxRecDepth 10000
namespace Go.Proofs.YtopmghclhgihfaaGreatDoor
open Go Go.Ab Go.Num

def encG (g : Rat × List Rat × List Rat) : AV := .agg [.bool (cq g.1).neg, encW (cq g.1).n, encW (cq g.1).d, .sl 3 (g.2.1.map encQ), .sl 3 (g.2.2.map encQ)]
def vBack (r : (Rat × List Rat × List Rat) × Int × Int × Int) : AV := .tup [encG r.1, encF3 r.2.1 r.2.2.1 r.2.2.2]
theorem zeros0 : zeros 0 = [] := rfl

theorem HCalls.fresh {P : Program} {f : FuncId} {args : List AV} {h : Heap} {n : Nat} {post : AV → Heap → Nat → Prop} (H : HCalls P f args h n post) : HCalls P f args h n (fun v h' n' => (∀ i, n' ≤ i → h' i = none) ∧ post v h' n') :=
  ⟨H.1, fun I M w cargs hr ha => (H.2 I M w cargs hr ha).mono fun e w' ⟨cv, v, I', M', h', n', he, hp, hv, hh, hx, hn, hf⟩ => ⟨cv, v, I', M', h', n', he, ⟨fun i hi => hh.no i fun A sz hm => (by rw [hh.fr i hi] at hm; cases hm), hp⟩, hv, hh, hx, hn, hf⟩⟩
theorem oloc_pzero (m k : Nat) (hm : m ≤ 300) (hk : k ≤ 300) (h : Heap) (e1 e2 : Nat) (h1 : h e1 = none) (h2 : h e2 = none) (hne : e1 ≠ e2) :
    OLoc Tryz.prog 39 [.int .i64 m, .int .i64 k] h { v := .agg [.bool (cq 0).neg, encW (cq 0).n, encW (cq 0).d, .own e1 0 m 3, .own e2 0 k 3], up := [(e1, some (flatC encQ (zeros m))), (e2, some (flatC encQ (zeros k)))] } :=
  OLoc.of_new2 (cs := [.bool (cq 0).neg, encW (cq 0).n, encW (cq 0).d]) (c_pzero m k hm hk (fun _ => none) 0).1 rfl (flatC_flat elt_q _) (flatC_flat elt_q _) h1 h2 hne fun h' n => by
    have H := c_pzero m k hm hk h' n
    exact ⟨H.1, fun I M w cargs hr ha => (H.2 I M w cargs hr ha).mono fun e w' ⟨cv, v, I', M', h', n', he, ⟨b1, b2, q1, q2, q3, q4, q5, q6, q7, q8, q9⟩, hv, hh, hx, hn, hf⟩ => ⟨cv, v, I', M', h', n', he, ⟨b1, b2, q1, q2, q3, q4, q5, q6, q9⟩, hv, hh, hx, hn, hf⟩⟩
theorem frz2_encB (h : Heap) (p : Rat × Bool) : frz2 h (encB p) = encB p := by
  rcases p with ⟨q, b⟩; cases b <;> rfl
theorem ids2_encB (p : Rat × Bool) : ids2 (encB p) = [] := by
  rcases p with ⟨q, b⟩; cases b <;> rfl
theorem c_normB {p : Rat × Bool} (hp : p.2 = true → p.1 = 0) (hs : qw p.1 ≤ 80000) : PCalls Tryz.prog 44 [encB p] (encQ p.1) := by
  have h := c_fnorm (frB p) (ok_b hs)
  rw [rv_b hp] at h
  exact h.args_le (.cons (le_b p) .nil)
theorem rep_fst (n : Nat) : (List.replicate n ((0 : Rat), true)).map (·.1) = zeros n := by simp [zeros]
theorem okB_rep (n : Nat) : okB (List.replicate n ((0 : Rat), true)) := fun p hp _ => by rw [List.eq_of_mem_replicate hp]
/-- What stays, while the way back goes on. -/
structure BackC (st : ASt) (N b1 b2 : Nat) (t : Tp) (D : List Rat) (bits : Int) (w : List Fr) : Prop where
  t2 : st.τ 2 = .sl 3 (w.map encR)
  t3 : st.τ 3 = .int .i64 bits
  t4 : st.τ 4 = .ptr 0 0
  t8 : st.τ 8 = .ptr 2 0
  t9 : st.τ 9 = .ptr 3 0
  t10 : st.τ 10 = .ptr 5 0
  t11 : st.τ 11 = .sl 3 (D.map encQ)
  t13 : st.τ 13 = .ptr (N + 30) 0
  h2 : st.h 2 = some [.bool false, .nilsl, .nilsl, .nilsl, .nilsl]
  h3 : st.h 3 = some [.int .i64 0, .int .i64 0, .int .i64 0, .int .i64 0]
  h5 : st.h 5 = some [.bool (cq 0).neg, encW (cq 0).n, encW (cq 0).d, .own b1 0 0 3, .own b2 0 0 3]
  hb1 : st.h b1 = some []
  hb2 : st.h b2 = some []
  n : N + 38 ≤ st.n
theorem BackC.keep {st st' : ASt} {N b1 b2 : Nat} {t : Tp} {D : List Rat} {bits : Int} {w : List Fr} (H : BackC st N b1 b2 t D bits w) (hN : 7 ≤ N) (l1 : b1 < N) (l2 : b2 < N) (hτ : ∀ j ∈ [2, 3, 4, 8, 9, 10, 11, 13], st'.τ j = st.τ j) (hh : ∀ j, j < N → st'.h j = st.h j) (hn : st.n ≤ st'.n) : BackC st' N b1 b2 t D bits w :=
  ⟨by rw [hτ 2 (by simp), H.t2], by rw [hτ 3 (by simp), H.t3], by rw [hτ 4 (by simp), H.t4], by rw [hτ 8 (by simp), H.t8], by rw [hτ 9 (by simp), H.t9], by rw [hτ 10 (by simp), H.t10], by rw [hτ 11 (by simp), H.t11], by rw [hτ 13 (by simp), H.t13],
   by rw [hh 2 (by omega), H.h2], by rw [hh 3 (by omega), H.h3], by rw [hh 5 (by omega), H.h5], by rw [hh b1 l1, H.hb1], by rw [hh b2 l2, H.hb2], Nat.le_trans H.n hn⟩

set_option maxRecDepth 20000 in
set_option maxHeartbeats 4000000 in
theorem c_back (t : Tp) (a : Pt) (w : List Fr) (bits : Int) (ht : okT t) (ha : okP 9000 a) (hw : ∀ f ∈ w, okR 10 f) (hcl : t.code.length ≤ 15) (hol : t.outs.length ≤ 15) (hbits : clampB bits ≤ 1500) : PCalls Tryz.prog 15 [encT t, encPt a, .sl 3 (w.map encR), .int .i64 bits] (vBack (backT t (rv a.t) (a.y.map rv) (a.p.map rv) (w.map rv) (clampB bits))) := by
  have hc := c_tape t a bits ht ha
  have hrk := fun h => runT_ok (t := t) (T := rv a.t) (Y := a.y.map rv) (P := a.p.map rv) (l := clampB bits) h
  have hsz := runT_sz50 t (rv a.t) (a.y.map rv) (a.p.map rv) hbits
  unfold backT
  rw [List.length_map]
  generalize runT t (rv a.t) (a.y.map rv) (a.p.map rv) (clampB bits) = r at hc hrk hsz ⊢
  obtain ⟨D, k, pl⟩ := r
  simp only [vT, encF, encT, encPt, encW] at hc
  simp only at hrk hsz
  by_cases e1 : w.length = t.outs.length
  case neg =>
    rw [if_pos e1]
    have e1' : ¬ ((w.length : Nat) : Int) = (t.outs.length : Nat) := by omega
    refine pcalls_of_AWR (pa := [1000000, 1000001]) (fn := Tryz.f15) (rs := [.cell 8 54, .cell 9 56]) follows_mixed Tryz.func15 rfl rfl (by kernel_rfl) (by kernel_rfl) (by rw [Tryz.ntmps15]; simp) ?_
    simp only [go_sem, ↓reduceIte, encT, encPt, encW]
    refine callS_h (HCalls.fresh (c_pzero 0 0 (by omega) (by omega) _ _)) ?_
    rintro v h' n' hn' ⟨hnew, b1, b2, rfl, z1, z2, l1, l2, l3, l4, l5, hk⟩
    simp only [go_sem, ↓reduceIte] at hn' l1 l2 hk
    have k0 := hk 0 (by omega)
    have k1 := hk 1 (by omega)
    have k2 := hk 2 (by omega)
    have k3 := hk 3 (by omega)
    clear hk
    simp only [go_sem, ↓reduceIte] at k0 k1 k2 k3
    have z1' : h' b1 = some [] := z1
    have z2' : h' b2 = some [] := z2
    have z1' : h' b1 = some [] := z1
    have z2' : h' b2 = some [] := z2
    simp only [go_sem, ↓reduceIte, k0, k1, k2, k3, bne_int, List.length_map, dec_false e1', encW]
    exact .mk (by simp only [go_sem, ↓reduceIte, resR, resAll, resA, vBack, encG, nilG, encF3, encW, z1', z2', upd1_nei (show b1 ≠ 2 by omega), upd1_nei (show b1 ≠ 3 by omega), upd1_nei (show b1 ≠ 5 by omega), upd1_nei (show b2 ≠ 2 by omega), upd1_nei (show b2 ≠ 3 by omega), upd1_nei (show b2 ≠ 5 by omega)] <;> rfl)
  have e1' : ((w.length : Nat) : Int) = (t.outs.length : Nat) := by omega
  rw [if_neg (fun h => h e1)]
  by_cases hk0 : k = 0
  case neg =>
    rw [if_neg hk0]
    refine pcalls_of_AWR (pa := [1000000, 1000001]) (fn := Tryz.f15) (rs := [.cell 8 54, .cell 9 56]) follows_mixed Tryz.func15 rfl rfl (by kernel_rfl) (by kernel_rfl) (by rw [Tryz.ntmps15]; simp) ?_
    simp only [go_sem, ↓reduceIte, encT, encPt, encW]
    refine callS_h (HCalls.fresh (c_pzero 0 0 (by omega) (by omega) _ _)) ?_
    rintro v h' n' hn' ⟨hnew, b1, b2, rfl, z1, z2, l1, l2, l3, l4, l5, hk⟩
    simp only [go_sem, ↓reduceIte] at hn' l1 l2 hk
    have k0 := hk 0 (by omega)
    have k1 := hk 1 (by omega)
    have k2 := hk 2 (by omega)
    have k3 := hk 3 (by omega)
    clear hk
    simp only [go_sem, ↓reduceIte] at k0 k1 k2 k3
    have z1' : h' b1 = some [] := z1
    have z2' : h' b2 = some [] := z2
    have z1' : h' b1 = some [] := z1
    have z2' : h' b2 = some [] := z2
    simp only [go_sem, ↓reduceIte, k0, k1, k2, k3, bne_int, List.length_map, dec_true e1', encW]
    refine callS_p hc ?_
    simp only [go_sem, ↓reduceIte, k0, k1, k2, k3, beq_int, dec_false hk0, encW, upd1_nei (show 2 ≠ n' + 13 by omega)]
    exact .mk (by simp only [go_sem, ↓reduceIte, resR, resAll, resA, vBack, encG, nilG, encF3, encW, z1', z2', upd1_nei (show b1 ≠ n' + 13 by omega), upd1_nei (show b2 ≠ n' + 13 by omega), upd1_nei (show b1 ≠ 2 by omega), upd1_nei (show b1 ≠ 3 by omega), upd1_nei (show b1 ≠ 5 by omega), upd1_nei (show b2 ≠ 2 by omega), upd1_nei (show b2 ≠ 3 by omega), upd1_nei (show b2 ≠ 5 by omega)] <;> rfl)
  rw [if_pos hk0]
  obtain ⟨hwr, hDl, hpl⟩ := hrk hk0
  subst hk0
  obtain rfl : pl = 0 := hpl
  refine pcalls_of_AWR (pa := [1000000, 1000001]) (fn := Tryz.f15) (rs := [.cell 8 54, .cell 9 56]) follows_mixed Tryz.func15 rfl rfl (by kernel_rfl) (by kernel_rfl) (by rw [Tryz.ntmps15]; simp) ?_
  simp only [go_sem, ↓reduceIte, encT, encPt, encW]
  refine callS_h (HCalls.fresh (c_pzero 0 0 (by omega) (by omega) _ _)) ?_
  rintro v h' n' hn' ⟨hnew, b1, b2, rfl, z1, z2, l1, l2, l3, l4, l5, hk⟩
  simp only [go_sem, ↓reduceIte] at hn' l1 l2 hk
  have k0 := hk 0 (by omega)
  have k1 := hk 1 (by omega)
  have k2 := hk 2 (by omega)
  have k3 := hk 3 (by omega)
  clear hk
  simp only [go_sem, ↓reduceIte] at k0 k1 k2 k3
  have z1' : h' b1 = some [] := z1
  have z2' : h' b2 = some [] := z2
  have z1' : h' b1 = some [] := z1
  have z2' : h' b2 = some [] := z2
  simp only [go_sem, ↓reduceIte, k0, k1, k2, k3, bne_int, List.length_map, dec_true e1', encW]
  refine callS_p hc ?_
  simp only [go_sem, ↓reduceIte, k0, k1, k2, k3, beq_int, e00, encW, upd1_nei (show 0 ≠ n' + 13 by omega), upd1_nei (show 1 ≠ n' + 13 by omega), upd1_nei (show 2 ≠ n' + 13 by omega), upd1_nei (show 5 ≠ n' + 13 by omega), rep_zero, show ((D.length : Nat) : Int) ≤ 1099511627776 by omega]
  obtain ⟨hwh, hmay, hob⟩ := right_parts hwr
  obtain ⟨_, _, hd1, hd6, hp0, hp6⟩ := whole_le ht hwh
  have hdim : t.dim = ((t.dim.toNat : Nat) : Int) := by omega
  have hpar : t.par = ((t.par.toNat : Nat) : Int) := by omega
  have hO := fun H e1 e2 e3 => oloc_pzero t.dim.toNat t.par.toNat (by omega) (by omega) H (n' + 32) (n' + 33) e1 e2 e3
  rw [← hdim, ← hpar] at hO
  have w32 := hnew (n' + 32) (by omega)
  have w33 := hnew (n' + 33) (by omega)
  refine callD_o (hO _ (by simp only [go_sem, ↓reduceIte, w32, upd1_nei (show n' + 32 ≠ 5 by omega)]) (by simp only [go_sem, ↓reduceIte, w33, upd1_nei (show n' + 33 ≠ 5 by omega)]) (by omega)) rfl ?_ ?_ ?_
  · simp only [go_sem, ↓reduceIte, show ¬ n' + 32 = 0 by omega, show ¬ n' + 33 = 0 by omega, show ¬ 0 = n' + 32 by omega, show ¬ 0 = n' + 33 by omega]
  · intro e he hn
    simp only [List.map_cons, List.map_nil, List.mem_cons, List.not_mem_nil, or_false] at he
    have hg : growP [1000000, 1000001] = 2 := rfl
    rcases he with rfl | rfl
    · refine ⟨by simp only [List.size_toArray, List.length_cons, List.length_nil]; omega, by rw [hg]; simp only [List.size_toArray, List.length_cons, List.length_nil]; omega, fun p hp => ?_⟩
      simp only [List.mem_cons, List.not_mem_nil, or_false] at hp
      rcases hp with rfl | rfl | rfl | rfl <;> simp
    · refine ⟨by simp only [List.size_toArray, List.length_cons, List.length_nil]; omega, by rw [hg]; simp only [List.size_toArray, List.length_cons, List.length_nil]; omega, fun p hp => ?_⟩
      simp only [List.mem_cons, List.not_mem_nil, or_false] at hp
      rcases hp with rfl | rfl | rfl | rfl <;> simp
  have hbwn : b1 < n' ∧ b2 < n' := ⟨l4, l5⟩
  have h7 : 7 ≤ n' := by omega
  have ho : ∀ o ∈ t.outs, 0 ≤ o ∧ o < t.code.length := fun o h => belowB_iff.1 (List.all_eq_true.1 hob o h)
  simp only [go_sem, ↓reduceIte, encW, k0, upd1_nei (show 0 ≠ n' + 13 by omega), upd1_nei (show 0 ≠ n' + 23 by omega), upd1_nei (show 0 ≠ n' + 32 by omega), upd1_nei (show 0 ≠ n' + 33 by omega), upd1_nei (show 0 ≠ n' + 30 by omega)]
  refine AW_while (fun m st => ∃ i, i + m = t.outs.length ∧ BackC st n' b1 b2 t D bits w ∧ st.τ 54 = .sl 1 (t.outs.map i64) ∧ st.τ 55 = .int .i64 t.outs.length ∧ st.τ 56 = .int .i64 (i : Nat) ∧
    ∃ S Z, BkH st.h (n' + 30) (n' + 23) (n' + 32) (n' + 33) t D S Z ∧ sendAll (t.outs.drop i) ((w.map rv).drop i) S.co = sendAll t.outs (w.map rv) (zeros t.code.length) ∧ S.co.length = t.code.length ∧ S.t = 0 ∧ S.y = zeros t.dim.toNat ∧ S.p = zeros t.par.toNat ∧ ∀ q ∈ S.co, qw q ≤ 1 + i * 11) t.outs.length ?_ ?_
  · refine ⟨0, by omega, ⟨by simp only [go_sem, ↓reduceIte], by simp only [go_sem, ↓reduceIte], by simp only [go_sem, ↓reduceIte], by simp only [go_sem, ↓reduceIte], by simp only [go_sem, ↓reduceIte], by simp only [go_sem, ↓reduceIte], by simp only [go_sem, ↓reduceIte], by simp only [go_sem, ↓reduceIte], ?_, ?_, ?_, ?_, ?_, by simp only [go_sem, ↓reduceIte] <;> omega⟩, by simp only [go_sem, ↓reduceIte], by simp only [go_sem, ↓reduceIte, List.length_map], by simp only [go_sem, ↓reduceIte] <;> rfl, ⟨zeros t.code.length, 0, zeros t.dim.toNat, zeros t.par.toNat⟩, List.replicate D.length (0, true), ⟨?_, ?_, ?_, ?_, by rw [rep_fst, hDl], okB_rep _, by omega, by omega, by omega, by omega, by omega, by omega⟩, rfl, by simp [zeros], rfl, rfl, rfl, ?_⟩
    · simp only [go_sem, ↓reduceIte, k2, upd1_nei (show 2 ≠ n' + 13 by omega), upd1_nei (show 2 ≠ n' + 23 by omega), upd1_nei (show 2 ≠ n' + 32 by omega), upd1_nei (show 2 ≠ n' + 33 by omega), upd1_nei (show 2 ≠ n' + 30 by omega)]
    · simp only [go_sem, ↓reduceIte, k3, upd1_nei (show 3 ≠ n' + 13 by omega), upd1_nei (show 3 ≠ n' + 23 by omega), upd1_nei (show 3 ≠ n' + 32 by omega), upd1_nei (show 3 ≠ n' + 33 by omega), upd1_nei (show 3 ≠ n' + 30 by omega)]
    · simp only [go_sem, ↓reduceIte, encW, upd1_nei (show 5 ≠ n' + 13 by omega), upd1_nei (show 5 ≠ n' + 23 by omega), upd1_nei (show 5 ≠ n' + 32 by omega), upd1_nei (show 5 ≠ n' + 33 by omega), upd1_nei (show 5 ≠ n' + 30 by omega)]
    · simp only [go_sem, ↓reduceIte, z1', upd1_nei (show b1 ≠ 5 by omega), upd1_nei (show b1 ≠ n' + 13 by omega), upd1_nei (show b1 ≠ n' + 23 by omega), upd1_nei (show b1 ≠ n' + 32 by omega), upd1_nei (show b1 ≠ n' + 33 by omega), upd1_nei (show b1 ≠ n' + 30 by omega)]
    · simp only [go_sem, ↓reduceIte, z2', upd1_nei (show b2 ≠ 5 by omega), upd1_nei (show b2 ≠ n' + 13 by omega), upd1_nei (show b2 ≠ n' + 23 by omega), upd1_nei (show b2 ≠ n' + 32 by omega), upd1_nei (show b2 ≠ n' + 33 by omega), upd1_nei (show b2 ≠ n' + 30 by omega)]
    · simp only [go_sem, ↓reduceIte, encW, List.length_replicate, zeros]
    · simp only [go_sem, ↓reduceIte]
    · simp only [go_sem, ↓reduceIte]
    · simp only [go_sem, ↓reduceIte]
    · intro q hq
      rw [List.eq_of_mem_replicate hq, qw_zero]; omega
  · rintro m st ⟨i, hi, hC, h54, h55, h56, S, Z, hB, hsend, hcol, hSt, hSy, hSp, hcs⟩ next
    obtain ⟨c2, c3, c4, c8, c9, c10, c11, c13, c2h, c3h, c5h, cb1, cb2, cn⟩ := id hC
    have hZl : Z.length = t.code.length := by rw [← hcol, ← hB.co, List.length_map]
    by_cases hlt : i < t.outs.length
    · have hlt' : ((i : Nat) : Int) < (t.outs.length : Nat) := by omega
      have hltw : ((i : Nat) : Int) < (w.length : Nat) := by omega
      have h0i : (0 : Int) ≤ (i : Nat) := by omega
      have hgo := getD_map_lt i64 t.outs i .undef hlt
      have hgw := getD_map_lt encR w i .undef (show i < w.length by omega)
      have hoo := ho t.outs[i] (List.getElem_mem hlt)
      rw [drop_cons hlt, drop_cons (show i < (w.map rv).length by simp; omega), sendAll, List.getElem_map] at hsend
      generalize hx : t.outs[i] = o at *
      obtain ⟨o1, o2⟩ := hoo
      have oz : o.toNat < Z.length := by omega
      have okw := hw _ (List.getElem_mem (show i < w.length by omega))
      generalize w[i]'(by omega) = f at *
      have zo : qw (Z.getD o.toNat (0, true)).1 ≤ 15000 := by
        have h1 : (Z.getD o.toNat (0, true)).1 = S.co.getD o.toNat 0 := by rw [← hB.co]; simp [oz]
        have h2 := hcs _ (show S.co.getD o.toNat 0 ∈ S.co by rw [show S.co.getD o.toNat 0 = S.co[o.toNat]'(by omega) by simp [show o.toNat < S.co.length by omega]]; exact List.getElem_mem _)
        rw [h1]
        have : i * 11 ≤ 15 * 11 := Nat.mul_le_mul_right _ (by omega)
        omega
      have hsd := fun H N e1 e2 e3 e4 => c_sb (n' + 30) (n' + 23) (n' + 32) (n' + 33) t D S Z o.toNat f H N e1 e2 e3 e4 (by omega) oz hB.ok zo (okw.mono (by omega))
      rw [show ((o.toNat : Nat) : Int) = o by omega] at hsd
      simp only [encR, encW] at hsd
      simp only [go_sem, ↓reduceIte, c2, c3, c4, c8, c9, c10, c11, c13, h54, h55, h56, hlt', hltw, h0i, hgo, hgw, i64, List.length_map, encR, encW]
      refine callS_h (hsd _ _ (by simp only [go_sem, ↓reduceIte, hB.hb, encW]) (by simp only [go_sem, ↓reduceIte, hB.hc]) (by simp only [go_sem, ↓reduceIte]; omega) (by simp only [go_sem, ↓reduceIte]; omega)) ?_
      rintro v h1 n1 hn1 ⟨rfl, hc1, hk1⟩
      simp only [go_sem, ↓reduceIte] at hn1 hk1
      simp only [go_sem, ↓reduceIte, h56]
      refine next (m - 1) _ (by omega) ⟨i + 1, by omega, hC.keep h7 l4 l5 (fun j hj => by
        simp only [List.mem_cons, List.not_mem_nil, or_false] at hj
        rcases hj with rfl | rfl | rfl | rfl | rfl | rfl | rfl | rfl <;> simp only [go_sem, ↓reduceIte]) (fun j hj => by simp only [go_sem, ↓reduceIte]; exact hk1 j (by omega) (by omega)) (by simp only [go_sem, ↓reduceIte]; omega), by simp only [go_sem, ↓reduceIte, h54], by simp only [go_sem, ↓reduceIte, h55], by simp only [go_sem, ↓reduceIte]; rw [wrap64_id (by omega) (by omega)]; rfl, S.send o.toNat (rv f), zsend Z o.toNat (rv f), hB.send' oz (by simp only [go_sem, ↓reduceIte]; exact hc1) (by simp only [go_sem, ↓reduceIte]; exact hk1 _ (by omega) (by omega)) (by simp only [go_sem, ↓reduceIte]; exact hk1 _ (by omega) (by omega)) (by simp only [go_sem, ↓reduceIte]; exact hk1 _ (by omega) (by omega)), hsend, by simp only [Bk.send, bump_len, hcol], hSt, hSy, hSp, fun q hq => ?_⟩
      have := bump_sz hcs (by omega) o.toNat (qw_rv okw (by omega)) q hq
      rw [Nat.add_mul]; omega
    · have hlt' := dec_false (show ¬ ((i : Nat) : Int) < (t.outs.length : Nat) by omega)
      rw [List.drop_eq_nil_of_le (by omega)] at hsend
      have hsend' : S.co = sendAll t.outs (w.map rv) (zeros t.code.length) := by rw [← hsend]; cases (w.map rv).drop i <;> rfl
      have hS : S = bk0 t (w.map rv) := by
        cases S; simp only at hsend' hSt hSy hSp; subst hsend'; subst hSt; subst hSy; subst hSp; rfl
      have hS0 : BkSz S 2000 := ⟨fun q hq => by have := hcs q hq; have : i * 11 ≤ 15 * 11 := Nat.mul_le_mul_right _ (by omega); omega, by rw [hSt, qw_zero]; omega, fun q hq => by rw [hSy] at hq; rw [List.eq_of_mem_replicate hq, qw_zero]; omega, fun q hq => by rw [hSp] at hq; rw [List.eq_of_mem_replicate hq, qw_zero]; omega⟩
      rw [← hS]
      simp only [go_sem, ↓reduceIte, c2, c3, c4, c8, c9, c10, c11, c13, h54, h55, h56, hlt']
      have hgn := fun H N => c_gnew bits H N
      refine callS_h (hgn _ _) ?_
      rintro v h1 n1 hn1 ⟨g, rfl, hg1, hg2, hg, hk1⟩
      simp only [go_sem, ↓reduceIte] at hn1 hg1 hk1
      have hB1 : BkH h1 (n' + 30) (n' + 23) (n' + 32) (n' + 33) t D S Z := hB.eq (hk1 _ (by omega)) (hk1 _ (by omega)) (hk1 _ (by omega)) (hk1 _ (by omega))
      have hC1 : BackC { st with h := h1, n := n1 } n' b1 b2 t D bits w := hC.keep h7 l4 l5 (fun j hj => rfl) (fun j hj => hk1 j (by omega)) (by simp only; omega)
      have hly : (S.y.length : Int) = t.dim := by rw [hSy]; simp only [zeros, List.length_replicate]; omega
      have hlp : (S.p.length : Int) = t.par := by rw [hSp]; simp only [zeros, List.length_replicate]; omega
      clear hk1 hB hC hcs hsend hsend' next
      obtain ⟨c2, c3, c4, c8, c9, c10, c11, c13, c2h, c3h, c5h, cb1, cb2, cn⟩ := id hC1
      simp only at c2 c3 c4 c8 c9 c10 c11 c13 cn
      simp only [go_sem, ↓reduceIte, c2, c3, c4, c8, c9, c10, c11, c13, List.length_map]
      refine AW_while (fun m st => ∃ i, i = m ∧ i ≤ t.code.length ∧ BackC st n' b1 b2 t D bits w ∧ st.τ 16 = .ptr g 0 ∧ st.τ 17 = .int .i64 ((i : Nat) - 1 : Int) ∧ Gau st.h g (clampB bits) ∧ n' + 38 ≤ g ∧ g < st.n ∧
        ∃ S1 Z1, BkH st.h (n' + 30) (n' + 23) (n' + 32) (n' + 33) t D S1 Z1 ∧ backN t.code D (clampB bits) i S1 = backN t.code D (clampB bits) t.code.length S ∧ Z1.length = t.code.length ∧ (S1.y.length : Int) = t.dim ∧ (S1.p.length : Int) = t.par ∧ BkSz S1 (2000 + (t.code.length - i) * 510)) t.code.length ?_ ?_
      · refine ⟨t.code.length, rfl, Nat.le_refl _, hC1.keep h7 l4 l5 (fun j hj => by
          simp only [List.mem_cons, List.not_mem_nil, or_false] at hj
          rcases hj with rfl | rfl | rfl | rfl | rfl | rfl | rfl | rfl <;> simp only [go_sem, ↓reduceIte]) (fun j hj => by simp only [go_sem, ↓reduceIte]) (by simp only [go_sem, ↓reduceIte]; omega), by simp only [go_sem, ↓reduceIte], by simp only [go_sem, ↓reduceIte]; rw [wrap64_id (by omega) (by omega), hDl], hg.eq' (by simp only [go_sem, ↓reduceIte]), by omega, by simp only [go_sem, ↓reduceIte]; omega, S, Z, hB1.eq (by simp only [go_sem, ↓reduceIte]) (by simp only [go_sem, ↓reduceIte]) (by simp only [go_sem, ↓reduceIte]) (by simp only [go_sem, ↓reduceIte]), rfl, hZl, hly, hlp, hS0.mono (by omega)⟩
      · rintro m st ⟨i, rfl, hi, hC, h16, h17, hg, hgN, hgn, S1, Z1, hB, hbk, hZ1, hy1, hp1, hz⟩ next
        obtain ⟨c2, c3, c4, c8, c9, c10, c11, c13, c2h, c3h, c5h, cb1, cb2, cn⟩ := id hC
        by_cases hi0 : i = 0
        case neg =>
          obtain ⟨j, rfl⟩ : ∃ j, i = j + 1 := ⟨i - 1, by omega⟩
          rw [show ((j + 1 : Nat) : Int) - 1 = (j : Nat) by omega] at h17
          have hjZ : j < Z1.length := by omega
          have gb := get_b hjZ
          have lz := len_b Z1
          have la : j * 3 ≤ Z1.length * 3 := by omega
          have hjz' : ((j : Nat) : Int) < (Z1.length : Nat) := by omega
          have h0j : (0 : Int) ≤ (j : Nat) := by omega
          have hco : S1.co.getD j 0 = (Z1.getD j (0, true)).1 := by rw [← hB.co]; simp [hjZ]
          have hq1 : qw (S1.co.getD j 0) ≤ 13000 := by
            have := getD_size hz.co (by omega) j
            have : (t.code.length - (j + 1)) * 510 ≤ 15 * 510 := Nat.mul_le_mul_right _ (by omega)
            omega
          have hnm := c_normB (getD_okB hB.ok hjZ) (by rw [← hco]; omega)
          rw [← hco] at hnm
          rw [backN] at hbk
          have ht := fun H N (h1 : Gau H g (clampB bits)) (h2 : g < N) => c_gtake g (cq (S1.co.getD j 0)) (okR_cq (k := 80000) (by omega)) H N (clampB bits) h1 h2
          have ef : decide ((fsz (cq (S1.co.getD j 0)) : Int) ≤ clampB bits) = fitQ (clampB bits) (S1.co.getD j 0) := rfl
          simp only [encR, encW, ef] at ht
          simp only [encQ, encR, encW] at hnm
          simp only [go_sem, ↓reduceIte, c13, h16, h17, h0j, hB.hb, hB.hc, gb, lz, la, hjz', frz2_encB, ids2_encB]
          refine callS_q (ids' := []) hnm (by simp only [List.map_cons, List.map_nil, frz2_encB]) (by simp only [List.flatMap_cons, List.flatMap_nil, ids2_encB, List.append_nil]) ?_
          simp only [go_sem, ↓reduceIte, c13, h16, h17, h0j, hB.hb, hB.hc, gb, lz, la, hjz']
          refine callS_h (ht _ _ (hg.eq' (by simp only [go_sem, ↓reduceIte])) (by simp only [go_sem, ↓reduceIte]; omega)) ?_
          clear ht
          rintro v h2 n2 hn2 ⟨rfl, hg2, hk2⟩
          simp only [go_sem, ↓reduceIte] at hn2 hk2
          have hB2 : BkH h2 (n' + 30) (n' + 23) (n' + 32) (n' + 33) t D S1 Z1 := hB.eq (hk2 _ (by omega) (by omega)) (hk2 _ (by omega) (by omega)) (hk2 _ (by omega) (by omega)) (hk2 _ (by omega) (by omega))
          have q2 := (hk2 2 (by omega) (by omega)).trans c2h
          have q3 := (hk2 3 (by omega) (by omega)).trans c3h
          have q5 := (hk2 5 (by omega) (by omega)).trans c5h
          have qb1 := (hk2 b1 (by omega) (by omega)).trans cb1
          have qb2 := (hk2 b2 (by omega) (by omega)).trans cb2
          cases hf : fitQ (clampB bits) (S1.co.getD j 0) with
          | false =>
            rw [hf, if_neg (by decide)] at hbk
            rw [← hbk]
            simp only [go_sem, ↓reduceIte, c8, c9, c10, h17, q2, q3, q5, encW]
            exact .mk (by simp only [go_sem, ↓reduceIte, resR, resAll, resA, vBack, encG, nilG, encF3, encW, c8, c9, qb1, qb2, upd1_nei (show b1 ≠ 2 by omega), upd1_nei (show b1 ≠ 3 by omega), upd1_nei (show b2 ≠ 2 by omega), upd1_nei (show b2 ≠ 3 by omega)] <;> rfl)
          | true =>
            rw [hf, if_pos rfl] at hbk
            have hjc : j < t.code.length := by omega
            have hcj : t.code.getD j ⟨0, 0, 0, ⟨false, [], []⟩⟩ = t.code[j] := by simp [hjc]
            have hT := fun H N (e : BkH H (n' + 30) (n' + 23) (n' + 32) (n' + 33) t D S1 Z1) (hN : n' + 38 ≤ N) => c_through (n' + 30) (n' + 23) (n' + 32) (n' + 33) t D S1 Z1 j H N ⟨e, by omega, by omega, by omega, by omega, hjc, by rw [hcj]; exact hmay j hjc, hDl, hZ1, hy1, hp1, hsz, fit_size50 hbits hf, fun q hq => by
                have h1 := hz.co q.1 (by rw [← hB.co]; exact List.mem_map.2 ⟨q, hq, rfl⟩)
                have : (t.code.length - (j + 1)) * 510 ≤ 15 * 510 := Nat.mul_le_mul_right _ (by omega)
                omega, by
                have := hz.t
                have : (t.code.length - (j + 1)) * 510 ≤ 15 * 510 := Nat.mul_le_mul_right _ (by omega)
                omega, fun q hq => by
                have := hz.y q hq
                have : (t.code.length - (j + 1)) * 510 ≤ 15 * 510 := Nat.mul_le_mul_right _ (by omega)
                omega, fun q hq => by
                have := hz.p q hq
                have : (t.code.length - (j + 1)) * 510 ≤ 15 * 510 := Nat.mul_le_mul_right _ (by omega)
                omega⟩
            simp only [go_sem, ↓reduceIte, c13, h17]
            refine callS_h (hT _ _ (hB2.eq (by simp only [go_sem, ↓reduceIte]) (by simp only [go_sem, ↓reduceIte]) (by simp only [go_sem, ↓reduceIte]) (by simp only [go_sem, ↓reduceIte])) (by simp only [go_sem, ↓reduceIte]; omega)) ?_
            clear hT
            rintro v h3 n3 hn3 ⟨rfl, ⟨Z2, hB3⟩, hk3⟩
            simp only [go_sem, ↓reduceIte] at hn3 hk3
            rw [thr0_eq] at hbk hB3
            have hz2 := thrQ_sz (i := t.code.getD j ⟨0, 0, 0, ⟨false, [], []⟩⟩) (k := j) (c := S1.co.getD j 0) hz (by omega) hsz (fit_size50 hbits hf) (fun e11 => by
              have hm := hmay j hjc
              rw [hcj] at e11 ⊢
              unfold mayB at hm
              rw [if_neg (by omega)] at hm
              simp only [Bool.and_eq_true] at hm
              have := hm.2.2
              rw [kindB, if_neg (by omega), if_neg (by omega), if_neg (by omega), if_neg (by omega), if_pos e11, Bool.and_eq_true] at this
              exact ⟨of_decide_eq_true this.1, of_decide_eq_true this.2⟩)
            obtain ⟨w1, w2, w3⟩ := thrQ_sizes D (t.code.getD j ⟨0, 0, 0, ⟨false, [], []⟩⟩) j (S1.co.getD j 0) S1
            generalize thrQ D (t.code.getD j ⟨0, 0, 0, ⟨false, [], []⟩⟩) j (S1.co.getD j 0) S1 = S2 at *
            have hZ2 : Z2.length = t.code.length := by
              have e1 := congrArg List.length hB3.co
              have e2 := congrArg List.length hB.co
              rw [List.length_map] at e1 e2
              omega
            simp only [go_sem, ↓reduceIte, h17]
            refine next j _ (by omega) ⟨j, rfl, by omega, hC.keep h7 l4 l5 (fun k hk => by
              simp only [List.mem_cons, List.not_mem_nil, or_false] at hk
              rcases hk with rfl | rfl | rfl | rfl | rfl | rfl | rfl | rfl <;> simp only [go_sem, ↓reduceIte]) (fun k hk => by simp only [go_sem, ↓reduceIte]; rw [hk3 k (by omega) (by omega) (by omega) (by omega) (by omega), hk2 k (by omega) (by omega)]) (by simp only [go_sem, ↓reduceIte]; omega), by simp only [go_sem, ↓reduceIte, h16], by simp only [go_sem, ↓reduceIte]; rw [wrap64_id (by omega) (by omega)], hg2.eq' (by simp only [go_sem, ↓reduceIte]; exact hk3 g (by omega) (by omega) (by omega) (by omega) (by omega)), hgN, by simp only [go_sem, ↓reduceIte]; omega, S2, Z2, hB3.eq (by simp only [go_sem, ↓reduceIte]) (by simp only [go_sem, ↓reduceIte]) (by simp only [go_sem, ↓reduceIte]) (by simp only [go_sem, ↓reduceIte]), hbk, hZ2, by omega, by omega, hz2.mono (by
                have : t.code.length - j = t.code.length - (j + 1) + 1 := by omega
                rw [this, Nat.add_mul]; omega)⟩
        subst hi0
        rw [show ((0 : Nat) : Int) - 1 = -1 from rfl] at h17
        rw [backN] at hbk
        rw [← hbk]
        have zb : (t.code.length - 0) * 510 ≤ 15 * 510 := Nat.mul_le_mul_right _ (by omega)
        have hall := fun H N e1 e2 e3 e4 => c_all S1.t S1.y S1.p (n' + 32) (n' + 33) H N e1 e2 e3 e4 (by omega) (by omega)
        have hsL : ∀ q ∈ S1.t :: (S1.y ++ S1.p), qw q ≤ 80000 := fun q hq => by
          rcases List.mem_cons.1 hq with rfl | hq
          · have := hz.t; omega
          · rcases List.mem_append.1 hq with hq | hq
            · have := hz.y q hq; omega
            · have := hz.p q hq; omega
        simp only [encW] at hall
        simp only [go_sem, ↓reduceIte, c13, h16, h17, hB.hb, encW]
        refine callS_h (hall _ _ (by simp only [go_sem, ↓reduceIte, hB.hy]) (by simp only [go_sem, ↓reduceIte, hB.hp]) (by simp only [go_sem, ↓reduceIte]; omega) (by simp only [go_sem, ↓reduceIte]; omega)) ?_
        rintro v h2 n2 hn2 ⟨⟨bl, rfl, el, ln, ln'⟩, hk2⟩
        simp only [go_sem, ↓reduceIte] at hn2 ln hk2
        have hrow := fun H N e1 e2 e3 e4 => c_growr g bl (S1.t :: (S1.y ++ S1.p)) (clampB bits) H N e1 e2 e3 e4 (by omega) (by simp only [List.length_cons, List.length_append]; omega) hsL
        simp only [go_sem, ↓reduceIte, c13, h16]
        refine callS_h (hrow _ _ (hg.eq' (by simp only [go_sem, ↓reduceIte]; exact hk2 g (by omega))) (by simp only [go_sem, ↓reduceIte]; exact el) (by simp only [go_sem, ↓reduceIte]; omega) (by simp only [go_sem, ↓reduceIte]; omega)) ?_
        rintro v h3 n3 hn3 ⟨rfl, hk3⟩
        simp only [go_sem, ↓reduceIte] at hn3 hk3
        have kk : ∀ k, k < st.n → k ≠ g → h3 k = st.h k := fun k hk hkg => by rw [hk3 k (by omega) hkg, hk2 k (by omega)]
        have q2 := (kk 2 (by omega) (by omega)).trans c2h
        have q3 := (kk 3 (by omega) (by omega)).trans c3h
        have q5 := (kk 5 (by omega) (by omega)).trans c5h
        have qb1 := (kk b1 (by omega) (by omega)).trans cb1
        have qb2 := (kk b2 (by omega) (by omega)).trans cb2
        have qB : BkH h3 (n' + 30) (n' + 23) (n' + 32) (n' + 33) t D S1 Z1 := hB.eq (kk _ (by omega) (by omega)) (kk _ (by omega) (by omega)) (kk _ (by omega) (by omega)) (kk _ (by omega) (by omega))
        unfold vLong
        cases hfl : firstLong (clampB bits) (S1.t :: (S1.y ++ S1.p)) 0 with
        | some i =>
          simp only [go_sem, ↓reduceIte, c8, c9, c10, q2, q3, q5, encW]
          exact .mk (by simp only [go_sem, ↓reduceIte, resR, resAll, resA, vBack, encG, nilG, encF3, encW, c8, c9, qb1, qb2, upd1_nei (show b1 ≠ 2 by omega), upd1_nei (show b1 ≠ 3 by omega), upd1_nei (show b2 ≠ 2 by omega), upd1_nei (show b2 ≠ 3 by omega)] <;> rfl)
        | none =>
          simp only [go_sem, ↓reduceIte, c8, c9, c10, c13, q2, q3, q5, qB.hb, encW]
          have fy : frz1 (upd1 (upd1 h3 2 (some [.bool (cq S1.t).neg, encW (cq S1.t).n, encW (cq S1.t).d, .own (n' + 32) 0 S1.y.length 3, .own (n' + 33) 0 S1.p.length 3])) 3 (some [.int .i64 0, .int .i64 0, .int .i64 0, .int .i64 0])) (.own (n' + 32) 0 S1.y.length 3) = .sl 3 (S1.y.map encQ) := frz1_flatC elt_q (by rw [upd1_nei (by omega), upd1_nei (by omega), qB.hy])
          have fp : frz1 (upd1 (upd1 h3 2 (some [.bool (cq S1.t).neg, encW (cq S1.t).n, encW (cq S1.t).d, .own (n' + 32) 0 S1.y.length 3, .own (n' + 33) 0 S1.p.length 3])) 3 (some [.int .i64 0, .int .i64 0, .int .i64 0, .int .i64 0])) (.own (n' + 33) 0 S1.p.length 3) = .sl 3 (S1.p.map encQ) := frz1_flatC elt_q (by rw [upd1_nei (by omega), upd1_nei (by omega), qB.hp])
          refine .mk_le (u := .tup [.agg [.bool (cq S1.t).neg, encW (cq S1.t).n, encW (cq S1.t).d, frz1 (upd1 (upd1 h3 2 (some [.bool (cq S1.t).neg, encW (cq S1.t).n, encW (cq S1.t).d, .own (n' + 32) 0 S1.y.length 3, .own (n' + 33) 0 S1.p.length 3])) 3 (some [.int .i64 0, .int .i64 0, .int .i64 0, .int .i64 0])) (.own (n' + 32) 0 S1.y.length 3), frz1 (upd1 (upd1 h3 2 (some [.bool (cq S1.t).neg, encW (cq S1.t).n, encW (cq S1.t).d, .own (n' + 32) 0 S1.y.length 3, .own (n' + 33) 0 S1.p.length 3])) 3 (some [.int .i64 0, .int .i64 0, .int .i64 0, .int .i64 0])) (.own (n' + 33) 0 S1.p.length 3)], encF3 0 0 0]) (by simp only [go_sem, ↓reduceIte, resR, resAll, resA, encF3, encW, c8, c9] <;> rfl) (by rw [fy, fp]; exact AV.le_refl _)
end Go.Proofs.YtopmghclhgihfaaGreatDoor

set_option linter.unusedVariables false
set_option linter.unusedSimpArgs false
set_option maxRecDepth 10000
namespace Go.Proofs.YtopmghclhgihfaaGreatDoor
open Go Go.Ab Go.Num

/-- Instructions and points, as they are built. -/
def bI (op a b : Int) : AV := .agg [.int .i64 op, .int .i64 a, .int .i64 b, .bool false, .nilsl, .nilsl]
theorem bI_le (op a b : Int) : LeL [.int .i64 op, .int .i64 a, .int .i64 b, .bool false, .nilsl, .nilsl] [.int .i64 op, .int .i64 a, .int .i64 b, .bool false, encW [], encW []] :=
  .cons (AV.le_refl _) (.cons (AV.le_refl _) (.cons (AV.le_refl _) (.cons (AV.le_refl _) (.cons (AV.le_nil 1) (.cons (AV.le_nil 1) .nil)))))
theorem exP_le : (AV.agg [.sl 6 [bI 3 0 0, bI 11 0 2], .sl 1 [.int .i64 1], .int .i64 1, .int .i64 0]).le (encT exP) := by
  refine AV.le_agg' (.cons (AV.le_sl rfl fun i x y hx hy => ?_) (.cons (AV.le_refl _) (.cons (AV.le_refl _) (.cons (AV.le_refl _) .nil))))
  match i with
  | 0 => cases hx; cases hy; exact ⟨_, _, rfl, rfl, bI_le 3 0 0, rfl⟩
  | 1 => cases hx; cases hy; exact ⟨_, _, rfl, rfl, bI_le 11 0 2, rfl⟩
  | i + 2 => simp at hx
theorem okR_z0 (k : Nat) : okR k z0 := ⟨.nil, .nil, Nat.zero_le _, Nat.zero_le _⟩
theorem rv_z0 : rv z0 = 0 := by simp [rv, z0, val]
theorem exP_ok : okT exP := ⟨fun i hi => by
  have : i.n = z0 := by
    simp only [exP, List.mem_cons, List.not_mem_nil, or_false] at hi
    rcases hi with rfl | rfl <;> rfl
  rw [this]
  exact okR_z0 _, by decide, by decide⟩
theorem qw_nat {n : Nat} (h : n < 4294967296) : qw ((n : Int) : Rat) ≤ 1 := by
  unfold qw
  rw [Rat.num_intCast, Rat.den_intCast, Int.natAbs_natCast]
  have h1 : (dig n).length ≤ 1 := dig_len_le.2 (by rw [Nat.pow_one, B_eq]; exact h)
  have h2 : (dig 1).length ≤ 1 := dig_len_le.2 (by decide)
  omega
/-- A point without a moment and parameters. -/
def bP (q : Rat) : AV := .agg [.bool false, .nilsl, .nilsl, .sl 3 [encQ q], .nilsl]
theorem bP_le (q : Rat) : (bP q).le (encPt ⟨z0, [cq q], []⟩) := AV.le_agg' (.cons (AV.le_refl _) (.cons (AV.le_nil 1) (.cons (AV.le_nil 1) (.cons (AV.le_refl _) (.cons (AV.le_nil 3) .nil)))))
theorem bP_ok {q : Rat} (h : qw q ≤ 9000) : okP 9000 ⟨z0, [cq q], []⟩ := ⟨okR_z0 _, fun f hf => by
    simp only [List.mem_singleton] at hf; subst hf; exact okR_cq h, fun f hf => by simp at hf, by simp, by simp⟩
theorem exP_field : PCalls Tryz.prog 19 [.agg [.sl 6 [bI 3 0 0, bI 11 0 2], .sl 1 [.int .i64 1], .int .i64 1, .int .i64 0], bP 3, bP 1, .int .i64 100] (.tup [.sl 3 [encQ 9], .sl 3 [encQ 6], encF3 0 0 0]) := by
  have h3 : qw (3 : Rat) ≤ 1 := qw_nat (n := 3) (by omega)
  have h1 : qw (1 : Rat) ≤ 1 := qw_nat (n := 1) (by omega)
  have hc := c_pfield exP ⟨z0, [cq 3], []⟩ ⟨z0, [cq 1], []⟩ 100 exP_ok (by decide) (bP_ok (by omega)) (bP_ok (by omega))
  simp only [rv_z0, rv_cq, List.map_cons, List.map_nil] at hc
  rw [exP_run] at hc
  refine hc.args_le (.cons exP_le (.cons (bP_le 3) (.cons (bP_le 1) (LeL.refl _))))
theorem txt1 {n : Nat} (h : n < 10) : textOf (rowT [((n : Int) : Rat)]) = textOf [dig8 n] := by
  have d : decS n = [dig8 n] := by rw [decS, dif_pos h]
  have e : txtQ ((n : Int) : Rat) = [dig8 n] := by
    rw [txtQ, if_pos (Rat.den_intCast _), txtZ, Rat.num_intCast, if_neg (by omega), Int.natAbs_natCast, d]
  simp only [rowT, List.map_cons, List.map_nil, e, joinL, List.flatMap_nil, List.append_nil]
theorem rtext1 {n : Nat} (h : n < 10) : PCalls Tryz.prog 36 [.sl 3 [encQ ((n : Int) : Rat)]] (.str (textOf [dig8 n])) := by
  have hq := qw_nat (n := n) (by omega)
  have hc := c_rtext [((n : Int) : Rat)] (by simp) (fun q hq' => by
    simp only [List.mem_singleton] at hq'; subst hq'; omega)
  rw [txt1 h] at hc
  exact hc
theorem t9 : PCalls Tryz.prog 36 [.sl 3 [encQ 9]] (.str ⟨#[57]⟩) := rtext1 (n := 9) (by omega)
theorem t6 : PCalls Tryz.prog 36 [.sl 3 [encQ 6]] (.str ⟨#[54]⟩) := rtext1 (n := 6) (by omega)
theorem fof3 : PCalls Tryz.prog 34 [.int .i64 3] (encQ 3) := c_fof 3 (by omega) (by omega)
theorem fof1 : PCalls Tryz.prog 34 [.int .i64 1] (encQ 1) := c_fof 1 (by omega) (by omega)
set_option maxHeartbeats 1000000 in
theorem c_works27 : PCalls Tryz.prog 24 [] (.bool true) := by
  have h1 := exP_field
  have h9 := t9
  have h6 := t6
  simp only [encF3, bP, encQ, encR, encW, bI] at h1 h9 h6
  have s9 : ((⟨#[57]⟩ : ByteArray).toList == (⟨#[57]⟩ : ByteArray).toList) = true := beq_self_eq_true _
  have s6 : ((⟨#[54]⟩ : ByteArray).toList == (⟨#[54]⟩ : ByteArray).toList) = true := beq_self_eq_true _
  refine pcalls_of_AW (pa := [9, 10, 13, 16]) (fn := Tryz.f24) (ts := [0]) follows_mixed Tryz.func24 rfl rfl (by kernel_rfl) (by kernel_rfl) (by rw [Tryz.ntmps24]; simp) ?_
  simp only [go_sem, ↓reduceIte]
  refine callS_p fof3 ?_
  simp only [go_sem, ↓reduceIte, encQ, encR, encW]
  refine callS_p fof1 ?_
  simp only [go_sem, ↓reduceIte, encQ, encR, encW]
  refine callS_p h1 ?_
  simp only [go_sem, ↓reduceIte, encQ, encR, encW]
  refine callS_p h9 ?_
  simp only [go_sem, ↓reduceIte, astrop, s9]
  refine callS_p h6 ?_
  simp only [go_sem, ↓reduceIte, astrop, s6]
  exact .mk (by simp only [go_sem, ↓reduceIte])

theorem runD_sz (T : Rat × Rat) (Y P : List (Rat × Rat)) (l : Int) (hl : l ≤ 4096) : ∀ (c : List Ins) (D : List (Rat × Rat)), (∀ q ∈ D, small 200 q) → ∀ q ∈ (runD T Y P l c D).1, small 200 q
  | [], D, h => h
  | i :: r, D, h => by
    rw [runD]
    cases e : stepD T Y P i D with
    | none => intro q hq; simp at hq
    | some q =>
      by_cases hf : fitQ l q.1 = true
      · by_cases hf2 : fitQ l q.2 = true
        · simp only [if_pos hf, if_pos hf2]
          refine runD_sz T Y P l hl r _ fun x hx => ?_
          rcases List.mem_append.1 hx with hx | hx
          · exact h x hx
          · rw [List.mem_singleton] at hx; subst hx; exact fitsD_small hl hf hf2
        · simp only [if_pos hf, if_neg hf2]; intro q hq; simp at hq
      · simp only [if_neg hf]; intro q hq; simp at hq
theorem pushT_sz (t : Tp) (T dT : Rat) (Y P dY dP : List Rat) {l : Int} (hl : l ≤ 4096) : ∀ q ∈ (pushT t T dT Y P dY dP l).1, small 200 q := by
  unfold pushT
  split
  · split
    · exact runD_sz _ _ _ _ hl _ _ (fun q hq => by simp at hq)
    · intro q hq; simp at hq
  · intro q hq; simp at hq
theorem outs_sz {t : Tp} {L : List Rat} {k : Nat} (h : ∀ q ∈ L, qw q ≤ k) (hk : 1 ≤ k) : ∀ q ∈ outsL t L, qw q ≤ k := fun q hq => by
  obtain ⟨o, _, rfl⟩ := List.mem_map.1 hq
  exact getD_size h hk _
/-- Values and slopes that are told, of right size. -/
theorem fieldT_sz {t : Tp} {r : List (Rat × Rat) × Int × Int × Int} (h : ∀ q ∈ r.1, small 200 q) : (∀ q ∈ (fieldT t r).1.1, qw q ≤ 200) ∧ ∀ q ∈ (fieldT t r).1.2, qw q ≤ 200 := by
  unfold fieldT
  split
  · exact ⟨outs_sz (fun q hq => by obtain ⟨x, hx, rfl⟩ := List.mem_map.1 hq; exact (h x hx).1) (by omega), outs_sz (fun q hq => by obtain ⟨x, hx, rfl⟩ := List.mem_map.1 hq; exact (h x hx).2) (by omega)⟩
  · exact ⟨fun q hq => by simp at hq, fun q hq => by simp at hq⟩
theorem fieldT_k {t : Tp} {r : List (Rat × Rat) × Int × Int × Int} : (fieldT t r).2.1 = 0 → r.2.1 = 0 ∧ (fieldT t r).2.2 = (0, 0) ∧ (fieldT t r).1 = (outsL t (r.1.map (·.1)), outsL t (r.1.map (·.2))) := fun h => by
  unfold fieldT at h ⊢
  by_cases hk : r.2.1 = 0
  · rw [if_pos hk]; exact ⟨hk, rfl, rfl⟩
  · rw [if_neg hk] at h; exact absurd h hk
theorem outs_lin (t : Tp) (k : Rat) {a b : List Rat} (h : a.length = b.length) : outsL t (linL k a b) = linL k (outsL t a) (outsL t b) := by
  unfold outsL
  have : ∀ l : List Int, (l.map fun o => (linL k a b).getD o.toNat 0) = linL k (l.map fun o => a.getD o.toNat 0) (l.map fun o => b.getD o.toNat 0) := fun l => by
    induction l with
    | nil => rfl
    | cons o l ih => rw [List.map_cons, ih, linL_get h]; rfl
  exact this _
/-- What the law asks. -/
theorem push_shared {t : Tp} {T k dT dT' : Rat} {Y P dY dY' dP dP' : List Rat} {l : Int} (hy : dY.length = dY'.length) (hp : dP.length = dP'.length) (h1 : (fieldT t (pushT t T dT Y P dY dP l)).2.1 = 0) (h2 : (fieldT t (pushT t T dT' Y P dY' dP' l)).2.1 = 0)
    (h3 : (fieldT t (pushT t T (k * dT + dT') Y P (linL k dY dY') (linL k dP dP') l)).2.1 = 0) :
    (fieldT t (pushT t T (k * dT + dT') Y P (linL k dY dY') (linL k dP dP') l)).1.2 = linL k (fieldT t (pushT t T dT Y P dY dP l)).1.2 (fieldT t (pushT t T dT' Y P dY' dP' l)).1.2 ∧
    (fieldT t (pushT t T (k * dT + dT') Y P (linL k dY dY') (linL k dP dP') l)).1.1 = (fieldT t (pushT t T dT Y P dY dP l)).1.1 ∧ fieldR t (runT t T Y P l) = ((fieldT t (pushT t T dT Y P dY dP l)).1.1, 0, 0) ∧ (fieldT t (pushT t T dT Y P dY dP l)).1.2.length = (fieldT t (pushT t T dT' Y P dY' dP' l)).1.2.length := by
  obtain ⟨a1, _, b1⟩ := fieldT_k h1
  obtain ⟨a2, _, b2⟩ := fieldT_k h2
  obtain ⟨a3, _, b3⟩ := fieldT_k h3
  obtain ⟨e1, e2, e3, e4⟩ := pushT_lin a1 a2 a3
  have hl : ((pushT t T dT Y P dY dP l).1.map (·.2)).length = ((pushT t T dT' Y P dY' dP' l).1.map (·.2)).length := by
    have := congrArg List.length e2
    simp only [List.length_map] at this ⊢
    omega
  rw [b1, b2, b3]
  refine ⟨by simp only; rw [e3, outs_lin t k hl], by simp only; rw [e1], ?_, by simp [outsL]⟩
  unfold fieldR
  rw [e4, if_pos rfl]
end Go.Proofs.YtopmghclhgihfaaGreatDoor

set_option linter.unusedVariables false
set_option linter.unusedSimpArgs false
set_option maxRecDepth 10000
namespace Go.Proofs.YtopmghclhgihfaaGreatDoor
open Go Go.Ab Go.Num

def addG (g1 g2 : Rat × List Rat × List Rat) : Rat × List Rat × List Rat := (g1.1 + g2.1, addL g1.2.1 g2.2.1, addL g1.2.2 g2.2.2)
structure GSz (g : Rat × List Rat × List Rat) (k : Nat) : Prop where
  t : qw g.1 ≤ k
  y : ∀ q ∈ g.2.1, qw q ≤ k
  p : ∀ q ∈ g.2.2, qw q ≤ k
  ly : g.2.1.length ≤ 1000
  lp : g.2.2.length ≤ 1000
theorem c_padd (g1 g2 : Rat × List Rat × List Rat) (h1 : GSz g1 10000) (h2 : GSz g2 10000) (hy : g1.2.1.length = g2.2.1.length) (hp : g1.2.2.length = g2.2.2.length) : PCalls Tryz.prog 16 [encG g1, encG g2] (.tup [encG (addG g1 g2), .bool true]) := by
  have ry := c_raddQQ g1.2.1 g2.2.1 (by have := h1.ly; omega) (fun q hq => Nat.le_trans (h1.y q hq) (by omega)) (fun q hq => Nat.le_trans (h2.y q hq) (by omega))
  have rp := c_raddQQ g1.2.2 g2.2.2 (by have := h1.lp; omega) (fun q hq => Nat.le_trans (h1.p q hq) (by omega)) (fun q hq => Nat.le_trans (h2.p q hq) (by omega))
  have rt := c_qadd (a := g1.1) (b := g2.1) (by have := h1.t; omega) (by have := h2.t; omega)
  unfold vAddQ at ry rp
  rw [if_pos hy] at ry
  rw [if_pos hp] at rp
  simp only [encQ, encR, encW] at rt
  refine pcalls_of_AWR (pa := [15, 24]) (fn := Tryz.f16) (rs := [.cell 4 54, .tmp 5]) follows_mixed Tryz.func16 rfl rfl (by kernel_rfl) (by kernel_rfl) (by rw [Tryz.ntmps16]; simp) ?_
  simp only [go_sem, ↓reduceIte, encG, encW]
  refine callS_p ry ?_
  simp only [go_sem, ↓reduceIte]
  refine callS_p rp ?_
  simp only [go_sem, ↓reduceIte]
  refine callS_p rt ?_
  simp only [go_sem, ↓reduceIte]
  exact .mk (by simp only [go_sem, ↓reduceIte, resR, resAll, resA, encG, addG, encW] <;> rfl)

theorem firstLong_none {l : Int} : ∀ {L : List Rat} {k : Nat}, firstLong l L k = none → ∀ q ∈ L, fitQ l q = true
  | [], k, _, q, hq => by simp at hq
  | x :: L, k, h, q, hq => by
    rw [firstLong] at h
    split at h
    · rename_i hx
      rcases List.mem_cons.1 hq with rfl | hq
      · exact hx
      · exact firstLong_none h q hq
    · cases h
theorem backF_sizes (code : List Ins) (D : List Rat) : ∀ (n : Nat) (S : Bk), (backF code D n S).y.length = S.y.length ∧ (backF code D n S).p.length = S.p.length
  | 0, S => ⟨rfl, rfl⟩
  | n + 1, S => by
    rw [backF]
    obtain ⟨h1, h2⟩ := backF_sizes code D n (thrQ D (code.getD n ⟨0, 0, 0, ⟨false, [], []⟩⟩) n (S.co.getD n 0) S)
    obtain ⟨_, h3, h4⟩ := thrQ_sizes D (code.getD n ⟨0, 0, 0, ⟨false, [], []⟩⟩) n (S.co.getD n 0) S
    exact ⟨h1.trans h3, h2.trans h4⟩
theorem backT_gsz {t : Tp} {T : Rat} {Y P w : List Rat} {l : Int} (ht : okT t) (hl : l ≤ 1500) : GSz (backT t T Y P w l).1 50 := by
  have hn : GSz nilG 50 := ⟨by show qw 0 ≤ 50; rw [qw_zero]; omega, fun q hq => by simp [nilG] at hq, fun q hq => by simp [nilG] at hq, by simp [nilG], by simp [nilG]⟩
  unfold backT
  split
  · exact hn
  split
  · rename_i hr
    have hw := (runT_ok hr).1
    cases e : backN t.code (runT t T Y P l).1 l t.code.length (bk0 t w) with
    | inr i => exact hn
    | inl S =>
      simp only
      cases e2 : firstLong l (S.t :: (S.y ++ S.p)) 0 with
      | some i => exact hn
      | none =>
        have hf := firstLong_none e2
        have hS := backN_F e
        obtain ⟨_, _, hd1, hd6, hp0, hp6⟩ := whole_le ht (right_parts hw).1
        obtain ⟨s1, s2⟩ := backF_sizes t.code (runT t T Y P l).1 t.code.length (bk0 t w)
        rw [← hS] at s1 s2
        simp only [bk0, zeros, List.length_replicate] at s1 s2
        exact ⟨fit_size50 hl (hf _ (by simp)), fun q hq => fit_size50 hl (hf _ (by simp [hq])), fun q hq => fit_size50 hl (hf _ (by simp [hq])), by simp only; omega, by simp only; omega⟩
  · exact hn
theorem backT_k {t : Tp} {T : Rat} {Y P w : List Rat} {l : Int} (h : (backT t T Y P w l).2.1 = 0) : (backT t T Y P w l).2.2 = (0, 0) := by
  unfold backT at h ⊢
  split at h
  · simp at h
  rename_i hw
  rw [if_neg hw]
  split at h
  · rename_i hr
    rw [if_pos hr]
    cases e : backN t.code (runT t T Y P l).1 l t.code.length (bk0 t w) with
    | inr i => rw [e] at h; simp at h
    | inl S =>
      rw [e] at h
      simp only at h ⊢
      cases e2 : firstLong l (S.t :: (S.y ++ S.p)) 0 with
      | some i => rw [e2] at h; simp at h
      | none => rfl
  · rename_i hr
    exact absurd h hr

/-! ### The example -/
def exB : Tp := ⟨[⟨3, 0, 0, z0⟩, ⟨4, 0, 0, z0⟩, ⟨9, 0, 1, z0⟩], [2], 1, 1⟩
theorem exB_wrong : wrongI exB = -1 := by decide
theorem exB_run : runT exB 0 [3] [5] (clampB 100) = ([3, 5, 15], 0, 0) := by
  have f3 : fitQ 100 3 = true := fit100 (n := 3) (by omega)
  have f5 : fitQ 100 5 = true := fit100 (n := 5) (by omega)
  have f15 : fitQ 100 15 = true := fit100 (n := 15) (by omega)
  have s1 : stepQ 0 [3] [5] ⟨3, 0, 0, z0⟩ [] = some 3 := rfl
  have s2 : stepQ 0 [3] [5] ⟨4, 0, 0, z0⟩ [3] = some 5 := rfl
  have s3 : stepQ 0 [3] [5] ⟨9, 0, 1, z0⟩ [3, 5] = some 15 := by
    show some ((3 : Rat) * 5) = some 15
    rw [show (3 : Rat) * 5 = 15 by decide +kernel]
  rw [runT, if_pos ⟨exB_wrong, rfl, rfl⟩, show clampB 100 = 100 from rfl]
  simp only [exB, runL, s1, f3, if_true, List.nil_append, s2, f5, List.cons_append, s3, f15]
theorem exB_back : backT exB 0 [3] [5] [2] (clampB 100) = ((0, [10], [6]), 0, 0, 0) := by
  have f0 : fitQ 100 0 = true := fit100 (n := 0) (by omega)
  have f2 : fitQ 100 2 = true := fit100 (n := 2) (by omega)
  have f6 : fitQ 100 6 = true := fit100 (n := 6) (by omega)
  have f10 : fitQ 100 10 = true := fit100 (n := 10) (by omega)
  have e : backN exB.code [3, 5, 15] 100 3 (bk0 exB [2]) = .inl ⟨[10, 6, 2], 0, [10], [6]⟩ := by
    have b0 : bk0 exB [2] = ⟨[0, 0, 2], 0, [0], [0]⟩ := by
      show (⟨[0, 0, 0 + 2], 0, [0], [0]⟩ : Bk) = _
      rw [Rat.zero_add]
    have t1 : thr0 [3, 5, 15] ⟨9, 0, 1, z0⟩ 2 ⟨[0, 0, 2], 0, [0], [0]⟩ = ⟨[10, 6, 2], 0, [0], [0]⟩ := by
      rw [thr0_eq]
      show (⟨[0 + 2 * 5, 0 + 2 * 3, 2], 0, [0], [0]⟩ : Bk) = _
      rw [show (0 : Rat) + 2 * 5 = 10 by decide +kernel, show (0 : Rat) + 2 * 3 = 6 by decide +kernel]
    have t2 : thr0 [3, 5, 15] ⟨4, 0, 0, z0⟩ 1 ⟨[10, 6, 2], 0, [0], [0]⟩ = ⟨[10, 6, 2], 0, [0], [6]⟩ := by
      rw [thr0_eq]
      show (⟨[10, 6, 2], 0, [0], [0 + 6]⟩ : Bk) = _
      rw [Rat.zero_add]
    have t3 : thr0 [3, 5, 15] ⟨3, 0, 0, z0⟩ 0 ⟨[10, 6, 2], 0, [0], [6]⟩ = ⟨[10, 6, 2], 0, [10], [6]⟩ := by
      rw [thr0_eq]
      show (⟨[10, 6, 2], 0, [0 + 10], [6]⟩ : Bk) = _
      rw [Rat.zero_add]
    rw [b0]
    show (if fitQ 100 2 then backN exB.code [3, 5, 15] 100 2 (thr0 [3, 5, 15] ⟨9, 0, 1, z0⟩ 2 ⟨[0, 0, 2], 0, [0], [0]⟩) else .inr 2) = _
    rw [if_pos f2, t1]
    show (if fitQ 100 6 then backN exB.code [3, 5, 15] 100 1 (thr0 [3, 5, 15] ⟨4, 0, 0, z0⟩ 1 ⟨[10, 6, 2], 0, [0], [0]⟩) else .inr 1) = _
    rw [if_pos f6, t2]
    show (if fitQ 100 10 then backN exB.code [3, 5, 15] 100 0 (thr0 [3, 5, 15] ⟨3, 0, 0, z0⟩ 0 ⟨[10, 6, 2], 0, [0], [6]⟩) else .inr 0) = _
    rw [if_pos f10, t3]
    rfl
  have e2 : firstLong 100 (0 :: ([10] ++ [6])) 0 = none := by
    simp only [List.cons_append, List.nil_append, firstLong, f0, f10, f6, if_true]
  unfold backT
  rw [if_neg (show ¬ [(2 : Rat)].length ≠ exB.outs.length from fun h => h rfl), exB_run, if_pos rfl, show clampB 100 = 100 from rfl]
  simp only [show exB.code.length = 3 from rfl, e, e2]
theorem exB_le : (AV.agg [.sl 6 [bI 3 0 0, bI 4 0 0, bI 9 0 1], .sl 1 [.int .i64 2], .int .i64 1, .int .i64 1]).le (encT exB) := by
  refine AV.le_agg' (.cons (AV.le_sl rfl fun i x y hx hy => ?_) (.cons (AV.le_refl _) (.cons (AV.le_refl _) (.cons (AV.le_refl _) .nil))))
  match i with
  | 0 => cases hx; cases hy; exact ⟨_, _, rfl, rfl, bI_le 3 0 0, rfl⟩
  | 1 => cases hx; cases hy; exact ⟨_, _, rfl, rfl, bI_le 4 0 0, rfl⟩
  | 2 => cases hx; cases hy; exact ⟨_, _, rfl, rfl, bI_le 9 0 1, rfl⟩
  | i + 3 => simp at hx
theorem exB_ok : okT exB := ⟨fun i hi => by
  have : i.n = z0 := by
    simp only [exB, List.mem_cons, List.not_mem_nil, or_false] at hi
    rcases hi with rfl | rfl | rfl <;> rfl
  rw [this]
  exact okR_z0 _, by decide, by decide⟩
/-- The example's point. -/
def bP2 : AV := .agg [.bool false, .nilsl, .nilsl, .sl 3 [encQ 3], .sl 3 [encQ 5]]
theorem exB_call : PCalls Tryz.prog 15 [.agg [.sl 6 [bI 3 0 0, bI 4 0 0, bI 9 0 1], .sl 1 [.int .i64 2], .int .i64 1, .int .i64 1], bP2, .sl 3 [encQ 2], .int .i64 100] (vBack ((0, [10], [6]), 0, 0, 0)) := by
  have h3 : qw (3 : Rat) ≤ 1 := qw_nat (n := 3) (by omega)
  have h5 : qw (5 : Rat) ≤ 1 := qw_nat (n := 5) (by omega)
  have h2 : qw (2 : Rat) ≤ 1 := qw_nat (n := 2) (by omega)
  have hc := c_back exB ⟨z0, [cq 3], [cq 5]⟩ [cq 2] 100 exB_ok ⟨okR_z0 _, fun f hf => by
    simp only [List.mem_singleton] at hf; subst hf; exact okR_cq (by omega), fun f hf => by
    simp only [List.mem_singleton] at hf; subst hf; exact okR_cq (by omega), by simp, by simp⟩ (fun f hf => by
    simp only [List.mem_singleton] at hf; subst hf; exact okR_cq (by omega)) (by decide) (by decide) (by decide)
  simp only [rv_z0, rv_cq, List.map_cons, List.map_nil] at hc
  rw [exB_back] at hc
  exact hc.args_le (.cons exB_le (.cons (AV.le_agg' (.cons (AV.le_refl _) (.cons (AV.le_nil 1) (.cons (AV.le_nil 1) (.cons (AV.le_refl _) (.cons (AV.le_refl _) .nil)))))) (LeL.refl _)))
theorem t10 : PCalls Tryz.prog 36 [.sl 3 [encQ 10]] (.str ⟨#[49, 48]⟩) := by
  have hq := qw_nat (n := 10) (by omega)
  have hc := c_rtext [((10 : Int) : Rat)] (by simp) (fun q hq' => by
    simp only [List.mem_singleton] at hq'; subst hq'; have : qw ((10 : Int) : Rat) ≤ 1 := hq; omega)
  have d : decS 10 = [dig8 1, dig8 0] := by
    rw [decS, dif_neg (by omega), decS, dif_pos (by omega)]; rfl
  have e : txtQ ((10 : Int) : Rat) = [dig8 1, dig8 0] := by
    rw [txtQ, if_pos (Rat.den_intCast _), txtZ, Rat.num_intCast, if_neg (by omega), show (10 : Int).natAbs = 10 from rfl, d]
  have e2 : textOf (rowT [((10 : Int) : Rat)]) = ⟨#[49, 48]⟩ := by
    simp only [rowT, List.map_cons, List.map_nil, e, joinL, List.flatMap_nil, List.append_nil]; rfl
  rw [e2] at hc
  exact hc
theorem fof5 : PCalls Tryz.prog 34 [.int .i64 5] (encQ 5) := c_fof 5 (by omega) (by omega)
theorem fof2' : PCalls Tryz.prog 34 [.int .i64 2] (encQ 2) := c_fof 2 (by omega) (by omega)
set_option maxHeartbeats 1000000 in
theorem c_works28 : PCalls Tryz.prog 10 [] (.bool true) := by
  have h1 := exB_call
  have h10 := t10
  have h6 := t6
  have h0 := c_qsign (q := 0) (by rw [qw_zero]; omega)
  rw [show ((0 : Rat).num.sign) = 0 from rfl] at h0
  simp only [vBack, encG, encF3, bP2, encQ, encR, encW, bI, List.map_cons, List.map_nil] at h1 h10 h6 h0
  have s10 : ((⟨#[49, 48]⟩ : ByteArray).toList == (⟨#[49, 48]⟩ : ByteArray).toList) = true := beq_self_eq_true _
  have s6 : ((⟨#[54]⟩ : ByteArray).toList == (⟨#[54]⟩ : ByteArray).toList) = true := beq_self_eq_true _
  refine pcalls_of_AW (pa := [8, 9, 12, 14, 20]) (fn := Tryz.f10) (ts := [0]) follows_mixed Tryz.func10 rfl rfl (by kernel_rfl) (by kernel_rfl) (by rw [Tryz.ntmps10]; simp) ?_
  simp only [go_sem, ↓reduceIte]
  refine callS_p fof3 ?_
  simp only [go_sem, ↓reduceIte, encQ, encR, encW]
  refine callS_p fof5 ?_
  simp only [go_sem, ↓reduceIte, encQ, encR, encW]
  refine callD_p fof2' ?_
  simp only [go_sem, ↓reduceIte, encQ, encR, encW]
  refine callD_p h1 ?_
  simp only [go_sem, ↓reduceIte, encQ, encR, encW]
  refine callS_p h0 ?_
  simp only [go_sem, ↓reduceIte]
  refine callS_p h10 ?_
  simp only [go_sem, ↓reduceIte, astrop, s10]
  refine callS_p h6 ?_
  simp only [go_sem, ↓reduceIte, astrop, s6]
  exact .mk (by simp only [go_sem, ↓reduceIte])
end Go.Proofs.YtopmghclhgihfaaGreatDoor

set_option linter.unusedVariables false
set_option linter.unusedSimpArgs false
set_option maxRecDepth 10000
namespace Go.Proofs.YtopmghclhgihfaaGreatDoor
open Go Go.Ab Go.Num

theorem longR_ok {f : Fr} {k : Nat} (h : longR f k = false) (hw : wdR f) : okR k f := by
  simp only [longR, Bool.or_eq_false_iff, decide_eq_false_iff_not] at h
  exact ⟨hw.1, hw.2, by omega, by omega⟩
theorem longRow_ok {l : List Fr} {m k : Nat} (h : longRow l m k = false) (hw : ∀ f ∈ l, wdR f) : l.length ≤ m ∧ ∀ f ∈ l, okR k f := by
  simp only [longRow, Bool.or_eq_false_iff, decide_eq_false_iff_not, Int.toNat_natCast] at h
  have hl : l.length ≤ m := by omega
  rw [List.take_of_length_le hl] at h
  refine ⟨hl, fun f hf => longR_ok (by simpa using List.any_eq_false.1 h.1 f hf) (hw f hf)⟩
theorem longP_ok {a : Pt} {m k : Nat} (h : longP a m k = false) (hw : wdP a) (hm : m ≤ 100000) : okP k a ∧ a.y.length ≤ m ∧ a.p.length ≤ m := by
  simp only [longP, Bool.or_eq_false_iff] at h
  obtain ⟨h1, h2⟩ := longRow_ok h.2.1 hw.2.1
  obtain ⟨h3, h4⟩ := longRow_ok h.2.2 hw.2.2
  exact ⟨⟨longR_ok h.1 hw.1, h2, h4, by omega, by omega⟩, h1, h3⟩
theorem longT_ok {t : Tp} {m k : Nat} (h : longT t m k = false) (hw : wdT t) (hk : k ≤ 80000) : okT t ∧ t.code.length ≤ m ∧ t.outs.length ≤ m := by
  simp only [longT, Bool.or_eq_false_iff, decide_eq_false_iff_not, Int.toNat_natCast] at h
  have hl : t.code.length ≤ m := by omega
  rw [List.take_of_length_le hl] at h
  exact ⟨⟨fun i hi => (longR_ok (by simpa using List.any_eq_false.1 h.1 i hi) (hw.1 i hi)).mono hk, hw.2.1, hw.2.2⟩, hl, by omega⟩
theorem okP.mono {k l : Nat} {a : Pt} (h : okP k a) (hl : k ≤ l) : okP l a := ⟨h.t.mono hl, fun f hf => (h.y f hf).mono hl, fun f hf => (h.p f hf).mono hl, h.ly, h.lp⟩
theorem cq_map_len (l : List Rat) : (l.map cq).length = l.length := List.length_map _

def F27 (t : Tp) (a b : Pt) : (List Rat × List Rat) × Int × Int × Int := fieldT t (pushT t (rv a.t) (rv b.t) (a.y.map rv) (a.p.map rv) (b.y.map rv) (b.p.map rv) (clampB 1500))
def R27 (t : Tp) (a : Pt) : List Rat × Int × Int := fieldR t (runT t (rv a.t) (a.y.map rv) (a.p.map rv) (clampB 1500))
theorem F27_sz (t : Tp) (a b : Pt) : (∀ q ∈ (F27 t a b).1.1, qw q ≤ 200) ∧ ∀ q ∈ (F27 t a b).1.2, qw q ≤ 200 := fieldT_sz (pushT_sz t _ _ _ _ _ _ (by decide))
theorem F27_k (t : Tp) (a b : Pt) (h : (F27 t a b).2.1 = 0) : (F27 t a b).2.2 = (0, 0) := (fieldT_k h).2.1
theorem F27_len (t : Tp) (a b : Pt) (k : Nat) (h : t.outs.length ≤ k) : (F27 t a b).1.2.length ≤ k ∧ (F27 t a b).1.1.length ≤ k := by
  unfold F27 fieldT
  split
  · simp only [outsL, List.length_map]; exact ⟨h, h⟩
  · simp
theorem law27 (t : Tp) (a b d : Pt) (c : Fr) (hab : alongB b d = true) (h1 : (F27 t a b).2.1 = 0) (h2 : (F27 t a d).2.1 = 0) (h3 : (F27 t a (alongP b c d)).2.1 = 0) :
    (F27 t a (alongP b c d)).1.2 = linL (rv c) (F27 t a b).1.2 (F27 t a d).1.2 ∧ (F27 t a (alongP b c d)).1.1 = (F27 t a b).1.1 ∧ R27 t a = ((F27 t a b).1.1, 0, 0) ∧ (F27 t a b).1.2.length = (F27 t a d).1.2.length := by
  simp only [alongB, Bool.and_eq_true, decide_eq_true_eq] at hab
  have et : rv (alongP b c d).t = rv c * rv b.t + rv d.t := rv_cq _
  have ey : (alongP b c d).y.map rv = linL (rv c) (b.y.map rv) (d.y.map rv) := by
    simp only [alongP, if_pos hab.1, map_rvcq]
  have ep : (alongP b c d).p.map rv = linL (rv c) (b.p.map rv) (d.p.map rv) := by
    simp only [alongP, if_pos hab.2, map_rvcq]
  unfold F27 at h3 ⊢
  rw [et, ey, ep] at h3 ⊢
  exact push_shared (by simpa using hab.1) (by simpa using hab.2) h1 h2 h3

set_option maxRecDepth 20000 in
set_option maxHeartbeats 4000000 in
theorem c_plinear (t : Tp) (a b : Pt) (bits : Int) (d : Pt) (c : Fr) (ht : wdT t) (ha : wdP a) (hb : wdP b) (hd : wdP d) (hc : wdR c) : PCalls Tryz.prog 5 [encT t, encWay a b bits, encPt d, encR c] (.bool true) := by
  have l1 := c_long24 t 12 2 (by omega) (by omega)
  have l2 := c_long27 a b bits
  have l3 := c_long21 d 6 2 (by omega) (by omega)
  have l4 := c_long09 c 2
  simp only [encT, encPt, encWay, encR, encW] at l1 l2 l3 l4
  refine pcalls_of_AW (pa := [115]) (fn := Tryz.f5) (ts := [8]) follows_mixed Tryz.func5 rfl rfl (by kernel_rfl) (by kernel_rfl) (by rw [Tryz.ntmps5]; simp) ?_
  simp only [go_sem, ↓reduceIte, encT, encPt, encWay, encR, encW]
  refine callS_p l1 ?_
  cases e1 : longT t 12 2 with
  | true =>
    simp only [go_sem, ↓reduceIte]
    refine callS_p c_works27 ?_
    simp only [go_sem, ↓reduceIte]
    exact .mk (by simp only [go_sem, ↓reduceIte])
  | false =>
    simp only [go_sem, ↓reduceIte]
    refine callS_p l2 ?_
    cases e2 : longW a b bits with
    | true =>
      simp only [go_sem, ↓reduceIte]
      refine callS_p c_works27 ?_
      simp only [go_sem, ↓reduceIte]
      exact .mk (by simp only [go_sem, ↓reduceIte])
    | false =>
      simp only [go_sem, ↓reduceIte]
      refine callS_p l3 ?_
      cases e3 : longP d 6 2 with
      | true =>
        simp only [go_sem, ↓reduceIte]
        refine callS_p c_works27 ?_
        simp only [go_sem, ↓reduceIte]
        exact .mk (by simp only [go_sem, ↓reduceIte])
      | false =>
        simp only [go_sem, ↓reduceIte]
        refine callS_p l4 ?_
        cases e4 : longR c 2 with
        | true =>
          simp only [go_sem, ↓reduceIte]
          refine callS_p c_works27 ?_
          simp only [go_sem, ↓reduceIte]
          exact .mk (by simp only [go_sem, ↓reduceIte])
        | false =>
          clear l1 l2 l3 l4
          simp only [longW, Bool.or_eq_false_iff] at e2
          obtain ⟨okt, lc, lo⟩ := longT_ok (m := 12) (k := 2) e1 ht (by omega)
          obtain ⟨oka, lya, lpa⟩ := longP_ok (m := 6) (k := 2) e2.1 ha (by omega)
          obtain ⟨okb, lyb, lpb⟩ := longP_ok (m := 6) (k := 2) e2.2.1 hb (by omega)
          obtain ⟨okd, lyd, lpd⟩ := longP_ok (m := 6) (k := 2) e3 hd (by omega)
          have okc := longR_ok (k := 2) e4 hc
          have hto := c_to24 t (by omega) (by omega)
          have hta := c_to21 a oka.ly oka.lp
          have htb := c_to21 b okb.ly okb.lp
          have htd := c_to21 d okd.ly okd.lp
          have htc := c_to09 c
          have hal := c_along b d c okb okc okd
          have f1 := c_pfield t a b 1500 okt (by omega) (oka.mono (by omega)) (okb.mono (by omega))
          have f2 := c_pfield t a d 1500 okt (by omega) (oka.mono (by omega)) (okd.mono (by omega))
          have f3 := c_pfield t a (alongP b c d) 1500 okt (by omega) (oka.mono (by omega)) (along_ok okb okc okd)
          have f4 := c_rfield t a 1500 okt (oka.mono (by omega))
          have f1 : PCalls Tryz.prog 19 [encT t, encPt a, encPt b, .int .i64 1500] (vFld (F27 t a b)) := f1
          have f2 : PCalls Tryz.prog 19 [encT t, encPt a, encPt d, .int .i64 1500] (vFld (F27 t a d)) := f2
          have f3 : PCalls Tryz.prog 19 [encT t, encPt a, encPt (alongP b c d), .int .i64 1500] (vFld (F27 t a (alongP b c d))) := f3
          have f4 : PCalls Tryz.prog 27 [encT t, encPt a, .int .i64 1500] (vT (R27 t a)) := f4
          have z1 := F27_sz t a b
          have z2 := F27_sz t a d
          have z3 := F27_sz t a (alongP b c d)
          have k1 := F27_k t a b
          have k2 := F27_k t a d
          have k3 := F27_k t a (alongP b c d)
          have hlaw := law27 t a b d c
          have len1 : (F27 t a b).1.2.length ≤ 12 ∧ (F27 t a b).1.1.length ≤ 12 := F27_len t a b 12 lo
          generalize F27 t a b = F1 at *
          generalize F27 t a d = F2 at *
          generalize F27 t a (alongP b c d) = F3 at *
          generalize R27 t a = R at *
          obtain ⟨⟨v1, s1⟩, k1', q1, p1⟩ := F1
          obtain ⟨⟨v2, s2⟩, k2', q2, p2⟩ := F2
          obtain ⟨⟨v3, s3⟩, k3', q3, p3⟩ := F3
          obtain ⟨v4, k4', p4⟩ := R
          simp only at k1 k2 k3 hlaw z1 z2 z3 len1
          simp only [vFld, vT, encF, encF3] at f1 f2 f3 f4
          generalize hap : alongP b c d = ap at *
          generalize hab : alongB b d = ok at *
          simp only [encT, encPt, encR, encW] at hto hta htb htd htc hal f1 f2 f3 f4
          simp only [go_sem, ↓reduceIte]
          refine callS_p hto ?_
          simp only [go_sem, ↓reduceIte]
          refine callS_p hta ?_
          simp only [go_sem, ↓reduceIte]
          refine callS_p htc ?_
          simp only [go_sem, ↓reduceIte]
          refine callD_p htb ?_
          simp only [go_sem, ↓reduceIte]
          refine callD_p htd ?_
          simp only [go_sem, ↓reduceIte]
          refine callD_p hal ?_
          simp only [go_sem, ↓reduceIte]
          refine callD_p htb ?_
          simp only [go_sem, ↓reduceIte]
          refine callD_p f1 ?_
          simp only [go_sem, ↓reduceIte]
          refine callD_p htd ?_
          simp only [go_sem, ↓reduceIte]
          refine callD_p f2 ?_
          simp only [go_sem, ↓reduceIte]
          refine callS_p f3 ?_
          simp only [go_sem, ↓reduceIte]
          refine callS_p f4 ?_
          cases ok with
          | false =>
            simp only [go_sem, ↓reduceIte]
            refine callS_p c_works27 ?_
            simp only [go_sem, ↓reduceIte]
            exact .mk (by simp only [go_sem, ↓reduceIte])
          | true =>
            by_cases g1 : k1' = 0
            case neg =>
              simp only [go_sem, ↓reduceIte, beq_int, dec_false g1]
              refine callS_p c_works27 ?_
              simp only [go_sem, ↓reduceIte]
              exact .mk (by simp only [go_sem, ↓reduceIte])
            by_cases g2 : k2' = 0
            case neg =>
              obtain ⟨rfl, rfl⟩ := Prod.mk.inj (k1 g1)
              subst g1
              simp only [go_sem, ↓reduceIte, beq_int, e00, dec_false g2]
              refine callS_p c_works27 ?_
              simp only [go_sem, ↓reduceIte]
              exact .mk (by simp only [go_sem, ↓reduceIte])
            by_cases g3 : k3' = 0
            case neg =>
              obtain ⟨rfl, rfl⟩ := Prod.mk.inj (k1 g1)
              obtain ⟨rfl, rfl⟩ := Prod.mk.inj (k2 g2)
              subst g1
              subst g2
              simp only [go_sem, ↓reduceIte, beq_int, e00, dec_false g3]
              refine callS_p c_works27 ?_
              simp only [go_sem, ↓reduceIte]
              exact .mk (by simp only [go_sem, ↓reduceIte])
            obtain ⟨rfl, rfl⟩ := Prod.mk.inj (k1 g1)
            obtain ⟨rfl, rfl⟩ := Prod.mk.inj (k2 g2)
            obtain ⟨rfl, rfl⟩ := Prod.mk.inj (k3 g3)
            subst g1
            subst g2
            subst g3
            obtain ⟨w1, w2, w3, w4⟩ := hlaw rfl rfl rfl rfl
            cases w3
            subst w2
            subst w1
            have r1 := c_rscaleQ c s1 (by omega) (okc.mono (by omega)) (fun q hq => Nat.le_trans (z1.2 q hq) (by omega))
            have hk2 := qw_rv okc (by omega)
            have r2 := c_raddQQ (s1.map fun q => rv c * q) s2 (by rw [List.length_map]; omega) (fun q hq => by
              obtain ⟨x, hx, rfl⟩ := List.mem_map.1 hq
              have := qw_mul (rv c) x
              have := z1.2 x hx
              omega) (fun q hq => Nat.le_trans (z2.2 q hq) (by omega))
            unfold vAddQ at r2
            rw [if_pos (by rw [List.length_map]; exact w4), add_scale] at r2
            have hS : ∀ q ∈ linL (rv c) s1 s2, qw q ≤ 20000 := fun q hq => Nat.le_trans (z3.2 q hq) (by omega)
            have sm1 := c_rsame (linL (rv c) s1 s2) (linL (rv c) s1 s2) hS hS (by rw [linL_len w4]; omega)
            have sm2 := c_rsame v3 v3 (fun q hq => Nat.le_trans (z1.1 q hq) (by omega)) (fun q hq => Nat.le_trans (z1.1 q hq) (by omega)) (by omega)
            rw [decide_eq_true rfl] at sm1 sm2
            simp only [encR, encW] at r1
            simp only [go_sem, ↓reduceIte, beq_int, e00]
            refine callS_p r1 ?_
            simp only [go_sem, ↓reduceIte]
            refine callS_p r2 ?_
            simp only [go_sem, ↓reduceIte]
            refine callS_p sm1 ?_
            simp only [go_sem, ↓reduceIte]
            refine callS_p sm2 ?_
            simp only [go_sem, ↓reduceIte]
            refine callS_p sm2 ?_
            simp only [go_sem, ↓reduceIte, beq_int, e00]
            refine callS_p c_works27 ?_
            simp only [go_sem, ↓reduceIte]
            exact .mk (by simp only [go_sem, ↓reduceIte])
end Go.Proofs.YtopmghclhgihfaaGreatDoor

set_option linter.unusedVariables false
set_option linter.unusedSimpArgs false
set_option maxRecDepth 10000
namespace Go.Proofs.YtopmghclhgihfaaGreatDoor
open Go Go.Ab Go.Num

def B27 (t : Tp) (a : Pt) (w : List Rat) : (Rat × List Rat × List Rat) × Int × Int × Int := backT t (rv a.t) (a.y.map rv) (a.p.map rv) w (clampB 1500)
theorem B27_sz {t : Tp} (ht : okT t) (a : Pt) (w : List Rat) : GSz (B27 t a w).1 50 := backT_gsz ht (by decide)
theorem B27_k (t : Tp) (a : Pt) (w : List Rat) (h : (B27 t a w).2.1 = 0) : (B27 t a w).2.2 = (0, 0) := backT_k h
theorem B27_add (t : Tp) (a : Pt) {u v : List Rat} (huv : u.length = v.length) (h1 : (B27 t a u).2.1 = 0) (h2 : (B27 t a v).2.1 = 0) (h3 : (B27 t a (addL u v)).2.1 = 0) :
    (B27 t a (addL u v)).1 = addG (B27 t a u).1 (B27 t a v).1 ∧ (B27 t a u).1.2.1.length = (B27 t a v).1.2.1.length ∧ (B27 t a u).1.2.2.length = (B27 t a v).1.2.2.length := by
  obtain ⟨e1, e2, e3, e4, e5⟩ := backT_add huv h1 h2 h3
  exact ⟨Prod.ext e1 (Prod.ext e2 e3), e4, e5⟩
theorem c_back27 (t : Tp) (a : Pt) (w : List Fr) (ht : okT t) (ha : okP 9000 a) (hw : ∀ f ∈ w, okR 10 f) (hcl : t.code.length ≤ 15) (hol : t.outs.length ≤ 15) : PCalls Tryz.prog 15 [encT t, encPt a, .sl 3 (w.map encR), .int .i64 1500] (vBack (B27 t a (w.map rv))) :=
  c_back t a w 1500 ht ha hw hcl hol (by decide)

set_option maxRecDepth 20000 in
set_option maxHeartbeats 4000000 in
theorem c_bshared (t : Tp) (a b : Pt) (bits : Int) (u v : List Fr) (ht : wdT t) (ha : wdP a) (hb : wdP b) (hu : ∀ f ∈ u, wdR f) (hv : ∀ f ∈ v, wdR f) : PCalls Tryz.prog 3 [encT t, encWay a b bits, .agg [.sl 3 (u.map encR), .sl 3 (v.map encR)]] (.bool true) := by
  have l1 := c_long24 t 12 2 (by omega) (by omega)
  have l2 := c_long27 a b bits
  have l3 := c_long11 u 8 2 (by omega) (by omega)
  have l4 := c_long11 v 8 2 (by omega) (by omega)
  simp only [encT, encWay, encW] at l1 l2
  refine pcalls_of_AW (pa := [52]) (fn := Tryz.f3) (ts := [6]) follows_mixed Tryz.func3 rfl rfl (by kernel_rfl) (by kernel_rfl) (by rw [Tryz.ntmps3]; simp) ?_
  simp only [go_sem, ↓reduceIte, encT, encWay, encW]
  refine callS_p l1 ?_
  cases e1 : longT t 12 2 with
  | true =>
    simp only [go_sem, ↓reduceIte]
    refine callS_p c_works28 ?_
    simp only [go_sem, ↓reduceIte]
    exact .mk (by simp only [go_sem, ↓reduceIte])
  | false =>
    simp only [go_sem, ↓reduceIte]
    refine callS_p l2 ?_
    cases e2 : longW a b bits with
    | true =>
      simp only [go_sem, ↓reduceIte]
      refine callS_p c_works28 ?_
      simp only [go_sem, ↓reduceIte]
      exact .mk (by simp only [go_sem, ↓reduceIte])
    | false =>
      simp only [go_sem, ↓reduceIte]
      refine callS_p l3 ?_
      cases e3 : longRow u 8 2 with
      | true =>
        simp only [go_sem, ↓reduceIte]
        refine callS_p c_works28 ?_
        simp only [go_sem, ↓reduceIte]
        exact .mk (by simp only [go_sem, ↓reduceIte])
      | false =>
        simp only [go_sem, ↓reduceIte]
        refine callS_p l4 ?_
        cases e4 : longRow v 8 2 with
        | true =>
          simp only [go_sem, ↓reduceIte]
          refine callS_p c_works28 ?_
          simp only [go_sem, ↓reduceIte]
          exact .mk (by simp only [go_sem, ↓reduceIte])
        | false =>
          clear l1 l2 l3 l4
          simp only [longW, Bool.or_eq_false_iff] at e2
          obtain ⟨okt, lc, lo⟩ := longT_ok (m := 12) (k := 2) e1 ht (by omega)
          obtain ⟨oka, lya, lpa⟩ := longP_ok (m := 6) (k := 2) e2.1 ha (by omega)
          obtain ⟨lu, oku⟩ := longRow_ok (m := 8) (k := 2) e3 hu
          obtain ⟨lv, okv⟩ := longRow_ok (m := 8) (k := 2) e4 hv
          have hto := c_to24 t (by omega) (by omega)
          have hta := c_to21 a oka.ly oka.lp
          have htu := c_to11 u (by omega)
          have htv := c_to11 v (by omega)
          have hsum := c_radd u v (by omega) (fun f hf => (oku f hf).mono (by omega)) (fun f hf => (okv f hf).mono (by omega))
          have hW : ∃ W : List Rat, (∀ q ∈ W, qw q ≤ 10) ∧ vAdd u v = .tup [.sl 3 (W.map encQ), .bool (decide (u.length = v.length))] ∧ (u.length = v.length → W = addL (u.map rv) (v.map rv)) := by
            unfold vAdd
            by_cases huv : u.length = v.length
            · refine ⟨addL (u.map rv) (v.map rv), fun q hq => ?_, by rw [if_pos huv, decide_eq_true huv], fun _ => rfl⟩
              obtain ⟨i, hi, rfl⟩ := List.mem_iff_getElem.1 hq
              have hi' : i < u.length ∧ i < v.length := by simpa [addL, Nat.lt_min] using hi
              simp only [addL, List.getElem_zipWith, List.getElem_map]
              have := qw_add (rv (u[i]'hi'.1)) (rv (v[i]'hi'.2))
              have := qw_rv (oku (u[i]'hi'.1) (List.getElem_mem _)) (by omega)
              have := qw_rv (okv (v[i]'hi'.2) (List.getElem_mem _)) (by omega)
              omega
            · exact ⟨[], fun q hq => by simp at hq, by rw [if_neg huv, decide_eq_false huv]; rfl, fun h => absurd h huv⟩
          obtain ⟨W, hWs, hWe, hWa⟩ := hW
          rw [hWe] at hsum
          have f1 := c_back27 t a u okt (oka.mono (by omega)) (fun f hf => (oku f hf).mono (by omega)) (by omega) (by omega)
          have f2 := c_back27 t a v okt (oka.mono (by omega)) (fun f hf => (okv f hf).mono (by omega)) (by omega) (by omega)
          have f3 := c_back27 t a (W.map cq) okt (oka.mono (by omega)) (fun f hf => by
            obtain ⟨q, hq, rfl⟩ := List.mem_map.1 hf
            exact okR_cq (hWs q hq)) (by omega) (by omega)
          rw [map_cq, map_rvcq] at f3
          have z1 := B27_sz okt a (u.map rv)
          have z2 := B27_sz okt a (v.map rv)
          have z3 := B27_sz okt a W
          have k1 := B27_k t a (u.map rv)
          have k2 := B27_k t a (v.map rv)
          have k3 := B27_k t a W
          have hlaw : u.length = v.length → (B27 t a (u.map rv)).2.1 = 0 → (B27 t a (v.map rv)).2.1 = 0 → (B27 t a W).2.1 = 0 → (B27 t a W).1 = addG (B27 t a (u.map rv)).1 (B27 t a (v.map rv)).1 ∧ (B27 t a (u.map rv)).1.2.1.length = (B27 t a (v.map rv)).1.2.1.length ∧ (B27 t a (u.map rv)).1.2.2.length = (B27 t a (v.map rv)).1.2.2.length := fun huv h1 h2 h3 => by
            rw [hWa huv] at h3 ⊢
            exact B27_add t a (by simpa using huv) h1 h2 h3
          generalize B27 t a (u.map rv) = F1 at *
          generalize B27 t a (v.map rv) = F2 at *
          generalize B27 t a W = F3 at *
          obtain ⟨g1, k1', q1, p1⟩ := F1
          obtain ⟨g2, k2', q2, p2⟩ := F2
          obtain ⟨g3, k3', q3, p3⟩ := F3
          simp only at k1 k2 k3 hlaw z1 z2 z3
          have f1' := f1
          have f2' := f2
          have f3' := f3
          simp only [vBack, encG, encF3, encT, encPt, encR, encW] at f1 f2 f3
          simp only [encT, encPt, encR, encW] at hto hta htu htv hsum
          simp only [go_sem, ↓reduceIte, encR, encW]
          refine callS_p hto ?_
          simp only [go_sem, ↓reduceIte]
          refine callS_p hta ?_
          simp only [go_sem, ↓reduceIte]
          refine callS_p htu ?_
          simp only [go_sem, ↓reduceIte]
          refine callS_p htv ?_
          simp only [go_sem, ↓reduceIte]
          refine callS_p hsum ?_
          simp only [go_sem, ↓reduceIte]
          refine callS_p f1 ?_
          simp only [go_sem, ↓reduceIte]
          refine callS_p f2 ?_
          simp only [go_sem, ↓reduceIte]
          refine callS_p f3 ?_
          by_cases huv : u.length = v.length
          case neg =>
            simp only [go_sem, ↓reduceIte, dec_false huv]
            refine callS_p c_works28 ?_
            simp only [go_sem, ↓reduceIte]
            exact .mk (by simp only [go_sem, ↓reduceIte])
          by_cases g1' : k1' = 0
          case neg =>
            simp only [go_sem, ↓reduceIte, dec_true huv, beq_int, dec_false g1']
            refine callS_p c_works28 ?_
            simp only [go_sem, ↓reduceIte]
            exact .mk (by simp only [go_sem, ↓reduceIte])
          by_cases g2' : k2' = 0
          case neg =>
            obtain ⟨rfl, rfl⟩ := Prod.mk.inj (k1 g1')
            subst g1'
            simp only [go_sem, ↓reduceIte, dec_true huv, beq_int, e00, dec_false g2']
            refine callS_p c_works28 ?_
            simp only [go_sem, ↓reduceIte]
            exact .mk (by simp only [go_sem, ↓reduceIte])
          by_cases g3' : k3' = 0
          case neg =>
            obtain ⟨rfl, rfl⟩ := Prod.mk.inj (k1 g1')
            obtain ⟨rfl, rfl⟩ := Prod.mk.inj (k2 g2')
            subst g1'
            subst g2'
            simp only [go_sem, ↓reduceIte, dec_true huv, beq_int, e00, dec_false g3']
            refine callS_p c_works28 ?_
            simp only [go_sem, ↓reduceIte]
            exact .mk (by simp only [go_sem, ↓reduceIte])
          obtain ⟨rfl, rfl⟩ := Prod.mk.inj (k1 g1')
          obtain ⟨rfl, rfl⟩ := Prod.mk.inj (k2 g2')
          obtain ⟨rfl, rfl⟩ := Prod.mk.inj (k3 g3')
          subst g1'
          subst g2'
          subst g3'
          obtain ⟨w1, w2, w3⟩ := hlaw huv rfl rfl rfl
          subst w1
          have hadd := c_padd g1 g2 ⟨Nat.le_trans z1.t (by omega), fun q hq => Nat.le_trans (z1.y q hq) (by omega), fun q hq => Nat.le_trans (z1.p q hq) (by omega), z1.ly, z1.lp⟩ ⟨Nat.le_trans z2.t (by omega), fun q hq => Nat.le_trans (z2.y q hq) (by omega), fun q hq => Nat.le_trans (z2.p q hq) (by omega), z2.ly, z2.lp⟩ w2 w3
          have sm0 := c_fsame (cq (addG g1 g2).1) (cq (addG g1 g2).1) (okR_cq (by have := z3.t; omega)) (okR_cq (by have := z3.t; omega))
          have sm1 := c_rsame (addG g1 g2).2.1 (addG g1 g2).2.1 (fun q hq => Nat.le_trans (z3.y q hq) (by omega)) (fun q hq => Nat.le_trans (z3.y q hq) (by omega)) (by have := z3.ly; omega)
          have sm2 := c_rsame (addG g1 g2).2.2 (addG g1 g2).2.2 (fun q hq => Nat.le_trans (z3.p q hq) (by omega)) (fun q hq => Nat.le_trans (z3.p q hq) (by omega)) (by have := z3.lp; omega)
          rw [decide_eq_true rfl] at sm0 sm1 sm2
          generalize addG g1 g2 = g3 at *
          simp only [encG, encR, encW] at hadd sm0
          simp only [go_sem, ↓reduceIte, dec_true huv, beq_int, e00]
          refine callS_p hadd ?_
          simp only [go_sem, ↓reduceIte]
          refine callS_p sm0 ?_
          simp only [go_sem, ↓reduceIte]
          refine callS_p sm1 ?_
          simp only [go_sem, ↓reduceIte]
          refine callS_p sm2 ?_
          simp only [go_sem, ↓reduceIte]
          refine callS_p c_works28 ?_
          simp only [go_sem, ↓reduceIte]
          exact .mk (by simp only [go_sem, ↓reduceIte])
end Go.Proofs.YtopmghclhgihfaaGreatDoor

set_option linter.unusedVariables false
set_option linter.unusedSimpArgs false
set_option maxRecDepth 10000
namespace Go.Proofs.YtopmghclhgihfaaGreatDoor
open Go Go.Ab Go.Num

theorem pp_law (t : Tp) (a b : Pt) (w : List Rat) (h1 : (F27 t a b).2.1 = 0) (h2 : (B27 t a w).2.1 = 0) :
    w.length = (F27 t a b).1.2.length ∧ (B27 t a w).1.2.1.length = b.y.length ∧ (B27 t a w).1.2.2.length = b.p.length ∧
    dotN w.length w (F27 t a b).1.2 = (B27 t a w).1.1 * rv b.t + (dotN (B27 t a w).1.2.1.length (B27 t a w).1.2.1 (b.y.map rv) + dotN (B27 t a w).1.2.2.length (B27 t a w).1.2.2 (b.p.map rv)) := by
  obtain ⟨k1, _, e1⟩ := fieldT_k h1
  have hf := to_fro k1 h2
  obtain ⟨⟨ly, lp⟩, ⟨_, hy, hp⟩, _⟩ := pushT_ok k1
  obtain ⟨hw, _, hg⟩ := backT_ok h2
  have e2 : (F27 t a b).1.2 = outsL t ((pushT t (rv a.t) (rv b.t) (a.y.map rv) (a.p.map rv) (b.y.map rv) (b.p.map rv) (clampB 1500)).1.map (·.2)) := congrArg Prod.snd e1
  obtain ⟨s1, s2⟩ := backF_sizes t.code (runT t (rv a.t) (a.y.map rv) (a.p.map rv) (clampB 1500)).1 t.code.length (bk0 t w)
  simp only [bk0, zeros, List.length_replicate] at s1 s2
  simp only [List.length_map] at ly lp hy hp
  refine ⟨by rw [e2, hw]; simp [outsL], ?_, ?_, ?_⟩
  · show (backT t (rv a.t) (a.y.map rv) (a.p.map rv) w (clampB 1500)).1.2.1.length = _
    rw [hg]; simp only [bk0, zeros]; omega
  · show (backT t (rv a.t) (a.y.map rv) (a.p.map rv) w (clampB 1500)).1.2.2.length = _
    rw [hg]; simp only [bk0, zeros]; omega
  · rw [e2]; exact hf

theorem c_rdotQ (A : List Rat) (b : List Fr) (hl : A.length ≤ 20) (ha : ∀ q ∈ A, qw q ≤ 400) (hb : ∀ f ∈ b, okR 400 f) (hab : A.length = b.length) : PCalls Tryz.prog 20 [.sl 3 (A.map encQ), .sl 3 (b.map encR)] (.tup [encQ (dotN A.length A (b.map rv)), .bool true]) := by
  have h := c_rdot (A.map cq) b (by simpa using hl) (fun f hf => by
    obtain ⟨q, hq, rfl⟩ := List.mem_map.1 hf
    exact okR_cq (ha q hq)) hb
  unfold vDot at h
  rw [map_cq, map_rvcq, List.length_map, if_pos hab] at h
  exact h
theorem c_rdotR (a : List Fr) (B : List Rat) (hl : a.length ≤ 20) (ha : ∀ f ∈ a, okR 400 f) (hb : ∀ q ∈ B, qw q ≤ 400) (hab : a.length = B.length) : PCalls Tryz.prog 20 [.sl 3 (a.map encR), .sl 3 (B.map encQ)] (.tup [encQ (dotN a.length (a.map rv) B), .bool true]) := by
  have h := c_rdot a (B.map cq) hl ha (fun f hf => by
    obtain ⟨q, hq, rfl⟩ := List.mem_map.1 hf
    exact okR_cq (hb q hq))
  unfold vDot at h
  rw [map_cq, map_rvcq, List.length_map, if_pos hab] at h
  exact h
/-- What a gradient makes of a direction. -/
def meetQ (g : Rat × List Rat × List Rat) (b : Pt) : Rat := g.1 * rv b.t + (dotN g.2.1.length g.2.1 (b.y.map rv) + dotN g.2.2.length g.2.2 (b.p.map rv))
theorem meet_sz {g : Rat × List Rat × List Rat} {b : Pt} (hg : GSz g 50) (hb : okP 2 b) (ly : g.2.1.length ≤ 20) (lp : g.2.2.length ≤ 20) :
    qw (dotN g.2.1.length g.2.1 (b.y.map rv)) ≤ 2100 ∧ qw (dotN g.2.2.length g.2.2 (b.p.map rv)) ≤ 2100 ∧ qw (g.1 * rv b.t) ≤ 100 ∧ qw (dotN g.2.1.length g.2.1 (b.y.map rv) + dotN g.2.2.length g.2.2 (b.p.map rv)) ≤ 4300 ∧ qw (meetQ g b) ≤ 4500 := by
  have hby : ∀ q ∈ b.y.map rv, qw q ≤ 50 := fun q hq => by
    obtain ⟨f, hf, rfl⟩ := List.mem_map.1 hq
    have := qw_rv (hb.y f hf) (by omega); omega
  have hbp : ∀ q ∈ b.p.map rv, qw q ≤ 50 := fun q hq => by
    obtain ⟨f, hf, rfl⟩ := List.mem_map.1 hq
    have := qw_rv (hb.p f hf) (by omega); omega
  have d1 := dotN_size hg.y hby (by omega) g.2.1.length
  have d2 := dotN_size hg.p hbp (by omega) g.2.2.length
  have m1 : g.2.1.length * (2 * 50 + 1) ≤ 20 * 101 := Nat.mul_le_mul_right _ ly
  have m2 : g.2.2.length * (2 * 50 + 1) ≤ 20 * 101 := Nat.mul_le_mul_right _ lp
  have q1 := qw_mul g.1 (rv b.t)
  have q2 := hg.t
  have q3 := qw_rv hb.t (by omega)
  have q4 := qw_add (dotN g.2.1.length g.2.1 (b.y.map rv)) (dotN g.2.2.length g.2.2 (b.p.map rv))
  have q5 := qw_add (g.1 * rv b.t) (dotN g.2.1.length g.2.1 (b.y.map rv) + dotN g.2.2.length g.2.2 (b.p.map rv))
  refine ⟨by omega, by omega, by omega, by omega, ?_⟩
  show qw (g.1 * rv b.t + (dotN g.2.1.length g.2.1 (b.y.map rv) + dotN g.2.2.length g.2.2 (b.p.map rv))) ≤ 4500
  omega
set_option maxRecDepth 20000 in
theorem c_meets (g : Rat × List Rat × List Rat) (b : Pt) (hg : GSz g 50) (hb : okP 2 b) (ly : g.2.1.length = b.y.length) (lp : g.2.2.length = b.p.length) (l1 : b.y.length ≤ 20) (l2 : b.p.length ≤ 20) :
    PCalls Tryz.prog 21 [encG g, encPt b] (.tup [encQ (meetQ g b), .bool true]) := by
  obtain ⟨s1, s2, s3, s4, s5⟩ := meet_sz hg hb (by omega) (by omega)
  have dy := c_rdotQ g.2.1 b.y (by omega) (fun q hq => Nat.le_trans (hg.y q hq) (by omega)) (fun f hf => (hb.y f hf).mono (by omega)) ly
  have dp := c_rdotQ g.2.2 b.p (by omega) (fun q hq => Nat.le_trans (hg.p q hq) (by omega)) (fun f hf => (hb.p f hf).mono (by omega)) lp
  have m0 := c_fmul (cq g.1) b.t (okR_cq (by have := hg.t; omega)) (hb.t.mono (by omega))
  rw [rv_cq] at m0
  have a1 := c_qadd (a := dotN g.2.1.length g.2.1 (b.y.map rv)) (b := dotN g.2.2.length g.2.2 (b.p.map rv)) (by omega) (by omega)
  have a2 := c_qadd (a := g.1 * rv b.t) (b := dotN g.2.1.length g.2.1 (b.y.map rv) + dotN g.2.2.length g.2.2 (b.p.map rv)) (by omega) (by omega)
  unfold meetQ
  generalize dotN g.2.1.length g.2.1 (b.y.map rv) = x at *
  generalize dotN g.2.2.length g.2.2 (b.p.map rv) = z at *
  simp only [encQ, encR, encW] at dy dp m0 a1 a2
  refine pcalls_of_AWR (pa := []) (fn := Tryz.f21) (rs := [.cell 4 46, .tmp 5]) follows_mixed Tryz.func21 rfl rfl (by kernel_rfl) (by kernel_rfl) (by rw [Tryz.ntmps21]; simp) ?_
  simp only [go_sem, ↓reduceIte, encG, encPt, encQ, encR, encW]
  refine callS_p dy ?_
  simp only [go_sem, ↓reduceIte]
  refine callS_p dp ?_
  simp only [go_sem, ↓reduceIte]
  refine callD_p m0 ?_
  simp only [go_sem, ↓reduceIte]
  refine callD_p a1 ?_
  simp only [go_sem, ↓reduceIte]
  refine callD_p a2 ?_
  simp only [go_sem, ↓reduceIte]
  exact .mk (by simp only [go_sem, ↓reduceIte, resR, resAll, resA, encQ, encR, encW] <;> rfl)

set_option maxRecDepth 20000 in
set_option maxHeartbeats 4000000 in
theorem c_pp (t : Tp) (a b : Pt) (bits : Int) (w : List Fr) (ht : wdT t) (ha : wdP a) (hb : wdP b) (hw : ∀ f ∈ w, wdR f) : PCalls Tryz.prog 4 [encT t, encWay a b bits, .sl 3 (w.map encR)] (.bool true) := by
  have l1 := c_long24 t 15 2 (by omega) (by omega)
  have l2 := c_long27 a b bits
  have l3 := c_long11 w 8 2 (by omega) (by omega)
  simp only [encT, encWay, encW] at l1 l2
  refine pcalls_of_AW (pa := []) (fn := Tryz.f4) (ts := [6]) follows_mixed Tryz.func4 rfl rfl (by kernel_rfl) (by kernel_rfl) (by rw [Tryz.ntmps4]; simp) ?_
  simp only [go_sem, ↓reduceIte, encT, encWay, encW]
  refine callS_p l1 ?_
  cases e1 : longT t 15 2 with
  | true =>
    simp only [go_sem, ↓reduceIte]
    refine callS_p c_works28 ?_
    simp only [go_sem, ↓reduceIte]
    exact .mk (by simp only [go_sem, ↓reduceIte])
  | false =>
    simp only [go_sem, ↓reduceIte]
    refine callS_p l2 ?_
    cases e2 : longW a b bits with
    | true =>
      simp only [go_sem, ↓reduceIte]
      refine callS_p c_works28 ?_
      simp only [go_sem, ↓reduceIte]
      exact .mk (by simp only [go_sem, ↓reduceIte])
    | false =>
      simp only [go_sem, ↓reduceIte]
      refine callS_p l3 ?_
      cases e3 : longRow w 8 2 with
      | true =>
        simp only [go_sem, ↓reduceIte]
        refine callS_p c_works28 ?_
        simp only [go_sem, ↓reduceIte]
        exact .mk (by simp only [go_sem, ↓reduceIte])
      | false =>
        clear l1 l2 l3
        simp only [longW, Bool.or_eq_false_iff] at e2
        obtain ⟨okt, lc, lo⟩ := longT_ok (m := 15) (k := 2) e1 ht (by omega)
        obtain ⟨oka, lya, lpa⟩ := longP_ok (m := 6) (k := 2) e2.1 ha (by omega)
        obtain ⟨okb, lyb, lpb⟩ := longP_ok (m := 6) (k := 2) e2.2.1 hb (by omega)
        obtain ⟨lw, okw⟩ := longRow_ok (m := 8) (k := 2) e3 hw
        have hto := c_to24 t (by omega) (by omega)
        have hta := c_to21 a oka.ly oka.lp
        have htb := c_to21 b okb.ly okb.lp
        have htw := c_to11 w (by omega)
        have f1 : PCalls Tryz.prog 19 [encT t, encPt a, encPt b, .int .i64 1500] (vFld (F27 t a b)) := c_pfield t a b 1500 okt (by omega) (oka.mono (by omega)) (okb.mono (by omega))
        have f2 := c_back27 t a w okt (oka.mono (by omega)) (fun f hf => (okw f hf).mono (by omega)) (by omega) (by omega)
        have z1 := F27_sz t a b
        have z2 := B27_sz okt a (w.map rv)
        have k1 := F27_k t a b
        have k2 := B27_k t a (w.map rv)
        have hlaw := pp_law t a b (w.map rv)
        generalize F27 t a b = F1 at *
        generalize B27 t a (w.map rv) = F2 at *
        obtain ⟨⟨v1, d1⟩, k1', q1, p1⟩ := F1
        obtain ⟨g, k2', q2, p2⟩ := F2
        simp only at k1 k2 hlaw z1 z2
        simp only [vFld, vBack, encG, encF3, encT, encPt, encR, encW] at f1 f2
        simp only [encT, encPt, encR, encW] at hto hta htb htw
        simp only [go_sem, ↓reduceIte, encR, encW]
        refine callS_p hto ?_
        simp only [go_sem, ↓reduceIte]
        refine callS_p htb ?_
        simp only [go_sem, ↓reduceIte]
        refine callS_p htw ?_
        simp only [go_sem, ↓reduceIte]
        refine callD_p hta ?_
        simp only [go_sem, ↓reduceIte]
        refine callD_p f1 ?_
        simp only [go_sem, ↓reduceIte]
        refine callD_p hta ?_
        simp only [go_sem, ↓reduceIte]
        refine callD_p f2 ?_
        simp only [go_sem, ↓reduceIte]
        by_cases g1' : k1' = 0
        case neg =>
          simp only [go_sem, ↓reduceIte, beq_int, dec_false g1']
          refine callS_p c_works28 ?_
          simp only [go_sem, ↓reduceIte]
          exact .mk (by simp only [go_sem, ↓reduceIte])
        by_cases g2' : k2' = 0
        case neg =>
          obtain ⟨rfl, rfl⟩ := Prod.mk.inj (k1 g1')
          subst g1'
          simp only [go_sem, ↓reduceIte, beq_int, e00, dec_false g2']
          refine callS_p c_works28 ?_
          simp only [go_sem, ↓reduceIte]
          exact .mk (by simp only [go_sem, ↓reduceIte])
        obtain ⟨rfl, rfl⟩ := Prod.mk.inj (k1 g1')
        obtain ⟨rfl, rfl⟩ := Prod.mk.inj (k2 g2')
        subst g1'
        subst g2'
        obtain ⟨w1, w2, w3, w4⟩ := hlaw rfl rfl
        rw [List.length_map] at w1 w4
        have hl := c_rdotR w d1 (by omega) (fun f hf => (okw f hf).mono (by omega)) (fun q hq => Nat.le_trans (z1.2 q hq) (by omega)) w1
        have hm := c_meets g b z2 okb w2 w3 (by omega) (by omega)
        have hs := (meet_sz z2 okb (by omega) (by omega)).2.2.2.2
        have he : dotN w.length (w.map rv) d1 = meetQ g b := w4
        rw [he] at hl
        have sm := c_fsame (cq (meetQ g b)) (cq (meetQ g b)) (okR_cq (by omega)) (okR_cq (by omega))
        rw [decide_eq_true rfl] at sm
        generalize meetQ g b = x at *
        simp only [encG, encPt, encQ, encR, encW] at hl hm sm
        simp only [go_sem, ↓reduceIte, beq_int, e00]
        refine callS_p hl ?_
        simp only [go_sem, ↓reduceIte]
        refine callS_p hm ?_
        simp only [go_sem, ↓reduceIte]
        refine callS_p sm ?_
        simp only [go_sem, ↓reduceIte]
        refine callS_p c_works28 ?_
        simp only [go_sem, ↓reduceIte]
        exact .mk (by simp only [go_sem, ↓reduceIte])
end Go.Proofs.YtopmghclhgihfaaGreatDoor
