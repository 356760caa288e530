/- Parts of the proof, joined: N4, M12, M13, M14, M15, G1, G2, G3, G4, G5, G6, G7, G8, G9, RD, RT, P1, P2, Q1, Q2. -/
import Derived.Test.YtopmghclhgihfaaGreatDoorZ3

set_option linter.unusedVariables false
set_option linter.unusedSimpArgs false
set_option maxRecDepth 10000
namespace Go.Num
open Go.Ab

/-- A number with a sign. -/
def sg (neg : Bool) (m : Nat) : Int := if neg then -(m : Int) else (m : Int)
theorem sg_true (m : Nat) : sg true m = -(m : Int) := rfl
theorem sg_false (m : Nat) : sg false m = (m : Int) := rfl
theorem sg_natAbs (neg : Bool) (m : Nat) : (sg neg m).natAbs = m := by cases neg <;> simp [sg]
theorem sg_neg (neg : Bool) (m : Nat) : decide (sg neg m < 0) = (neg && decide (0 < m)) := by
  cases neg
  · rw [sg_false, Bool.false_and]; exact decide_eq_false (by omega)
  · rw [sg_true, Bool.true_and]
    by_cases h : 0 < m
    · rw [decide_eq_true h]; exact decide_eq_true (by omega)
    · rw [decide_eq_false h]; exact decide_eq_false (by omega)
theorem sg_self (z : Int) : sg (decide (z < 0)) z.natAbs = z := by
  by_cases h : z < 0
  · rw [decide_eq_true h, sg_true]; omega
  · rw [decide_eq_false h, sg_false]; omega
theorem sg_zero (neg : Bool) : sg neg 0 = 0 := by cases neg <;> rfl
theorem sg_eq_zero {neg : Bool} {m : Nat} : sg neg m = 0 ↔ m = 0 := by cases neg <;> simp [sg]
theorem sg_mul (n m : Bool) (a b : Nat) : sg n a * sg m b = sg (n != m) (a * b) := by cases n <;> cases m <;> simp [sg, Int.neg_mul, Int.mul_neg]
theorem sg_not (n : Bool) (a : Nat) : sg (!n) a = -sg n a := by cases n <;> simp [sg]

/-- A whole number as it stands; the right one of a value. -/
def encH (neg : Bool) (a : List Nat) : AV := .agg [.bool neg, encW a]
def encZ (z : Int) : AV := .agg [.bool (decide (z < 0)), encW (dig z.natAbs)]
theorem encZ_sg (neg : Bool) (m : Nat) : encZ (sg neg m) = .agg [.bool (neg && decide (0 < m)), encW (dig m)] := by rw [encZ, sg_neg, sg_natAbs]
theorem encZ_H (z : Int) : encZ z = encH (decide (z < 0)) (dig z.natAbs) := rfl

/-- A fraction as it stands. -/
structure Fr where
  neg : Bool
  n : List Nat
  d : List Nat
def encR (f : Fr) : AV := .agg [.bool f.neg, encW f.n, encW f.d]
/-- Its value: 0, if its lower number is 0. -/
def rv (f : Fr) : Rat := mkRat (sg f.neg (val f.n)) (val f.d)
/-- The right fraction of a value. -/
def cq (q : Rat) : Fr := ⟨decide (q.num < 0), dig q.num.natAbs, dig q.den⟩
def encQ (q : Rat) : AV := encR (cq q)
theorem rv_cq (q : Rat) : rv (cq q) = q := by
  simp only [rv, cq, val_dig, sg_self]
  exact Rat.mkRat_self q
/-- Its words, and not too many of them. -/
def okR (k : Nat) (f : Fr) : Prop := Wd f.n ∧ Wd f.d ∧ f.n.length ≤ k ∧ f.d.length ≤ k
theorem okR.mono {k l : Nat} {f : Fr} (h : okR k f) (hl : k ≤ l) : okR l f := ⟨h.1, h.2.1, Nat.le_trans h.2.2.1 hl, Nat.le_trans h.2.2.2 hl⟩
/-- How long a value's numbers are, in words. -/
def qw (q : Rat) : Nat := max (dig q.num.natAbs).length (dig q.den).length
theorem okR_cq {q : Rat} {k : Nat} (h : qw q ≤ k) : okR k (cq q) := ⟨wd_dig _, wd_dig _, by unfold qw at h; simp only [cq]; omega, by unfold qw at h; simp only [cq]; omega⟩

theorem mkRat_num_abs (n : Int) {d : Nat} (hd : d ≠ 0) : (mkRat n d).num.natAbs = n.natAbs / Nat.gcd n.natAbs d := by
  rw [Rat.num_mkRat, if_neg hd, Nat.gcd_comm, Int.natAbs_ediv_of_dvd]
  · rfl
  · rw [Int.ofNat_dvd_left]; exact Nat.gcd_dvd_left _ _
theorem mkRat_den' (n : Int) {d : Nat} (hd : d ≠ 0) : (mkRat n d).den = d / Nat.gcd n.natAbs d := by
  rw [Rat.den_mkRat, if_neg hd, Nat.gcd_comm]
theorem mkRat_num_neg (n : Int) {d : Nat} (hd : d ≠ 0) : ((mkRat n d).num < 0) ↔ n < 0 := by
  have h := Rat.num_mkRat n d
  rw [if_neg hd] at h
  rw [h]
  have hg : 0 < d.gcd n.natAbs := Nat.gcd_pos_of_pos_left _ (Nat.pos_of_ne_zero hd)
  have hdvd : ((d.gcd n.natAbs : Nat) : Int) ∣ n := by rw [Int.ofNat_dvd_left]; exact Nat.gcd_dvd_right _ _
  obtain ⟨k, hk⟩ := hdvd
  generalize d.gcd n.natAbs = g at *
  rw [hk, Int.mul_ediv_cancel_left _ (by omega)]
  constructor
  · intro h; exact Int.mul_neg_of_pos_of_neg (by omega) h
  · intro h
    rcases Int.lt_or_le k 0 with h1 | h1
    · exact h1
    · have := Int.mul_nonneg (show (0 : Int) ≤ g by omega) h1; omega
theorem encQ_mk (n : Int) {d : Nat} (hd : d ≠ 0) : encQ (mkRat n d) = .agg [.bool (decide (n < 0)), encW (dig (n.natAbs / Nat.gcd n.natAbs d)), encW (dig (d / Nat.gcd n.natAbs d))] := by
  simp only [encQ, encR, cq, mkRat_num_abs n hd, mkRat_den' n hd, mkRat_num_neg n hd]
theorem qw_mk (n : Int) (d : Nat) {k : Nat} (hn : n.natAbs < B ^ k) (hd : d < B ^ k) (hk : 1 ≤ k) : qw (mkRat n d) ≤ k := by
  unfold qw
  by_cases h0 : d = 0
  · subst h0
    rw [Rat.mkRat_zero]
    have e1 : dig (0 : Rat).num.natAbs = [] := dig_nil.2 rfl
    have e2 : dig (0 : Rat).den = [1] := dig_one (by decide) (by decide)
    rw [e1, e2]; simpa using hk
  · rw [mkRat_num_abs n h0, mkRat_den' n h0]
    exact Nat.max_le.2 ⟨dig_len_le.2 (Nat.lt_of_le_of_lt (Nat.div_le_self _ _) hn), dig_len_le.2 (Nat.lt_of_le_of_lt (Nat.div_le_self _ _) hd)⟩
theorem rv_lt {k : Nat} {f : Fr} (h : okR k f) : (sg f.neg (val f.n)).natAbs < B ^ k ∧ val f.d < B ^ k := by
  rw [sg_natAbs]
  exact ⟨Nat.lt_of_lt_of_le (val_lt h.1) (Nat.pow_le_pow_right B_pos h.2.2.1), Nat.lt_of_lt_of_le (val_lt h.2.1) (Nat.pow_le_pow_right B_pos h.2.2.2)⟩
theorem qw_rv {k : Nat} {f : Fr} (h : okR k f) (hk : 1 ≤ k) : qw (rv f) ≤ k := qw_mk _ _ (rv_lt h).1 (rv_lt h).2 hk
theorem lt_qw {q : Rat} {k : Nat} (h : qw q ≤ k) : q.num.natAbs < B ^ k ∧ q.den < B ^ k := by
  unfold qw at h
  exact ⟨dig_len_le.1 (by omega), dig_len_le.1 (by omega)⟩
theorem qw_zero : qw 0 = 1 := by
  have e1 : dig (0 : Rat).num.natAbs = [] := dig_nil.2 rfl
  have e2 : dig (0 : Rat).den = [1] := dig_one (by decide) (by decide)
  unfold qw; rw [e1, e2]; rfl
theorem qw_pos (q : Rat) : 1 ≤ qw q := by
  unfold qw
  have : (dig q.den).length ≠ 0 := fun h => q.den_nz (dig_len0.1 h)
  omega

/-! ### How long the results are -/
theorem qw_add (a b : Rat) : qw (a + b) ≤ qw a + qw b + 1 := by
  rw [Rat.add_def']
  have ha := lt_qw (Nat.le_refl (qw a))
  have hb := lt_qw (Nat.le_refl (qw b))
  refine qw_mk _ _ ?_ ?_ (by omega)
  · have h1 : (a.num * b.den + b.num * a.den).natAbs ≤ a.num.natAbs * b.den + b.num.natAbs * a.den := by
      refine Nat.le_trans (Int.natAbs_add_le _ _) ?_
      rw [Int.natAbs_mul, Int.natAbs_mul, Int.natAbs_natCast, Int.natAbs_natCast]; exact Nat.le_refl _
    have h2 : a.num.natAbs * b.den < B ^ qw a * B ^ qw b := Nat.mul_lt_mul'' ha.1 hb.2
    have h3 : b.num.natAbs * a.den < B ^ qw b * B ^ qw a := Nat.mul_lt_mul'' hb.1 ha.2
    rw [Nat.pow_succ, Nat.pow_add]
    rw [Nat.mul_comm (B ^ qw b)] at h3
    have h4 : B ^ qw a * B ^ qw b * 2 ≤ B ^ qw a * B ^ qw b * B := Nat.mul_le_mul_left _ B_two
    omega
  · have h2 : a.den * b.den < B ^ qw a * B ^ qw b := Nat.mul_lt_mul'' ha.2 hb.2
    rw [Nat.pow_succ, Nat.pow_add]
    have h4 : B ^ qw a * B ^ qw b * 2 ≤ B ^ qw a * B ^ qw b * B := Nat.mul_le_mul_left _ B_two
    omega
theorem qw_mul (a b : Rat) : qw (a * b) ≤ qw a + qw b := by
  rw [Rat.mul_def']
  have ha := lt_qw (Nat.le_refl (qw a))
  have hb := lt_qw (Nat.le_refl (qw b))
  have := qw_pos a
  refine qw_mk _ _ ?_ ?_ (by omega)
  · rw [Int.natAbs_mul, Nat.pow_add]; exact Nat.mul_lt_mul'' ha.1 hb.1
  · rw [Nat.pow_add]; exact Nat.mul_lt_mul'' ha.2 hb.2
theorem qw_neg (a : Rat) : qw (-a) = qw a := by unfold qw; rw [Rat.neg_num, Rat.neg_den, Int.natAbs_neg]
theorem qw_sub (a b : Rat) : qw (a - b) ≤ qw a + qw b + 1 := by rw [Rat.sub_eq_add_neg]; have := qw_add a (-b); rwa [qw_neg] at this
theorem qw_inv (a : Rat) : qw a⁻¹ ≤ qw a := by
  unfold qw
  rw [Rat.num_inv, Rat.den_inv]
  by_cases h : a.num = 0
  · rw [if_pos h, h]
    have : dig 1 = [1] := dig_one (by decide) (by decide)
    have h2 : (dig a.den).length ≠ 0 := fun h => a.den_nz (dig_len0.1 h)
    rw [this]
    simp [dig_zero]; omega
  · rw [if_neg h]
    have : (a.num.sign * (a.den : Int)).natAbs = a.den := by
      rw [Int.natAbs_mul, Int.natAbs_sign, if_neg h, Nat.one_mul, Int.natAbs_natCast]
    rw [this]; omega
theorem qw_div (a b : Rat) : qw (a / b) ≤ qw a + qw b := by rw [Rat.div_def]; have := qw_mul a b⁻¹; have := qw_inv b; omega
theorem qw_pow (a : Rat) (n : Nat) : qw (a ^ n) ≤ max 1 (n * qw a) := by
  induction n with
  | zero => rw [Rat.pow_zero]; have : qw 1 = 1 := by
              unfold qw
              have e1 : dig (1 : Rat).num.natAbs = [1] := dig_one (by decide) (by decide)
              have e2 : dig (1 : Rat).den = [1] := dig_one (by decide) (by decide)
              rw [e1, e2]; rfl
            omega
  | succ n ih =>
    rw [Rat.pow_succ]
    have := qw_mul (a ^ n) a
    have := qw_pos a
    rw [Nat.succ_mul]
    rcases Nat.eq_zero_or_pos n with h | h
    · subst h
      rw [Rat.pow_zero, Rat.one_mul]
      omega
    · have : 1 * 1 ≤ n * qw a := Nat.mul_le_mul h (qw_pos a)
      omega
end Go.Num

set_option linter.unusedVariables false
set_option linter.unusedSimpArgs false
set_option maxRecDepth 10000
namespace Go.Proofs.YtopmghclhgihfaaGreatDoor
open Go Go.Ab Go.Num

theorem c_signed (neg : Bool) (m : Nat) : PCalls Tryz.prog 85 [.bool neg, encW (dig m)] (encZ (sg neg m)) := by
  rw [encZ_sg]
  refine pcalls_of_AWR (pa := []) (fn := Tryz.f85) (rs := [.cell 4 44]) follows_mixed Tryz.func85 rfl rfl (by kernel_rfl) (by kernel_rfl) (by rw [Tryz.ntmps85]; simp) ?_
  cases neg with
  | true =>
    have hd : decide ((0 : Int) < ((dig m).length : Nat)) = decide (0 < m) := by
      by_cases h : 0 < m
      · rw [decide_eq_true h]; exact decide_eq_true (by have : (dig m).length ≠ 0 := fun e => by rw [dig_len0] at e; omega
                                                        omega)
      · have : m = 0 := by omega
        subst this; rw [dig_zero]; rfl
    simp only [go_sem, ↓reduceIte, encW, hd]
    exact .mk (by simp only [go_sem, ↓reduceIte, encW])
  | false =>
    simp only [go_sem, ↓reduceIte, encW]
    exact .mk (by simp only [go_sem, ↓reduceIte, encW])

theorem c_wnorm (neg : Bool) (a : List Nat) (ha : Wd a) (hl : a.length < 1000000) : PCalls Tryz.prog 95 [encH neg a] (encZ (sg neg (val a))) := by
  have hs := c_signed neg (val a)
  rw [encZ_sg] at hs ⊢
  refine pcalls_of_AWR (pa := []) (fn := Tryz.f95) (rs := [.cell 2 44]) follows_mixed Tryz.func95 rfl rfl (by kernel_rfl) (by kernel_rfl) (by rw [Tryz.ntmps95]; simp) ?_
  simp only [go_sem, ↓reduceIte, encH, encW]
  refine callD_p (c_norm a ha hl) ?_
  simp only [go_sem, ↓reduceIte, encH, encW]
  refine callD_p hs ?_
  simp only [go_sem, ↓reduceIte, encW]
  exact .mk (by simp only [go_sem, ↓reduceIte, encW])

theorem c_wof (n : Int) (h1 : -9223372036854775808 ≤ n) (h2 : n ≤ 9223372036854775807) : PCalls Tryz.prog 58 [.int .i64 n] (encZ n) := by
  have hz : encZ n = encZ (sg (decide (n < 0)) n.natAbs) := by rw [sg_self]
  have hs := c_signed (decide (n < 0)) n.natAbs
  rw [hz]
  rw [encZ_sg] at hs ⊢
  refine pcalls_of_AWR (pa := []) (fn := Tryz.f58) (rs := [.cell 2 44]) follows_mixed Tryz.func58 rfl rfl (by kernel_rfl) (by kernel_rfl) (by rw [Tryz.ntmps58]; simp) ?_
  by_cases h : n < 0
  · rw [dec_true h] at hs ⊢
    have w1 : IntKind.u64.wrap n = ((18446744073709551616 - n.natAbs : Nat) : Int) := by
      unfold IntKind.wrap
      simp only [show IntKind.u64.bits = 64 from rfl, show IntKind.u64.signed = false from rfl, Bool.false_and, Bool.false_eq_true, if_false]
      omega
    have w2 : IntKind.u64.wrap (0 - ((18446744073709551616 - n.natAbs : Nat) : Int)) = (n.natAbs : Nat) := by
      unfold IntKind.wrap
      simp only [show IntKind.u64.bits = 64 from rfl, show IntKind.u64.signed = false from rfl, Bool.false_and, Bool.false_eq_true, if_false]
      omega
    simp only [go_sem, ↓reduceIte, dec_true h, w1, w2]
    refine callS_p (c_of n.natAbs (by omega)) ?_
    simp only [go_sem, ↓reduceIte, encW]
    refine callS_p hs ?_
    simp only [go_sem, ↓reduceIte, encW]
    exact .mk (by simp only [go_sem, ↓reduceIte, encW])
  · rw [dec_false h] at hs ⊢
    have w1 : IntKind.u64.wrap n = ((n.natAbs : Nat) : Int) := by rw [wrapu64_id (by omega) (by omega)]; omega
    simp only [go_sem, ↓reduceIte, dec_false h, w1]
    refine callS_p (c_of n.natAbs (by omega)) ?_
    simp only [go_sem, ↓reduceIte, encW]
    refine callS_p hs ?_
    simp only [go_sem, ↓reduceIte, encW]
    exact .mk (by simp only [go_sem, ↓reduceIte, encW])

theorem sg_sign (neg : Bool) (m : Nat) : (sg neg m).sign = if m = 0 then 0 else if neg then -1 else 1 := by
  by_cases h : m = 0
  · subst h; rw [sg_zero]; rfl
  · rw [if_neg h]
    cases neg
    · rw [sg_false]; exact Int.sign_eq_one_of_pos (by omega)
    · rw [sg_true]; exact Int.sign_eq_neg_one_of_neg (by omega)

theorem c_wsign (neg : Bool) (a : List Nat) (ha : Wd a) (hl : a.length < 1000000) : PCalls Tryz.prog 61 [encH neg a] (.int .i64 (sg neg (val a)).sign) := by
  rw [sg_sign]
  refine pcalls_of_AW (pa := []) (fn := Tryz.f61) (ts := [2]) follows_mixed Tryz.func61 rfl rfl (by kernel_rfl) (by kernel_rfl) (by rw [Tryz.ntmps61]; simp) ?_
  simp only [go_sem, ↓reduceIte, encH, encW]
  refine callS_p (c_zero a ha hl) ?_
  by_cases h : val a = 0
  · simp only [go_sem, ↓reduceIte, dec_true h]
    exact .mk (by simp only [go_sem, ↓reduceIte, h])
  · simp only [go_sem, ↓reduceIte, dec_false h]
    cases neg with
    | true =>
      simp only [go_sem, ↓reduceIte]
      exact .mk (by simp only [go_sem, ↓reduceIte, h])
    | false =>
      simp only [go_sem, ↓reduceIte]
      exact .mk (by simp only [go_sem, ↓reduceIte, h])

theorem c_wneg (neg : Bool) (a : List Nat) (ha : Wd a) (hl : a.length < 1000000) : PCalls Tryz.prog 103 [encH neg a] (encZ (-sg neg (val a))) := by
  have hs := c_signed (!neg) (val a)
  rw [← sg_not]
  rw [encZ_sg] at hs ⊢
  refine pcalls_of_AWR (pa := []) (fn := Tryz.f103) (rs := [.cell 2 44]) follows_mixed Tryz.func103 rfl rfl (by kernel_rfl) (by kernel_rfl) (by rw [Tryz.ntmps103]; simp) ?_
  simp only [go_sem, ↓reduceIte, encH, encW]
  refine callD_p (c_norm a ha hl) ?_
  simp only [go_sem, ↓reduceIte, encH, encW]
  refine callD_p hs ?_
  simp only [go_sem, ↓reduceIte, encW]
  exact .mk (by simp only [go_sem, ↓reduceIte, encW])

theorem sg_add_same (n : Bool) (a b : Nat) : sg n a + sg n b = sg n (a + b) := by cases n <;> simp only [sg_true, sg_false] <;> omega
theorem sg_add_gap (n m : Bool) (a b : Nat) (h : n ≠ m) : sg n a + sg m b = sg (if a < b then m else n) (gapN a b) := by
  unfold gapN
  cases n <;> cases m <;> simp only [ne_eq, not_true_eq_false, reduceCtorEq, not_false_eq_true] at h <;> split <;> simp only [sg_true, sg_false] <;> omega

set_option maxHeartbeats 1000000 in
theorem c_wadd (n : Bool) (a : List Nat) (m : Bool) (b : List Nat) (ha : Wd a) (hb : Wd b) (hla : a.length < 90000) (hlb : b.length < 90000) : PCalls Tryz.prog 65 [encH n a, encH m b] (encZ (sg n (val a) + sg m (val b))) := by
  refine pcalls_of_AWR (pa := []) (fn := Tryz.f65) (rs := [.cell 4 44]) follows_mixed Tryz.func65 rfl rfl (by kernel_rfl) (by kernel_rfl) (by rw [Tryz.ntmps65]; simp) ?_
  by_cases h : n = m
  · subst h
    have hs := c_signed n (val a + val b)
    rw [← sg_add_same] at hs
    have he := encZ_sg n (val a + val b)
    rw [← sg_add_same] at he
    have hadd := c_nadd [a, b] (fun x hx => by
      simp only [List.mem_cons, List.not_mem_nil, or_false] at hx
      rcases hx with rfl | rfl
      · exact ⟨ha, hla⟩
      · exact ⟨hb, hlb⟩) (by simp)
    rw [show sumV [a, b] = val a + val b by simp [sumV]] at hadd
    rw [he] at hs ⊢
    simp only [go_sem, ↓reduceIte, encH, encW]
    refine callD_p hadd ?_
    simp only [go_sem, ↓reduceIte, encW]
    refine callD_p hs ?_
    simp only [go_sem, ↓reduceIte, encW]
    exact .mk (by simp only [go_sem, ↓reduceIte, encW])
  · have hbe : (n == m) = false := by cases n <;> cases m <;> first | rfl | exact absurd rfl h
    have hs := c_signed (if val a < val b then m else n) (gapN (val a) (val b))
    have he := encZ_sg (if val a < val b then m else n) (gapN (val a) (val b))
    rw [sg_add_gap n m _ _ h]
    rw [he] at hs ⊢
    simp only [go_sem, ↓reduceIte, encH, encW, hbe]
    refine callS_p (c_ngap a b ha hb (by omega) (by omega)) ?_
    by_cases hlt : val a < val b
    · rw [if_pos hlt] at hs ⊢
      have hd := dec_true (cmpN_neg.2 hlt)
      simp only [go_sem, ↓reduceIte, encW, hd]
      refine callS_p hs ?_
      simp only [go_sem, ↓reduceIte, encW]
      exact .mk (by simp only [go_sem, ↓reduceIte, encW])
    · rw [if_neg hlt] at hs ⊢
      have hd := dec_false (fun h' => hlt (cmpN_neg.1 h'))
      simp only [go_sem, ↓reduceIte, encW, hd]
      refine callS_p hs ?_
      simp only [go_sem, ↓reduceIte, encW]
      exact .mk (by simp only [go_sem, ↓reduceIte, encW])

theorem c_wsub (n : Bool) (a : List Nat) (m : Bool) (b : List Nat) (ha : Wd a) (hb : Wd b) (hla : a.length < 90000) (hlb : b.length < 90000) : PCalls Tryz.prog 106 [encH n a, encH m b] (encZ (sg n (val a) - sg m (val b))) := by
  have hn := c_wneg m b hb (by omega)
  have hz := encZ_H (-sg m (val b))
  have hab : (-sg m (val b)).natAbs = val b := by rw [Int.natAbs_neg, sg_natAbs]
  have hlb2 := dig_len_val hb
  have hadd := c_wadd n a (decide (-sg m (val b) < 0)) (dig (-sg m (val b)).natAbs) ha (wd_dig _) hla (by rw [hab]; omega)
  rw [val_dig, sg_self, ← Int.sub_eq_add_neg, ← hz] at hadd
  generalize -sg m (val b) = z at *
  have he := encZ_H (sg n (val a) - sg m (val b))
  refine pcalls_of_AWR (pa := []) (fn := Tryz.f106) (rs := [.cell 4 44]) follows_mixed Tryz.func106 rfl rfl (by kernel_rfl) (by kernel_rfl) (by rw [Tryz.ntmps106]; simp) ?_
  simp only [go_sem, ↓reduceIte, encH, encW]
  refine callD_p hn ?_
  simp only [go_sem, ↓reduceIte, encZ, encW]
  refine callD_p hadd ?_
  simp only [go_sem, ↓reduceIte, encZ, encW]
  exact .mk (by simp only [go_sem, ↓reduceIte, encZ, encW])

theorem c_wmul (n : Bool) (a : List Nat) (m : Bool) (b : List Nat) (ha : Wd a) (hb : Wd b) (hla : a.length < 400000) (hlb : b.length < 400000) : PCalls Tryz.prog 80 [encH n a, encH m b] (encZ (sg n (val a) * sg m (val b))) := by
  have hs := c_signed (n != m) (val a * val b)
  have he := encZ_sg (n != m) (val a * val b)
  rw [sg_mul]
  rw [he] at hs ⊢
  refine pcalls_of_AWR (pa := []) (fn := Tryz.f80) (rs := [.cell 4 44]) follows_mixed Tryz.func80 rfl rfl (by kernel_rfl) (by kernel_rfl) (by rw [Tryz.ntmps80]; simp) ?_
  simp only [go_sem, ↓reduceIte, encH, encW]
  refine callD_p (c_mul a b ha hb hla hlb) ?_
  simp only [go_sem, ↓reduceIte, encH, encW]
  refine callD_p hs ?_
  simp only [go_sem, ↓reduceIte, encW]
  exact .mk (by simp only [go_sem, ↓reduceIte, encW])

theorem c_wcmp (n : Bool) (a : List Nat) (m : Bool) (b : List Nat) (ha : Wd a) (hb : Wd b) (hla : a.length < 90000) (hlb : b.length < 90000) : PCalls Tryz.prog 76 [encH n a, encH m b] (.int .i64 (sg n (val a) - sg m (val b)).sign) := by
  have hsub := c_wsub n a m b ha hb hla hlb
  have hlen : (dig (sg n (val a) - sg m (val b)).natAbs).length < 1000000 := by
    have h1 : (sg n (val a) - sg m (val b)).natAbs ≤ val a + val b := by
      have := sg_natAbs n (val a)
      have := sg_natAbs m (val b)
      omega
    have h2 := dig_len_mono h1
    have h3 := dig_add_len (val a) (val b)
    have h4 := dig_len_val ha
    have h5 := dig_len_val hb
    omega
  have hsg := c_wsign (decide (sg n (val a) - sg m (val b) < 0)) (dig (sg n (val a) - sg m (val b)).natAbs) (wd_dig _) hlen
  rw [val_dig, sg_self, ← encZ_H] at hsg
  generalize sg n (val a) - sg m (val b) = z at *
  refine pcalls_of_AW (pa := []) (fn := Tryz.f76) (ts := [4]) follows_mixed Tryz.func76 rfl rfl (by kernel_rfl) (by kernel_rfl) (by rw [Tryz.ntmps76]; simp) ?_
  simp only [go_sem, ↓reduceIte, encH, encW]
  refine callS_p hsub ?_
  simp only [go_sem, ↓reduceIte, encZ, encW]
  refine callS_p hsg ?_
  simp only [go_sem, ↓reduceIte]
  exact .mk (by simp only [go_sem, ↓reduceIte])

end Go.Proofs.YtopmghclhgihfaaGreatDoor

set_option linter.unusedVariables false
set_option linter.unusedSimpArgs false
set_option maxRecDepth 10000
namespace Go.Proofs.YtopmghclhgihfaaGreatDoor
open Go Go.Ab Go.Num

theorem gcd_pos_div {a d : Nat} (hd : d ≠ 0) : decide (0 < a / Nat.gcd a d) = decide (0 < a) := by
  have hg : 0 < Nat.gcd a d := Nat.gcd_pos_of_pos_right _ (Nat.pos_of_ne_zero hd)
  obtain ⟨k, hk⟩ := Nat.gcd_dvd_left a d
  generalize Nat.gcd a d = g at *
  have : a / g = k := by rw [hk, Nat.mul_div_cancel_left _ hg]
  rw [this]
  by_cases h : 0 < k
  · rw [decide_eq_true h, decide_eq_true (by rw [hk]; exact Nat.mul_pos hg h)]
  · have : k = 0 := by omega
    subst this
    rw [hk, Nat.mul_zero]

theorem c_fcancel (neg : Bool) (a d : List Nat) (ha : Wd a) (hd : Wd d) (hla : a.length < 90000) (hld : d.length < 90000) (h0 : val d ≠ 0) : PCalls Tryz.prog 64 [encH neg a, encW d] (encQ (mkRat (sg neg (val a)) (val d))) := by
  have hn := c_wnorm neg (dig (val a / Nat.gcd (val a) (val d))) (wd_dig _) (by
    have := dig_len_mono (Nat.div_le_self (val a) (Nat.gcd (val a) (val d)))
    have := dig_len_val ha
    omega)
  rw [val_dig, encZ_sg, gcd_pos_div h0] at hn
  rw [encQ_mk _ h0, sg_neg, sg_natAbs]
  refine pcalls_of_AWR (pa := []) (fn := Tryz.f64) (rs := [.cell 4 46]) follows_mixed Tryz.func64 rfl rfl (by kernel_rfl) (by kernel_rfl) (by rw [Tryz.ntmps64]; simp) ?_
  simp only [go_sem, ↓reduceIte, encH, encW]
  refine callS_p (c_cancel2 a d ha hd (by omega) (by omega) h0) ?_
  simp only [go_sem, ↓reduceIte, encH, encW]
  refine callS_p hn ?_
  simp only [go_sem, ↓reduceIte, encW]
  exact .mk (by simp only [go_sem, ↓reduceIte, encW])

theorem c_parts' (f : Fr) {k : Nat} (hf : okR k f) (hk : 1 ≤ k) (hk2 : k < 1000000) : ∃ g : Fr, okR k g ∧ val g.d ≠ 0 ∧ rv g = rv f ∧ PCalls Tryz.prog 60 [encR f] (.tup [encH g.neg g.n, encW g.d]) := by
  have hz := c_zero f.d hf.2.1 (by have := hf.2.2.2; omega)
  by_cases h : val f.d = 0
  · refine ⟨⟨false, [], [1]⟩, ⟨.nil, .cons (by decide) .nil, by simp, by simpa using hk⟩, by simp [val], by simp [rv, h, val, sg], ?_⟩
    have ho := c_of 1 (by omega)
    rw [dig_one (by omega) (by decide)] at ho
    refine pcalls_of_AWR (pa := []) (fn := Tryz.f60) (rs := [.cell 2 44, .tmp 3]) follows_mixed Tryz.func60 rfl rfl (by kernel_rfl) (by kernel_rfl) (by rw [Tryz.ntmps60]; simp) ?_
    simp only [go_sem, ↓reduceIte, encR, encW]
    refine callS_p hz ?_
    simp only [go_sem, ↓reduceIte, dec_true h]
    refine callS_p ho ?_
    simp only [go_sem, ↓reduceIte, encW]
    exact .mk_le (u := .tup [.agg [.bool false, .nilsl], encW [1]]) (by simp only [go_sem, ↓reduceIte, encW]) (AV.le_tup' (.cons (AV.le_agg' (.cons (AV.le_refl _) (.cons (AV.le_nil 1) .nil))) (.cons (AV.le_refl _) .nil)))
  · refine ⟨f, hf, h, rfl, ?_⟩
    refine pcalls_of_AWR (pa := []) (fn := Tryz.f60) (rs := [.cell 2 44, .tmp 3]) follows_mixed Tryz.func60 rfl rfl (by kernel_rfl) (by kernel_rfl) (by rw [Tryz.ntmps60]; simp) ?_
    simp only [go_sem, ↓reduceIte, encR, encW]
    refine callS_p hz ?_
    simp only [go_sem, ↓reduceIte, dec_false h]
    exact .mk (by simp only [go_sem, ↓reduceIte, encH, encW])

theorem encQ_int (n : Int) : encQ (n : Rat) = .agg [.bool (decide (n < 0)), encW (dig n.natAbs), encW [1]] := by
  simp only [encQ, encR, cq, Rat.num_intCast, Rat.den_intCast]
  rw [show dig 1 = [1] from dig_one (by decide) (by decide)]
  rfl

theorem c_fof (n : Int) (h1 : -9223372036854775808 ≤ n) (h2 : n ≤ 9223372036854775807) : PCalls Tryz.prog 34 [.int .i64 n] (encQ (n : Rat)) := by
  have hw := c_wof n h1 h2
  have ho := c_of 1 (by omega)
  rw [dig_one (by omega) (by decide)] at ho
  rw [encQ_int]
  refine pcalls_of_AWR (pa := []) (fn := Tryz.f34) (rs := [.cell 2 46]) follows_mixed Tryz.func34 rfl rfl (by kernel_rfl) (by kernel_rfl) (by rw [Tryz.ntmps34]; simp) ?_
  simp only [go_sem, ↓reduceIte]
  refine callS_p hw ?_
  simp only [go_sem, ↓reduceIte, encZ, encW]
  refine callS_p ho ?_
  simp only [go_sem, ↓reduceIte, encW]
  exact .mk (by simp only [go_sem, ↓reduceIte, encW])

theorem c_fnorm (f : Fr) (hf : okR 80000 f) : PCalls Tryz.prog 44 [encR f] (encQ (rv f)) := by
  obtain ⟨g, hg, hd, hv, hp⟩ := c_parts' f hf (by omega) (by omega)
  have hc := c_fcancel g.neg g.n g.d hg.1 hg.2.1 (by have := hg.2.2.1; omega) (by have := hg.2.2.2; omega) hd
  rw [show mkRat (sg g.neg (val g.n)) (val g.d) = rv f from hv] at hc
  refine pcalls_of_AWR (pa := []) (fn := Tryz.f44) (rs := [.cell 2 46]) follows_mixed Tryz.func44 rfl rfl (by kernel_rfl) (by kernel_rfl) (by rw [Tryz.ntmps44]; simp) ?_
  simp only [go_sem, ↓reduceIte, encR, encW]
  refine callS_p hp ?_
  simp only [go_sem, ↓reduceIte, encH, encW]
  refine callS_p hc ?_
  simp only [go_sem, ↓reduceIte, encQ, encR, encW]
  exact .mk (by simp only [go_sem, ↓reduceIte, encQ, encR, encW])

theorem rv_sign (g : Fr) (hd : val g.d ≠ 0) : (rv g).num.sign = (sg g.neg (val g.n)).sign := by
  have h1 := mkRat_num_neg (sg g.neg (val g.n)) hd
  have h2 := Rat.mkRat_eq_zero (n := sg g.neg (val g.n)) hd
  rw [← Rat.num_eq_zero] at h2
  show (mkRat _ _).num.sign = _
  generalize (mkRat (sg g.neg (val g.n)) (val g.d)).num = x at *
  generalize sg g.neg (val g.n) = y at *
  rcases Int.lt_trichotomy y 0 with h | h | h
  · rw [Int.sign_eq_neg_one_of_neg h, Int.sign_eq_neg_one_of_neg (h1.2 h)]
  · rw [h, h2.2 h]
  · have : 0 < x := by
      have a1 : ¬ x < 0 := fun h' => by have := h1.1 h'; omega
      have a2 : x ≠ 0 := fun h' => by have := h2.1 h'; omega
      omega
    rw [Int.sign_eq_one_of_pos h, Int.sign_eq_one_of_pos this]

theorem c_fsign (f : Fr) (hf : okR 80000 f) : PCalls Tryz.prog 35 [encR f] (.int .i64 (rv f).num.sign) := by
  obtain ⟨g, hg, hd, hv, hp⟩ := c_parts' f hf (by omega) (by omega)
  have hs := c_wsign g.neg g.n hg.1 (by have := hg.2.2.1; omega)
  rw [← rv_sign g hd, hv] at hs
  refine pcalls_of_AW (pa := []) (fn := Tryz.f35) (ts := [2]) follows_mixed Tryz.func35 rfl rfl (by kernel_rfl) (by kernel_rfl) (by rw [Tryz.ntmps35]; simp) ?_
  simp only [go_sem, ↓reduceIte, encR, encW]
  refine callS_p hp ?_
  simp only [go_sem, ↓reduceIte, encH, encW]
  refine callS_p hs ?_
  simp only [go_sem, ↓reduceIte]
  exact .mk (by simp only [go_sem, ↓reduceIte])

/-- One's upper number times another one's lower one. -/
theorem c_cross (n : Bool) (a d : List Nat) (ha : Wd a) (hd : Wd d) (hla : a.length < 400000) (hld : d.length < 400000) : PCalls Tryz.prog 66 [encH n a, encW d] (encZ (sg n (val a) * (val d : Nat))) := by
  have hm := c_wmul n a false d ha hd hla hld
  rw [sg_false] at hm
  refine pcalls_of_AWR (pa := []) (fn := Tryz.f66) (rs := [.cell 4 44]) follows_mixed Tryz.func66 rfl rfl (by kernel_rfl) (by kernel_rfl) (by rw [Tryz.ntmps66]; simp) ?_
  simp only [go_sem, ↓reduceIte, encH, encW]
  refine callS_p hm ?_
  simp only [go_sem, ↓reduceIte, encZ, encW]
  exact .mk (by simp only [go_sem, ↓reduceIte, encZ, encW])

theorem natAbs_mul_lt {z w : Int} {a b : Nat} (h1 : z.natAbs < B ^ a) (h2 : w.natAbs < B ^ b) : (dig (z * w).natAbs).length ≤ a + b := by
  apply dig_len_le.2
  rw [Int.natAbs_mul, Nat.pow_add]; exact Nat.mul_lt_mul'' h1 h2
theorem natAbs_add_lt {z w : Int} {a : Nat} (h1 : (dig z.natAbs).length ≤ a) (h2 : (dig w.natAbs).length ≤ a) : (dig (z + w).natAbs).length ≤ a + 1 := by
  have h3 := dig_add_len z.natAbs w.natAbs
  have h4 := dig_len_mono (Int.natAbs_add_le z w)
  omega

/-- What holds of the parts of two fractions. -/
structure Two (f g : Fr) where
  x : Fr
  y : Fr
  hx : okR 20000 x
  hy : okR 20000 y
  dx : val x.d ≠ 0
  dy : val y.d ≠ 0
  vx : rv x = rv f
  vy : rv y = rv g
  px : PCalls Tryz.prog 60 [encR f] (.tup [encH x.neg x.n, encW x.d])
  py : PCalls Tryz.prog 60 [encR g] (.tup [encH y.neg y.n, encW y.d])
theorem two_of {f g : Fr} (hf : okR 20000 f) (hg : okR 20000 g) : Nonempty (Two f g) := by
  obtain ⟨x, h1, h2, h3, h4⟩ := c_parts' f hf (by omega) (by omega)
  obtain ⟨y, k1, k2, k3, k4⟩ := c_parts' g hg (by omega) (by omega)
  exact ⟨⟨x, y, h1, k1, h2, k2, h3, k3, h4, k4⟩⟩

theorem c_fcmp (f g : Fr) (hf : okR 20000 f) (hg : okR 20000 g) : PCalls Tryz.prog 48 [encR f, encR g] (.int .i64 (rv f - rv g).num.sign) := by
  obtain ⟨⟨x, y, hx, hy, dx, dy, vx, vy, px, py⟩⟩ := two_of hf hg
  have lx := rv_lt hx
  have ly := rv_lt hy
  have l1 := natAbs_mul_lt lx.1 (w := (val y.d : Nat)) (b := 20000) (by simpa using ly.2)
  have l2 := natAbs_mul_lt ly.1 (w := (val x.d : Nat)) (b := 20000) (by simpa using lx.2)
  have c1 := c_cross x.neg x.n y.d hx.1 hy.2.1 (by have := hx.2.2.1; omega) (by have := hy.2.2.2; omega)
  have c2 := c_cross y.neg y.n x.d hy.1 hx.2.1 (by have := hy.2.2.1; omega) (by have := hx.2.2.2; omega)
  have hsign : (sg x.neg (val x.n) * (val y.d : Nat) - sg y.neg (val y.n) * (val x.d : Nat)).sign = (rv f - rv g).num.sign := by
    have e : rv f - rv g = mkRat (sg x.neg (val x.n) * (val y.d : Nat) - sg y.neg (val y.n) * (val x.d : Nat)) (val x.d * val y.d) := by
      rw [← vx, ← vy, rv, rv, ← Rat.divInt_ofNat, ← Rat.divInt_ofNat, Rat.divInt_sub_divInt _ _ (by omega) (by omega), ← Rat.divInt_ofNat, Int.natCast_mul]
    rw [e]
    have := rv_sign ⟨decide (sg x.neg (val x.n) * (val y.d : Nat) - sg y.neg (val y.n) * (val x.d : Nat) < 0), dig (sg x.neg (val x.n) * (val y.d : Nat) - sg y.neg (val y.n) * (val x.d : Nat)).natAbs, dig (val x.d * val y.d)⟩ (by rw [val_dig]; exact Nat.mul_ne_zero dx dy)
    simp only [rv, val_dig, sg_self] at this
    exact this.symm
  have hc := fun n a m b => c_wcmp n a m b
  have h3 := c_wcmp (decide (sg x.neg (val x.n) * (val y.d : Nat) < 0)) (dig (sg x.neg (val x.n) * (val y.d : Nat)).natAbs) (decide (sg y.neg (val y.n) * (val x.d : Nat) < 0)) (dig (sg y.neg (val y.n) * (val x.d : Nat)).natAbs) (wd_dig _) (wd_dig _) (by omega) (by omega)
  rw [val_dig, val_dig, sg_self, sg_self, ← encZ_H, ← encZ_H, hsign] at h3
  generalize sg x.neg (val x.n) * (val y.d : Nat) = z at *
  generalize sg y.neg (val y.n) * (val x.d : Nat) = w at *
  refine pcalls_of_AW (pa := []) (fn := Tryz.f48) (ts := [4]) follows_mixed Tryz.func48 rfl rfl (by kernel_rfl) (by kernel_rfl) (by rw [Tryz.ntmps48]; simp) ?_
  simp only [go_sem, ↓reduceIte, encR, encW]
  refine callS_p px ?_
  simp only [go_sem, ↓reduceIte, encH, encR, encW]
  refine callS_p py ?_
  simp only [go_sem, ↓reduceIte, encH, encW]
  refine callD_p c1 ?_
  simp only [go_sem, ↓reduceIte, encH, encZ, encW]
  refine callD_p c2 ?_
  simp only [go_sem, ↓reduceIte, encH, encZ, encW]
  refine callD_p h3 ?_
  simp only [go_sem, ↓reduceIte]
  exact .mk (by simp only [go_sem, ↓reduceIte])

theorem sign_zero_sub {a b : Rat} : (a - b).num.sign = 0 ↔ a = b := by
  rw [Int.sign_eq_zero_iff_zero, Rat.num_eq_zero]
  constructor
  · intro h
    have := congrArg (· + b) h
    simpa [Rat.sub_add_cancel, Rat.zero_add] using this
  · intro h; subst h; exact Rat.sub_self

theorem c_fsame (f g : Fr) (hf : okR 20000 f) (hg : okR 20000 g) : PCalls Tryz.prog 17 [encR f, encR g] (.bool (decide (rv f = rv g))) := by
  have hc := c_fcmp f g hf hg
  have he : decide ((rv f - rv g).num.sign = 0) = decide (rv f = rv g) := by
    by_cases h : rv f = rv g
    · rw [decide_eq_true h, decide_eq_true (sign_zero_sub.2 h)]
    · rw [decide_eq_false h, decide_eq_false (fun h' => h (sign_zero_sub.1 h'))]
  refine pcalls_of_AW (pa := []) (fn := Tryz.f17) (ts := [4]) follows_mixed Tryz.func17 rfl rfl (by kernel_rfl) (by kernel_rfl) (by rw [Tryz.ntmps17]; simp) ?_
  simp only [go_sem, ↓reduceIte, encR, encW]
  refine callS_p hc ?_
  simp only [go_sem, ↓reduceIte, beq_int, he]
  exact .mk (by simp only [go_sem, ↓reduceIte])

end Go.Proofs.YtopmghclhgihfaaGreatDoor

set_option linter.unusedVariables false
set_option linter.unusedSimpArgs false
set_option maxRecDepth 10000
namespace Go.Proofs.YtopmghclhgihfaaGreatDoor
open Go Go.Ab Go.Num

theorem c_fneg (f : Fr) (hf : okR 80000 f) : PCalls Tryz.prog 73 [encR f] (encQ (-rv f)) := by
  have hn := c_fnorm f hf
  have hw := qw_rv hf (by omega)
  have hl : (dig (rv f).num.natAbs).length < 1000000 := by unfold qw at hw; omega
  have h2 := c_wneg (decide ((rv f).num < 0)) (dig (rv f).num.natAbs) (wd_dig _) hl
  rw [val_dig, sg_self, ← Rat.neg_num] at h2
  have hd : (-rv f).den = (rv f).den := Rat.neg_den _
  simp only [encQ, cq] at hn ⊢
  rw [hd]
  refine pcalls_of_AWR (pa := []) (fn := Tryz.f73) (rs := [.cell 2 46]) follows_mixed Tryz.func73 rfl rfl (by kernel_rfl) (by kernel_rfl) (by rw [Tryz.ntmps73]; simp) ?_
  simp only [go_sem, ↓reduceIte, encR, encW]
  refine callS_p hn ?_
  simp only [go_sem, ↓reduceIte, encR, encW]
  refine callS_p h2 ?_
  simp only [go_sem, ↓reduceIte, encZ, encW]
  exact .mk (by simp only [go_sem, ↓reduceIte, encR, encZ, encW])

theorem okZ (z : Int) {k : Nat} (h : (dig z.natAbs).length ≤ k) : (dig z.natAbs).length ≤ k := h

theorem add_mk {x y : Fr} (dx : val x.d ≠ 0) (dy : val y.d ≠ 0) : rv x + rv y = mkRat (sg x.neg (val x.n) * (val y.d : Nat) + sg y.neg (val y.n) * (val x.d : Nat)) (val x.d * val y.d) := by
  rw [rv, rv, Rat.mkRat_add_mkRat _ _ dx dy]
theorem sub_mk {x y : Fr} (dx : val x.d ≠ 0) (dy : val y.d ≠ 0) : rv x - rv y = mkRat (sg x.neg (val x.n) * (val y.d : Nat) - sg y.neg (val y.n) * (val x.d : Nat)) (val x.d * val y.d) := by
  rw [rv, rv, ← Rat.divInt_ofNat, ← Rat.divInt_ofNat, Rat.divInt_sub_divInt _ _ (by omega) (by omega), ← Rat.divInt_ofNat, Int.natCast_mul]
theorem mul_mk {x y : Fr} : rv x * rv y = mkRat (sg x.neg (val x.n) * sg y.neg (val y.n)) (val x.d * val y.d) := by
  rw [rv, rv, Rat.mkRat_mul_mkRat]

/-- The right fraction of a whole number and a list of words. -/
theorem c_fcancelZ (z : Int) (m : Nat) (hz : (dig z.natAbs).length < 90000) (hm : (dig m).length < 90000) (h0 : m ≠ 0) : PCalls Tryz.prog 64 [encZ z, encW (dig m)] (encQ (mkRat z m)) := by
  have h := c_fcancel (decide (z < 0)) (dig z.natAbs) (dig m) (wd_dig _) (wd_dig _) hz hm (by rw [val_dig]; exact h0)
  rw [val_dig, val_dig, sg_self] at h
  exact h

theorem c_fadd (f g : Fr) (hf : okR 20000 f) (hg : okR 20000 g) : PCalls Tryz.prog 38 [encR f, encR g] (encQ (rv f + rv g)) := by
  obtain ⟨⟨x, y, hx, hy, dx, dy, vx, vy, px, py⟩⟩ := two_of hf hg
  have lx := rv_lt hx
  have ly := rv_lt hy
  have lxn := hx.2.2.1
  have lxd := hx.2.2.2
  have lyn := hy.2.2.1
  have lyd := hy.2.2.2
  have hdd : val x.d * val y.d ≠ 0 := Nat.mul_ne_zero dx dy
  have hmd := c_mul x.d y.d hx.2.1 hy.2.1 (by omega) (by omega)
  have hml := dig_mul_len (val x.d) (val y.d)
  have hxd := dig_len_val hx.2.1
  have hyd := dig_len_val hy.2.1
  have l1 := natAbs_mul_lt lx.1 (w := (val y.d : Nat)) (b := 20000) (by simpa using ly.2)
  have l2 := natAbs_mul_lt ly.1 (w := (val x.d : Nat)) (b := 20000) (by simpa using lx.2)
  have c1 := c_cross x.neg x.n y.d hx.1 hy.2.1 (by omega) (by omega)
  have c2 := c_cross y.neg y.n x.d hy.1 hx.2.1 (by omega) (by omega)
  have h3 := c_wadd (decide (sg x.neg (val x.n) * (val y.d : Nat) < 0)) (dig (sg x.neg (val x.n) * (val y.d : Nat)).natAbs) (decide (sg y.neg (val y.n) * (val x.d : Nat) < 0)) (dig (sg y.neg (val y.n) * (val x.d : Nat)).natAbs) (wd_dig _) (wd_dig _) (by omega) (by omega)
  rw [val_dig, val_dig, sg_self, sg_self, ← encZ_H, ← encZ_H] at h3
  have l3 := natAbs_add_lt l1 l2
  have h4 := c_fcancelZ _ _ (show (dig (sg x.neg (val x.n) * (val y.d : Nat) + sg y.neg (val y.n) * (val x.d : Nat)).natAbs).length < 90000 by omega) (show (dig (val x.d * val y.d)).length < 90000 by omega) hdd
  rw [← add_mk dx dy, vx, vy] at h4
  generalize sg x.neg (val x.n) * (val y.d : Nat) = z at *
  generalize sg y.neg (val y.n) * (val x.d : Nat) = w at *
  refine pcalls_of_AWR (pa := []) (fn := Tryz.f38) (rs := [.cell 4 46]) follows_mixed Tryz.func38 rfl rfl (by kernel_rfl) (by kernel_rfl) (by rw [Tryz.ntmps38]; simp) ?_
  simp only [go_sem, ↓reduceIte, encR, encW]
  refine callS_p px ?_
  simp only [go_sem, ↓reduceIte, encH, encR, encW]
  refine callS_p py ?_
  simp only [go_sem, ↓reduceIte, encH, encW]
  refine callD_p c1 ?_
  simp only [go_sem, ↓reduceIte, encH, encZ, encW]
  refine callD_p c2 ?_
  simp only [go_sem, ↓reduceIte, encH, encZ, encW]
  refine callD_p h3 ?_
  simp only [go_sem, ↓reduceIte, encZ, encW]
  refine callD_p hmd ?_
  simp only [go_sem, ↓reduceIte, encZ, encW]
  refine callD_p h4 ?_
  simp only [go_sem, ↓reduceIte, encQ, encR, encW]
  exact .mk (by simp only [go_sem, ↓reduceIte, encQ, encR, encW])

theorem c_fsub (f g : Fr) (hf : okR 20000 f) (hg : okR 20000 g) : PCalls Tryz.prog 186 [encR f, encR g] (encQ (rv f - rv g)) := by
  obtain ⟨⟨x, y, hx, hy, dx, dy, vx, vy, px, py⟩⟩ := two_of hf hg
  have lx := rv_lt hx
  have ly := rv_lt hy
  have lxn := hx.2.2.1
  have lxd := hx.2.2.2
  have lyn := hy.2.2.1
  have lyd := hy.2.2.2
  have hdd : val x.d * val y.d ≠ 0 := Nat.mul_ne_zero dx dy
  have hmd := c_mul x.d y.d hx.2.1 hy.2.1 (by omega) (by omega)
  have hml := dig_mul_len (val x.d) (val y.d)
  have hxd := dig_len_val hx.2.1
  have hyd := dig_len_val hy.2.1
  have l1 := natAbs_mul_lt lx.1 (w := (val y.d : Nat)) (b := 20000) (by simpa using ly.2)
  have l2 := natAbs_mul_lt ly.1 (w := (val x.d : Nat)) (b := 20000) (by simpa using lx.2)
  have c1 := c_cross x.neg x.n y.d hx.1 hy.2.1 (by omega) (by omega)
  have c2 := c_cross y.neg y.n x.d hy.1 hx.2.1 (by omega) (by omega)
  have h3 := c_wsub (decide (sg x.neg (val x.n) * (val y.d : Nat) < 0)) (dig (sg x.neg (val x.n) * (val y.d : Nat)).natAbs) (decide (sg y.neg (val y.n) * (val x.d : Nat) < 0)) (dig (sg y.neg (val y.n) * (val x.d : Nat)).natAbs) (wd_dig _) (wd_dig _) (by omega) (by omega)
  rw [val_dig, val_dig, sg_self, sg_self, ← encZ_H, ← encZ_H] at h3
  have l3 := natAbs_add_lt l1 (w := -(sg y.neg (val y.n) * (val x.d : Nat))) (by rw [Int.natAbs_neg]; exact l2)
  rw [← Int.sub_eq_add_neg] at l3
  have h4 := c_fcancelZ _ _ (show (dig (sg x.neg (val x.n) * (val y.d : Nat) - sg y.neg (val y.n) * (val x.d : Nat)).natAbs).length < 90000 by omega) (show (dig (val x.d * val y.d)).length < 90000 by omega) hdd
  rw [← sub_mk dx dy, vx, vy] at h4
  generalize sg x.neg (val x.n) * (val y.d : Nat) = z at *
  generalize sg y.neg (val y.n) * (val x.d : Nat) = w at *
  refine pcalls_of_AWR (pa := []) (fn := Tryz.f186) (rs := [.cell 4 46]) follows_mixed Tryz.func186 rfl rfl (by kernel_rfl) (by kernel_rfl) (by rw [Tryz.ntmps186]; simp) ?_
  simp only [go_sem, ↓reduceIte, encR, encW]
  refine callS_p px ?_
  simp only [go_sem, ↓reduceIte, encH, encR, encW]
  refine callS_p py ?_
  simp only [go_sem, ↓reduceIte, encH, encW]
  refine callD_p c1 ?_
  simp only [go_sem, ↓reduceIte, encH, encZ, encW]
  refine callD_p c2 ?_
  simp only [go_sem, ↓reduceIte, encH, encZ, encW]
  refine callD_p h3 ?_
  simp only [go_sem, ↓reduceIte, encZ, encW]
  refine callD_p hmd ?_
  simp only [go_sem, ↓reduceIte, encZ, encW]
  refine callD_p h4 ?_
  simp only [go_sem, ↓reduceIte, encQ, encR, encW]
  exact .mk (by simp only [go_sem, ↓reduceIte, encQ, encR, encW])

theorem c_fmul (f g : Fr) (hf : okR 20000 f) (hg : okR 20000 g) : PCalls Tryz.prog 50 [encR f, encR g] (encQ (rv f * rv g)) := by
  obtain ⟨⟨x, y, hx, hy, dx, dy, vx, vy, px, py⟩⟩ := two_of hf hg
  have lx := rv_lt hx
  have ly := rv_lt hy
  have lxn := hx.2.2.1
  have lxd := hx.2.2.2
  have lyn := hy.2.2.1
  have lyd := hy.2.2.2
  have hdd : val x.d * val y.d ≠ 0 := Nat.mul_ne_zero dx dy
  have hmd := c_mul x.d y.d hx.2.1 hy.2.1 (by omega) (by omega)
  have hml := dig_mul_len (val x.d) (val y.d)
  have hxd := dig_len_val hx.2.1
  have hyd := dig_len_val hy.2.1
  have h3 := c_wmul x.neg x.n y.neg y.n hx.1 hy.1 (by omega) (by omega)
  have l3 := natAbs_mul_lt lx.1 ly.1
  have h4 := c_fcancelZ _ _ (show (dig (sg x.neg (val x.n) * sg y.neg (val y.n)).natAbs).length < 90000 by omega) (show (dig (val x.d * val y.d)).length < 90000 by omega) hdd
  rw [← mul_mk, vx, vy] at h4
  generalize sg x.neg (val x.n) * sg y.neg (val y.n) = z at *
  refine pcalls_of_AWR (pa := []) (fn := Tryz.f50) (rs := [.cell 4 46]) follows_mixed Tryz.func50 rfl rfl (by kernel_rfl) (by kernel_rfl) (by rw [Tryz.ntmps50]; simp) ?_
  simp only [go_sem, ↓reduceIte, encR, encW]
  refine callS_p px ?_
  simp only [go_sem, ↓reduceIte, encH, encR, encW]
  refine callS_p py ?_
  simp only [go_sem, ↓reduceIte, encH, encW]
  refine callS_p h3 ?_
  simp only [go_sem, ↓reduceIte, encZ, encW]
  refine callS_p hmd ?_
  simp only [go_sem, ↓reduceIte, encZ, encW]
  refine callS_p h4 ?_
  simp only [go_sem, ↓reduceIte, encQ, encR, encW]
  exact .mk (by simp only [go_sem, ↓reduceIte, encQ, encR, encW])

theorem c_fsize (f : Fr) (hf : okR 80000 f) : PCalls Tryz.prog 71 [encR f] (.int .i64 (blen (val f.n) + blen (val f.d) : Nat)) := by
  have h1 := blen_dig_len (val f.n)
  have h2 := blen_dig_len (val f.d)
  have h3 := dig_len_val hf.1
  have h4 := dig_len_val hf.2.1
  have h5 := hf.2.2.1
  have h6 := hf.2.2.2
  have w1 : IntKind.i64.wrap (((blen (val f.n) : Nat) : Int) + (blen (val f.d) : Nat)) = ((blen (val f.n) + blen (val f.d) : Nat) : Int) := by rw [wrap64_id (by omega) (by omega)]; rfl
  refine pcalls_of_AW (pa := []) (fn := Tryz.f71) (ts := [2]) follows_mixed Tryz.func71 rfl rfl (by kernel_rfl) (by kernel_rfl) (by rw [Tryz.ntmps71]; simp) ?_
  simp only [go_sem, ↓reduceIte, encR, encW]
  refine callD_p (c_tlen f.n hf.1 (by omega)) ?_
  simp only [go_sem, ↓reduceIte, encR, encW]
  refine callD_p (c_tlen f.d hf.2.1 (by omega)) ?_
  simp only [go_sem, ↓reduceIte, w1]
  exact .mk (by simp only [go_sem, ↓reduceIte])

/-! ### Quotients and powers -/
theorem neg_mk_eq {z : Int} {e d m : Nat} (n : Bool) (hm : m ≠ 0) (hd : d ≠ 0) (he : e ≠ 0) : mkRat z d / mkRat (sg n m) e = mkRat (sg n 1 * (z * (e : Nat))) (d * m) := by
  have hs : sg n m = sg n 1 * (m : Int) := by cases n <;> simp [sg]
  rw [Rat.div_def, ← Rat.divInt_ofNat, ← Rat.divInt_ofNat, ← Rat.divInt_ofNat, Rat.inv_divInt, Rat.divInt_mul_divInt, hs]
  cases n
  · simp only [sg_false]
    simp [Int.mul_comm]
  · simp only [sg_true]
    rw [show (d : Int) * (-((1 : Nat) : Int) * (m : Int)) = -(((d * m : Nat) : Int)) by simp [Int.neg_mul, Int.mul_neg]]
    rw [show (-((1 : Nat) : Int)) * (z * (e : Nat)) = -(z * (e : Nat)) by simp [Int.neg_mul], Rat.divInt_neg']

theorem c_fquo0 (f g : Fr) (hf : okR 20000 f) (hg : okR 20000 g) (h0 : rv g = 0) : PCalls Tryz.prog 104 [encR f, encR g] (.tup [encQ 0, .bool false]) := by
  obtain ⟨⟨x, y, hx, hy, dx, dy, vx, vy, px, py⟩⟩ := two_of hf hg
  have lx := rv_lt hx
  have ly := rv_lt hy
  have lxn := hx.2.2.1
  have lxd := hx.2.2.2
  have lyn := hy.2.2.1
  have lyd := hy.2.2.2
  have hdd : val x.d * val y.d ≠ 0 := Nat.mul_ne_zero dx dy
  have hmd := c_mul x.d y.d hx.2.1 hy.2.1 (by omega) (by omega)
  have hml := dig_mul_len (val x.d) (val y.d)
  have hxd := dig_len_val hx.2.1
  have hyd := dig_len_val hy.2.1
  have hs := c_wsign y.neg y.n hy.1 (by omega)
  rw [← rv_sign y dy, vy, h0] at hs
  have ho := c_fof 0 (by omega) (by omega)
  refine pcalls_of_AWR (pa := []) (fn := Tryz.f104) (rs := [.cell 4 46, .tmp 5]) follows_mixed Tryz.func104 rfl rfl (by kernel_rfl) (by kernel_rfl) (by rw [Tryz.ntmps104]; simp) ?_
  simp only [go_sem, ↓reduceIte, encR, encW]
  refine callS_p px ?_
  simp only [go_sem, ↓reduceIte, encH, encR, encW]
  refine callS_p py ?_
  simp only [go_sem, ↓reduceIte, encH, encW]
  refine callS_p hs ?_
  simp only [go_sem, ↓reduceIte, show (0 : Rat).num.sign = 0 from rfl]
  refine callS_p ho ?_
  simp only [go_sem, ↓reduceIte, encQ, encR, encW]
  exact .mk (by simp only [go_sem, ↓reduceIte, encQ, encR, encW] <;> rfl)

theorem xor_sg (z : Int) (m : Bool) : sg (decide (z < 0) != m) z.natAbs = sg m 1 * z := by
  conv => rhs; rw [← sg_self z]
  rw [Int.mul_comm, sg_mul, Nat.mul_one]

set_option maxHeartbeats 1000000 in
theorem c_fquo (f g : Fr) (hf : okR 20000 f) (hg : okR 20000 g) (h0 : rv g ≠ 0) : PCalls Tryz.prog 104 [encR f, encR g] (.tup [encQ (rv f / rv g), .bool true]) := by
  obtain ⟨⟨x, y, hx, hy, dx, dy, vx, vy, px, py⟩⟩ := two_of hf hg
  have lx := rv_lt hx
  have ly := rv_lt hy
  have lxn := hx.2.2.1
  have lxd := hx.2.2.2
  have lyn := hy.2.2.1
  have lyd := hy.2.2.2
  have hdd : val x.d * val y.d ≠ 0 := Nat.mul_ne_zero dx dy
  have hmd := c_mul x.d y.d hx.2.1 hy.2.1 (by omega) (by omega)
  have hml := dig_mul_len (val x.d) (val y.d)
  have hxd := dig_len_val hx.2.1
  have hyd := dig_len_val hy.2.1
  have l1 := natAbs_mul_lt lx.1 (w := (val y.d : Nat)) (b := 20000) (by simpa using ly.2)
  have c1 := c_cross x.neg x.n y.d hx.1 hy.2.1 (by omega) (by omega)
  have hs := c_wsign y.neg y.n hy.1 (by omega)
  rw [← rv_sign y dy, vy] at hs
  have hs0 : (rv g).num.sign ≠ 0 := by rw [Ne, Int.sign_eq_zero_iff_zero, Rat.num_eq_zero]; exact h0
  have hyn : val y.n ≠ 0 := fun e => h0 (by rw [← vy, rv, e, sg_zero, Rat.zero_mkRat])
  have hm2 := c_mul x.d y.n hx.2.1 hy.1 (by omega) (by omega)
  have hml2 := dig_mul_len (val x.d) (val y.n)
  have hyn2 := dig_len_val hy.1
  have h4 := c_fcancel (decide (sg x.neg (val x.n) * (val y.d : Nat) < 0) != y.neg) (dig (sg x.neg (val x.n) * (val y.d : Nat)).natAbs) (dig (val x.d * val y.n)) (wd_dig _) (wd_dig _) (by omega) (by omega) (by rw [val_dig]; exact Nat.mul_ne_zero dx hyn)
  rw [val_dig, val_dig, xor_sg, ← neg_mk_eq y.neg hyn dx dy] at h4
  rw [show mkRat (sg x.neg (val x.n)) (val x.d) = rv f from vx, show mkRat (sg y.neg (val y.n)) (val y.d) = rv g from vy] at h4
  generalize sg x.neg (val x.n) * (val y.d : Nat) = z at *
  refine pcalls_of_AWR (pa := []) (fn := Tryz.f104) (rs := [.cell 4 46, .tmp 5]) follows_mixed Tryz.func104 rfl rfl (by kernel_rfl) (by kernel_rfl) (by rw [Tryz.ntmps104]; simp) ?_
  simp only [go_sem, ↓reduceIte, encR, encW]
  refine callS_p px ?_
  simp only [go_sem, ↓reduceIte, encH, encR, encW]
  refine callS_p py ?_
  simp only [go_sem, ↓reduceIte, encH, encW]
  refine callS_p hs ?_
  simp only [go_sem, ↓reduceIte, beq_int, dec_false hs0, encH, encW]
  refine callS_p c1 ?_
  simp only [go_sem, ↓reduceIte, encZ, encH, encW]
  refine callD_p hm2 ?_
  simp only [go_sem, ↓reduceIte, encZ, encH, encW]
  refine callD_p h4 ?_
  simp only [go_sem, ↓reduceIte, encQ, encR, encW]
  exact .mk (by simp only [go_sem, ↓reduceIte, encQ, encR, encW])

set_option maxHeartbeats 1000000 in
theorem c_power (a : List Nat) (e : Nat) (ha : Wd a) (hl : a.length ≤ 20000) (he : e ≤ 8) : PCalls Tryz.prog 125 [encW a, .int .i64 (e : Nat)] (encW (dig (val a ^ e))) := by
  refine pcalls_of_AW (pa := []) (fn := Tryz.f125) (ts := [4]) follows_mixed Tryz.func125 rfl rfl (by kernel_rfl) (by kernel_rfl) (by rw [Tryz.ntmps125]; simp) ?_
  have h1 := c_of 1 (by omega)
  have hlen : ∀ i, (dig (val a ^ i)).length ≤ i * 20000 + 1 := fun i => by
    induction i with
    | zero => rw [Nat.pow_zero]; exact dig_len_le.2 (by decide)
    | succ i ih =>
      rw [Nat.pow_succ]
      have := dig_mul_len (val a ^ i) (val a)
      have := dig_len_val ha
      omega
  simp only [go_sem, ↓reduceIte]
  refine callS_p h1 ?_
  simp only [go_sem, ↓reduceIte, encW]
  refine AW_while (fun m st => ∃ i, i + m = e ∧ st.τ 0 = encW a ∧ st.τ 5 = encW (dig (val a ^ i)) ∧ st.τ 7 = .int .i64 (e : Nat) ∧ st.τ 8 = .int .i64 (i : Nat)) e ?_ ?_
  · exact ⟨0, by omega, by simp only [go_sem, ↓reduceIte, encW], by rw [Nat.pow_zero]; simp only [go_sem, ↓reduceIte, encW], by simp only [go_sem, ↓reduceIte], by simp only [go_sem, ↓reduceIte] <;> rfl⟩
  · rintro m st ⟨i, hi, t0, t5, t7, t8⟩ next
    by_cases hlt : i < e
    · have hlt' : ((i : Nat) : Int) < (e : Nat) := by omega
      have hli := hlen i
      have hm := c_mul (dig (val a ^ i)) a (wd_dig _) ha (by omega) (by omega)
      rw [val_dig, ← Nat.pow_succ] at hm
      simp only [go_sem, ↓reduceIte, t0, t5, t7, t8, hlt', encW]
      refine callS_p hm ?_
      simp only [go_sem, ↓reduceIte, t0, t5, t7, t8, encW]
      exact next (m - 1) _ (by omega) ⟨i + 1, by omega, by simp only [go_sem, ↓reduceIte, t0, encW], by simp only [go_sem, ↓reduceIte, encW], by simp only [go_sem, ↓reduceIte, t7], by simp only [go_sem, ↓reduceIte]; rw [wrap64_id (by omega) (by omega)]; rfl⟩
    · have hlt' := dec_false (show ¬ ((i : Nat) : Int) < (e : Nat) by omega)
      have : i = e := by omega
      subst this
      simp only [go_sem, ↓reduceIte, t0, t5, t7, t8, hlt', encW]
      exact .mk (by simp only [go_sem, ↓reduceIte, encW])

end Go.Proofs.YtopmghclhgihfaaGreatDoor

set_option linter.unusedVariables false
set_option linter.unusedSimpArgs false
set_option maxRecDepth 10000
namespace Go.Proofs.YtopmghclhgihfaaGreatDoor
open Go Go.Ab Go.Num

def powQ (q : Rat) (e : Int) : Rat := if e < 0 then (q ^ e.natAbs)⁻¹ else q ^ e.natAbs

theorem pow_sg (n : Bool) (m t : Nat) : (sg n m) ^ t = sg (n && decide (t % 2 = 1)) (m ^ t) := by
  induction t with
  | zero => cases n <;> simp [sg]
  | succ t ih =>
    rw [Int.pow_succ, ih, sg_mul, ← Nat.pow_succ]
    congr 1
    have : t % 2 = 0 ∨ t % 2 = 1 := by omega
    cases n
    · rfl
    · rcases this with h | h
      · rw [h, show (t + 1) % 2 = 1 by omega]; rfl
      · rw [h, show (t + 1) % 2 = 0 by omega]; rfl

theorem powQ_nonneg {q : Rat} {e : Int} (h : ¬ e < 0) : encQ (powQ q e) = .agg [.bool ((decide (q.num < 0) && decide (e.natAbs % 2 = 1)) && decide (0 < q.num.natAbs ^ e.natAbs)), encW (dig (q.num.natAbs ^ e.natAbs)), encW (dig (q.den ^ e.natAbs))] := by
  have hn : (q ^ e.natAbs).num = sg (decide (q.num < 0) && decide (e.natAbs % 2 = 1)) (q.num.natAbs ^ e.natAbs) := by
    rw [Rat.num_pow]; conv => lhs; rw [← sg_self q.num]
    exact pow_sg _ _ _
  simp only [powQ, if_neg h, encQ, encR, cq, hn, sg_neg, sg_natAbs, Rat.den_pow]
theorem powQ_neg {q : Rat} {e : Int} (h : e < 0) (hq : q ≠ 0) : encQ (powQ q e) = .agg [.bool ((decide (q.num < 0) && decide (e.natAbs % 2 = 1)) && decide (0 < q.den ^ e.natAbs)), encW (dig (q.den ^ e.natAbs)), encW (dig (q.num.natAbs ^ e.natAbs))] := by
  have hn : (q ^ e.natAbs).num = sg (decide (q.num < 0) && decide (e.natAbs % 2 = 1)) (q.num.natAbs ^ e.natAbs) := by
    rw [Rat.num_pow]; conv => lhs; rw [← sg_self q.num]
    exact pow_sg _ _ _
  have hq0 : q.num.natAbs ≠ 0 := by rw [Ne, Int.natAbs_eq_zero, Rat.num_eq_zero]; exact hq
  have hp0 : q.num.natAbs ^ e.natAbs ≠ 0 := Nat.ne_of_gt (Nat.pow_pos (Nat.pos_of_ne_zero hq0))
  have hn0 : (q ^ e.natAbs).num ≠ 0 := by rw [hn, Ne, sg_eq_zero]; exact hp0
  have hs : (q ^ e.natAbs)⁻¹.num = sg (decide (q.num < 0) && decide (e.natAbs % 2 = 1)) (q.den ^ e.natAbs) := by
    rw [Rat.num_inv, hn, sg_sign, if_neg hp0, Rat.den_pow]
    cases (decide (q.num < 0) && decide (e.natAbs % 2 = 1)) <;> simp [sg]
  have hd : (q ^ e.natAbs)⁻¹.den = q.num.natAbs ^ e.natAbs := by rw [Rat.den_inv, if_neg hn0, hn, sg_natAbs]
  simp only [powQ, if_pos h, encQ, encR, cq, hs, hd, sg_neg, sg_natAbs]

theorem qw_powQ (q : Rat) (e : Int) (he : e.natAbs ≤ 8) : qw (powQ q e) ≤ 8 * qw q := by
  have h := qw_pow q e.natAbs
  have h2 := qw_inv (q ^ e.natAbs)
  have h3 : e.natAbs * qw q ≤ 8 * qw q := Nat.mul_le_mul_right _ he
  have h4 := qw_pos q
  unfold powQ
  split <;> omega

set_option maxRecDepth 10000 in
set_option maxHeartbeats 1000000 in
theorem c_fpow0 (f : Fr) (e : Int) (hf : okR 20000 f) (h : e < -8 ∨ 8 < e ∨ (e < 0 ∧ rv f = 0)) : PCalls Tryz.prog 105 [encR f, .int .i64 e] (.tup [encQ 0, .bool false]) := by
  have hs := c_fsign f (hf.mono (by omega))
  have ho := c_fof 0 (by omega) (by omega)
  rw [show ((0 : Int) : Rat) = 0 from rfl] at ho
  refine pcalls_of_AWR (pa := []) (fn := Tryz.f105) (rs := [.cell 4 46, .tmp 5]) follows_mixed Tryz.func105 rfl rfl (by kernel_rfl) (by kernel_rfl) (by rw [Tryz.ntmps105]; simp) ?_
  by_cases h1 : e < -8
  · simp only [go_sem, ↓reduceIte, dec_true h1, encR, encW]
    refine callS_p ho ?_
    simp only [go_sem, ↓reduceIte, encQ, encR, encW]
    exact .mk (by simp only [go_sem, ↓reduceIte, encQ, encR, encW])
  · by_cases h2 : 8 < e
    · simp only [go_sem, ↓reduceIte, dec_false h1, dec_true h2, encR, encW]
      refine callS_p ho ?_
      simp only [go_sem, ↓reduceIte, encQ, encR, encW]
      exact .mk (by simp only [go_sem, ↓reduceIte, encQ, encR, encW])
    · have h3 : e < 0 ∧ rv f = 0 := by rcases h with h | h | h; exact absurd h h1; exact absurd h h2; exact h
      rw [h3.2] at hs
      simp only [go_sem, ↓reduceIte, dec_false h1, dec_false h2, dec_true h3.1, encR, encW]
      refine callS_p hs ?_
      simp only [go_sem, ↓reduceIte, show (0 : Rat).num.sign = 0 from rfl]
      refine callS_p ho ?_
      simp only [go_sem, ↓reduceIte, encQ, encR, encW]
      exact .mk (by simp only [go_sem, ↓reduceIte, encQ, encR, encW])

set_option maxRecDepth 10000 in
set_option maxHeartbeats 2000000 in
theorem c_fpow (f : Fr) (e : Int) (hf : okR 9000 f) (h1 : -8 ≤ e) (h2 : e ≤ 8) (h3 : e < 0 → rv f ≠ 0) : PCalls Tryz.prog 105 [encR f, .int .i64 e] (.tup [encQ (powQ (rv f) e), .bool true]) := by
  have hs := c_fsign f (hf.mono (by omega))
  have hn := c_fnorm f (hf.mono (by omega))
  have hw := qw_rv hf (by omega)
  have hl1 : (dig (rv f).num.natAbs).length ≤ 9000 := by unfold qw at hw; omega
  have hl2 : (dig (rv f).den).length ≤ 9000 := by unfold qw at hw; omega
  have hp1 := c_power (dig (rv f).num.natAbs) e.natAbs (wd_dig _) (by omega) (by omega)
  have hp2 := c_power (dig (rv f).den) e.natAbs (wd_dig _) (by omega) (by omega)
  have hlen : ∀ m t, (dig m).length ≤ 9000 → t ≤ 8 → (dig (m ^ t)).length < 1000000 := fun m t hm ht => by
    have : ∀ i, (dig (m ^ i)).length ≤ i * 9000 + 1 := fun i => by
      induction i with
      | zero => rw [Nat.pow_zero]; exact dig_len_le.2 (by decide)
      | succ i ih => rw [Nat.pow_succ]; have := dig_mul_len (m ^ i) m; omega
    have := this t
    omega
  rw [val_dig] at hp1 hp2
  generalize rv f = q at *
  have hu1 := fun neg => c_wnorm neg (dig (q.num.natAbs ^ e.natAbs)) (wd_dig _) (hlen _ _ hl1 (by omega))
  have hu2 := fun neg => c_wnorm neg (dig (q.den ^ e.natAbs)) (wd_dig _) (hlen _ _ hl2 (by omega))
  simp only [val_dig, encZ_sg] at hu1 hu2
  have wn : IntKind.i64.wrap (0 - e) = -e := by rw [wrap64_id (by omega) (by omega)]; omega
  have g1 := dec_false (show ¬ e < -8 by omega)
  have g2 := dec_false (show ¬ 8 < e by omega)
  have hodd : decide ((((e.natAbs % 2 : Nat) : Int)) = 1) = decide (e.natAbs % 2 = 1) := by
    by_cases h : e.natAbs % 2 = 1
    · rw [decide_eq_true h]; exact decide_eq_true (by omega)
    · rw [decide_eq_false h]; exact decide_eq_false (by omega)
  have hrem : ((e.natAbs : Nat) : Int).tmod 2 = ((e.natAbs % 2 : Nat) : Int) := tmod_nat _ 2
  by_cases hneg : e < 0
  · have hq0 := h3 hneg
    rw [powQ_neg hneg hq0]
    have hs0 : q.num.sign ≠ 0 := by rw [Ne, Int.sign_eq_zero_iff_zero, Rat.num_eq_zero]; exact hq0
    have hmx : (if e < -e then -e else e) = (e.natAbs : Nat) := by rw [if_pos (by omega)]; omega
    refine pcalls_of_AWR (pa := []) (fn := Tryz.f105) (rs := [.cell 4 46, .tmp 5]) follows_mixed Tryz.func105 rfl rfl (by kernel_rfl) (by kernel_rfl) (by rw [Tryz.ntmps105]; simp) ?_
    simp only [go_sem, ↓reduceIte, g1, g2, dec_true hneg, encR, encW]
    refine callS_p hs ?_
    simp only [go_sem, ↓reduceIte, beq_int, dec_false hs0, encR, encW]
    refine callS_p hn ?_
    simp only [go_sem, ↓reduceIte, encQ, encR, cq, encW, wn, hmx]
    refine callD_p hp1 ?_
    simp only [go_sem, ↓reduceIte, encQ, encR, cq, encW]
    refine callD_p hp2 ?_
    cases hsn : decide (q.num < 0) with
    | false =>
      have hu := hu2 false
      simp only [go_sem, ↓reduceIte, encQ, encR, cq, encW, dec_true hneg, hsn]
      refine callS_p hu ?_
      simp only [go_sem, ↓reduceIte, encW]
      exact .mk (by simp only [go_sem, ↓reduceIte, encW])
    | true =>
      have hu := hu2 (true && decide (e.natAbs % 2 = 1))
      rw [Bool.true_and] at hu ⊢
      simp only [go_sem, ↓reduceIte, encQ, encR, cq, encW, dec_true hneg, hsn, hrem, beq_int, hodd]
      refine callS_p hu ?_
      simp only [go_sem, ↓reduceIte, encW]
      exact .mk (by simp only [go_sem, ↓reduceIte, encW])
  · rw [powQ_nonneg hneg]
    have hmx : (if e < -e then -e else e) = (e.natAbs : Nat) := by
      by_cases h : e < -e
      · rw [if_pos h]; omega
      · rw [if_neg h]; omega
    refine pcalls_of_AWR (pa := []) (fn := Tryz.f105) (rs := [.cell 4 46, .tmp 5]) follows_mixed Tryz.func105 rfl rfl (by kernel_rfl) (by kernel_rfl) (by rw [Tryz.ntmps105]; simp) ?_
    simp only [go_sem, ↓reduceIte, g1, g2, dec_false hneg, encR, encW]
    refine callS_p hn ?_
    simp only [go_sem, ↓reduceIte, encQ, encR, cq, encW, wn, hmx]
    refine callD_p hp1 ?_
    simp only [go_sem, ↓reduceIte, encQ, encR, cq, encW]
    refine callD_p hp2 ?_
    cases hsn : decide (q.num < 0) with
    | false =>
      have hu := hu1 false
      simp only [go_sem, ↓reduceIte, encQ, encR, cq, encW, dec_false hneg, hsn]
      refine callS_p hu ?_
      simp only [go_sem, ↓reduceIte, encW]
      exact .mk (by simp only [go_sem, ↓reduceIte, encW])
    | true =>
      have hu := hu1 (true && decide (e.natAbs % 2 = 1))
      rw [Bool.true_and] at hu ⊢
      simp only [go_sem, ↓reduceIte, encQ, encR, cq, encW, dec_false hneg, hsn, hrem, beq_int, hodd]
      refine callS_p hu ?_
      simp only [go_sem, ↓reduceIte, encW]
      exact .mk (by simp only [go_sem, ↓reduceIte, encW])

/-- Is a fraction right? -/
def isR (f : Fr) : Bool := (f.neg == (cq (rv f)).neg) && ((f.n == (cq (rv f)).n) && (f.d == (cq (rv f)).d))
theorem isR_eq {f : Fr} (h : isR f = true) : f = cq (rv f) := by
  simp only [isR, Bool.and_eq_true, beq_iff_eq] at h
  obtain ⟨h1, h2, h3⟩ := h
  generalize cq (rv f) = c at *
  cases f; cases c
  simp only at h1 h2 h3
  subst h1; subst h2; subst h3; rfl
theorem isR_cq (q : Rat) : isR (cq q) = true := by simp [isR, rv_cq]
theorem list_beq {a b : List Nat} (ha : Wd a) (hb : Wd b) : (a == b) = (decide (a.length = b.length) && decide (val a = val b)) := by
  by_cases h : a = b
  · subst h; simp
  · have h1 : (a == b) = false := by simpa using h
    rw [h1]
    by_cases hl : a.length = b.length
    · have : ¬ val a = val b := fun e => h (wd_inj ha hb hl e)
      simp [this]
    · simp [hl]

set_option maxRecDepth 10000 in
set_option maxHeartbeats 2000000 in
theorem c_fright (f : Fr) (hf : okR 80000 f) : PCalls Tryz.prog 145 [encR f] (.bool (isR f)) := by
  have hn := c_fnorm f hf
  have hw := qw_rv hf (by omega)
  have hl1 : (cq (rv f)).n.length ≤ 80000 := by unfold qw at hw; simp only [cq]; omega
  have hl2 : (cq (rv f)).d.length ≤ 80000 := by unfold qw at hw; simp only [cq]; omega
  have hw1 : Wd (cq (rv f)).n := wd_dig _
  have hw2 : Wd (cq (rv f)).d := wd_dig _
  have k1 := c_ncmp f.n (cq (rv f)).n hf.1 hw1 (by have := hf.2.2.1; omega) (by omega)
  have k2 := c_ncmp f.d (cq (rv f)).d hf.2.1 hw2 (by have := hf.2.2.2; omega) (by omega)
  have hb : isR f = ((f.neg == (cq (rv f)).neg) && ((decide (f.n.length = (cq (rv f)).n.length) && decide (val f.n = val (cq (rv f)).n)) && (decide (f.d.length = (cq (rv f)).d.length) && decide (val f.d = val (cq (rv f)).d)))) := by
    rw [isR, list_beq hf.1 hw1, list_beq hf.2.1 hw2]
  rw [hb]
  unfold encQ at hn
  generalize cq (rv f) = c at *
  have cz : ∀ x y : Nat, decide (cmpN x y = 0) = decide (x = y) := fun x y => by
    by_cases h : x = y
    · rw [decide_eq_true h, decide_eq_true (cmpN_zero.2 h)]
    · rw [decide_eq_false h, decide_eq_false (fun h' => h (cmpN_zero.1 h'))]
  have cl : ∀ x y : Nat, decide (((x : Nat) : Int) = (y : Nat)) = decide (x = y) := fun x y => by rw [← beq_int, beq_nat]
  refine pcalls_of_AW (pa := []) (fn := Tryz.f145) (ts := [2]) follows_mixed Tryz.func145 rfl rfl (by kernel_rfl) (by kernel_rfl) (by rw [Tryz.ntmps145]; simp) ?_
  simp only [go_sem, ↓reduceIte, encR, encW]
  refine callS_p hn ?_
  cases e1 : (f.neg == c.neg) with
  | false =>
    simp only [go_sem, ↓reduceIte, encR, encW, e1]
    exact .mk (by simp only [go_sem, ↓reduceIte])
  | true =>
    by_cases e2 : f.n.length = c.n.length
    · by_cases e3 : f.d.length = c.d.length
      · simp only [go_sem, ↓reduceIte, encR, encW, e1, beq_int, cl, dec_true e2, dec_true e3]
        refine callS_p k1 ?_
        by_cases e4 : val f.n = val c.n
        · simp only [go_sem, ↓reduceIte, encR, encW, beq_int, cz, dec_true e4]
          refine callS_p k2 ?_
          simp only [go_sem, ↓reduceIte, encR, encW, beq_int, cz]
          exact .mk (by simp only [go_sem, ↓reduceIte])
        · simp only [go_sem, ↓reduceIte, encR, encW, beq_int, cz, dec_false e4]
          exact .mk (by simp only [go_sem, ↓reduceIte])
      · simp only [go_sem, ↓reduceIte, encR, encW, e1, beq_int, cl, dec_true e2, dec_false e3]
        exact .mk (by simp only [go_sem, ↓reduceIte])
    · simp only [go_sem, ↓reduceIte, encR, encW, e1, beq_int, cl, dec_false e2]
      exact .mk (by simp only [go_sem, ↓reduceIte])

end Go.Proofs.YtopmghclhgihfaaGreatDoor

set_option linter.unusedVariables false
set_option linter.unusedSimpArgs false
set_option maxRecDepth 10000
namespace Go.Proofs.YtopmghclhgihfaaGreatDoor
open Go Go.Ab Go.Num

/-- An instruction, a tape. -/
structure Ins where
  op : Int
  a : Int
  b : Int
  n : Fr
structure Tp where
  code : List Ins
  outs : List Int
  dim : Int
  par : Int
def i64 (n : Int) : AV := .int .i64 n
def encI (i : Ins) : AV := .agg [.int .i64 i.op, .int .i64 i.a, .int .i64 i.b, .bool i.n.neg, encW i.n.n, encW i.n.d]
def encT (t : Tp) : AV := .agg [.sl 6 (t.code.map encI), .sl 1 (t.outs.map i64), .int .i64 t.dim, .int .i64 t.par]

def belowB (i n : Int) : Bool := decide (0 ≤ i) && decide (i < n)
theorem c_below (i n : Int) : PCalls Tryz.prog 129 [.int .i64 i, .int .i64 n] (.bool (belowB i n)) := by
  unfold belowB
  refine pcalls_of_AW (pa := []) (fn := Tryz.f129) (ts := [4]) follows_mixed Tryz.func129 rfl rfl (by kernel_rfl) (by kernel_rfl) (by rw [Tryz.ntmps129]; simp) ?_
  by_cases h : 0 ≤ i
  · simp only [go_sem, ↓reduceIte, dec_true h]
    exact .mk (by simp only [go_sem, ↓reduceIte])
  · simp only [go_sem, ↓reduceIte, dec_false h]
    exact .mk (by simp only [go_sem, ↓reduceIte])

theorem c_of147 (i : Ins) : PCalls Tryz.prog 144 [encI i] (.agg [.int .i64 i.op, .int .i64 i.a, .int .i64 i.b]) := by
  refine pcalls_of_AWR (pa := []) (fn := Tryz.f144) (rs := [.cell 2 243]) follows_mixed Tryz.func144 rfl rfl (by kernel_rfl) (by kernel_rfl) (by rw [Tryz.ntmps144]; simp) ?_
  simp only [go_sem, ↓reduceIte, encI, encW]
  exact .mk (by simp only [go_sem, ↓reduceIte])

def blankB (f : Fr) : Bool := !f.neg && (decide (f.n = []) && decide (f.d = []))
theorem c_blank (f : Fr) : PCalls Tryz.prog 146 [encR f] (.bool (blankB f)) := by
  have hz : ∀ l : List Nat, (((l.length : Nat) : Int) == 0) = decide (l = []) := fun l => by
    cases l with
    | nil => rfl
    | cons x l => rw [beq_int, decide_eq_false (by simp only [List.length_cons]; omega)]; rfl
  unfold blankB
  refine pcalls_of_AW (pa := []) (fn := Tryz.f146) (ts := [2]) follows_mixed Tryz.func146 rfl rfl (by kernel_rfl) (by kernel_rfl) (by rw [Tryz.ntmps146]; simp) ?_
  cases h1 : f.neg with
  | true =>
    simp only [go_sem, ↓reduceIte, encR, encW, h1]
    exact .mk (by simp only [go_sem, ↓reduceIte])
  | false =>
    by_cases h2 : f.n = []
    · simp only [go_sem, ↓reduceIte, encR, encW, h1, hz, dec_true h2]
      exact .mk (by simp only [go_sem, ↓reduceIte])
    · simp only [go_sem, ↓reduceIte, encR, encW, h1, hz, dec_false h2]
      exact .mk (by simp only [go_sem, ↓reduceIte])

def readsI (i : Ins) : List Int :=
  if i.op = 6 ∨ i.op = 11 then [i.a]
  else if i.op = 7 ∨ i.op = 8 ∨ i.op = 9 ∨ i.op = 10 then [i.a, i.b]
  else []

theorem c_reads (i : Ins) : PCalls Tryz.prog 147 [encI i] (.sl 1 ((readsI i).map i64)) := by
  unfold readsI
  refine pcalls_of_AW (pa := []) (fn := Tryz.f147) (ts := [2]) follows_mixed Tryz.func147 rfl rfl (by kernel_rfl) (by kernel_rfl) (by rw [Tryz.ntmps147]; simp) ?_
  by_cases h6 : i.op = 6
  · rw [if_pos (.inl h6)]
    simp only [go_sem, ↓reduceIte, encI, encW, beq_int, dec_true h6, i64]
    exact .mk (by simp only [go_sem, ↓reduceIte])
  by_cases h11 : i.op = 11
  · rw [if_pos (.inr h11)]
    simp only [go_sem, ↓reduceIte, encI, encW, beq_int, dec_false h6, dec_true h11, i64]
    exact .mk (by simp only [go_sem, ↓reduceIte])
  rw [if_neg (by omega)]
  by_cases h7 : i.op = 7
  · rw [if_pos (.inl h7)]
    simp only [go_sem, ↓reduceIte, encI, encW, beq_int, dec_false h6, dec_false h11, dec_true h7, i64]
    exact .mk (by simp only [go_sem, ↓reduceIte])
  by_cases h8 : i.op = 8
  · rw [if_pos (.inr (.inl h8))]
    simp only [go_sem, ↓reduceIte, encI, encW, beq_int, dec_false h6, dec_false h11, dec_false h7, dec_true h8, i64]
    exact .mk (by simp only [go_sem, ↓reduceIte])
  by_cases h9 : i.op = 9
  · rw [if_pos (.inr (.inr (.inl h9)))]
    simp only [go_sem, ↓reduceIte, encI, encW, beq_int, dec_false h6, dec_false h11, dec_false h7, dec_false h8, dec_true h9, i64]
    exact .mk (by simp only [go_sem, ↓reduceIte])
  by_cases h10 : i.op = 10
  · rw [if_pos (.inr (.inr (.inr h10)))]
    simp only [go_sem, ↓reduceIte, encI, encW, beq_int, dec_false h6, dec_false h11, dec_false h7, dec_false h8, dec_false h9, dec_true h10, i64]
    exact .mk (by simp only [go_sem, ↓reduceIte])
  rw [if_neg (by omega)]
  simp only [go_sem, ↓reduceIte, encI, encW, beq_int, dec_false h6, dec_false h11, dec_false h7, dec_false h8, dec_false h9, dec_false h10]
  exact AV.le_nil 1

def wholeB (t : Tp) : Bool := belowB (IntKind.i64.wrap (t.dim - 1)) 6 && (belowB t.par 7 && (decide ((t.outs.length : Int) = t.dim) && decide ((t.code.length : Int) ≤ 300)))
set_option maxRecDepth 10000 in
theorem c_whole (t : Tp) : PCalls Tryz.prog 127 [encT t] (.bool (wholeB t)) := by
  unfold wholeB
  have h1 := c_below (IntKind.i64.wrap (t.dim - 1)) 6
  have h2 := c_below t.par 7
  refine pcalls_of_AW (pa := []) (fn := Tryz.f127) (ts := [2]) follows_mixed Tryz.func127 rfl rfl (by kernel_rfl) (by kernel_rfl) (by rw [Tryz.ntmps127]; simp) ?_
  simp only [go_sem, ↓reduceIte, encT]
  refine callS_p h1 ?_
  cases e1 : belowB (IntKind.i64.wrap (t.dim - 1)) 6 with
  | false =>
    simp only [go_sem, ↓reduceIte]
    exact .mk (by simp only [go_sem, ↓reduceIte])
  | true =>
    simp only [go_sem, ↓reduceIte]
    refine callS_p h2 ?_
    cases e2 : belowB t.par 7 with
    | false =>
      simp only [go_sem, ↓reduceIte]
      exact .mk (by simp only [go_sem, ↓reduceIte])
    | true =>
      by_cases e3 : (t.outs.length : Int) = t.dim
      · simp only [go_sem, ↓reduceIte, beq_int, dec_true e3]
        exact .mk (by simp only [go_sem, ↓reduceIte])
      · simp only [go_sem, ↓reduceIte, beq_int, dec_false e3]
        exact .mk (by simp only [go_sem, ↓reduceIte])
end Go.Proofs.YtopmghclhgihfaaGreatDoor

set_option linter.unusedVariables false
set_option linter.unusedSimpArgs false
set_option maxRecDepth 10000
namespace Go.Proofs.YtopmghclhgihfaaGreatDoor
open Go Go.Ab Go.Num

/-- What the numbers of an instruction that is no constant must be, but for its operands. -/
def kindB (t : Tp) (i : Ins) : Bool :=
  if i.op = 2 then decide (i.a = 0) && decide (i.b = 0)
  else if i.op = 3 then belowB i.a t.dim && decide (i.b = 0)
  else if i.op = 4 then belowB i.a t.par && decide (i.b = 0)
  else if i.op = 6 then decide (i.b = 0)
  else if i.op = 11 then decide (-8 ≤ i.b) && decide (i.b ≤ 8)
  else decide (i.op = 7 ∨ i.op = 8 ∨ i.op = 9 ∨ i.op = 10)
def mayB (t : Tp) (i : Ins) (k : Nat) : Bool :=
  if i.op = 1 then (decide (i.a = 0) && decide (i.b = 0)) && isR i.n
  else blankB i.n && ((readsI i).all (fun r => belowB r k) && kindB t i)


theorem getD_two (a b d : AV) : [a, b].getD 1 d = b := rfl
theorem lt_cast {k n : Nat} (h : k < n) : decide ((k : Int) < (n : Int)) = true := decide_eq_true (by omega)


set_option maxRecDepth 10000 in
theorem c_may1 (t : Tp) (k : Nat) (hk : k < t.code.length) (i : Ins) (hi : t.code[k] = i) (hf : okR 80000 i.n) (h1 : i.op = 1) : PCalls Tryz.prog 128 [encT t, .int .i64 (k : Nat)] (.bool (mayB t i k)) := by
  have hr := c_fright i.n hf
  have ho := c_of147 i
  have hb := c_blank i.n
  have hlt : ((k : Int) < (t.code.length : Int)) = True := eq_true (by omega)
  unfold mayB
  rw [if_pos h1]
  refine pcalls_of_AW (pa := []) (fn := Tryz.f128) (ts := [4]) follows_mixed Tryz.func128 rfl rfl (by kernel_rfl) (by kernel_rfl) (by rw [Tryz.ntmps128]; simp) ?_
  simp only [go_sem, ↓reduceIte, encT, getD_map_lt encI t.code k .undef hk, toNat_cast, hlt]
  rw [hi]
  simp only [go_sem, ↓reduceIte, encI, encW]
  simp only [go_sem, ↓reduceIte, encI, encW, beq_int, dec_true h1]
  refine callS_p ho ?_
  by_cases e1 : i.a = 0
  · by_cases e2 : i.b = 0
    · simp only [go_sem, ↓reduceIte, encI, encW, beq_int, dec_true h1, dec_true e1, dec_true e2]
      refine callS_p hr ?_
      simp only [go_sem, ↓reduceIte]
      exact .mk (by simp only [go_sem, ↓reduceIte])
    · simp only [go_sem, ↓reduceIte, encI, encW, beq_int, dec_true h1, dec_true e1, dec_false e2]
      exact .mk (by simp only [go_sem, ↓reduceIte])
  · simp only [go_sem, ↓reduceIte, encI, encW, beq_int, dec_true h1, dec_false e1]
    exact .mk (by simp only [go_sem, ↓reduceIte])

set_option maxRecDepth 10000 in
theorem c_may0 (t : Tp) (k : Nat) (hk : k < t.code.length) (i : Ins) (hi : t.code[k] = i) (hf : okR 80000 i.n) (h1 : i.op ≠ 1) (hr0 : readsI i = []) : PCalls Tryz.prog 128 [encT t, .int .i64 (k : Nat)] (.bool (mayB t i k)) := by
  have hr := c_fright i.n hf
  have ho := c_of147 i
  have hb := c_blank i.n
  have hlt : ((k : Int) < (t.code.length : Int)) = True := eq_true (by omega)
  have hrd := c_reads i
  have h6 : ¬ i.op = 6 := fun h => by rw [readsI, if_pos (.inl h)] at hr0; cases hr0
  have h11 : ¬ i.op = 11 := fun h => by rw [readsI, if_pos (.inr h)] at hr0; cases hr0
  have h7 : ¬ (i.op = 7 ∨ i.op = 8 ∨ i.op = 9 ∨ i.op = 10) := fun h => by rw [readsI, if_neg (by omega), if_pos h] at hr0; cases hr0
  rw [hr0, List.map_nil] at hrd
  unfold mayB
  rw [if_neg h1, hr0, List.all_nil, Bool.true_and]
  have p1 := c_below i.a t.dim
  have p2 := c_below i.a t.par
  refine pcalls_of_AW (pa := []) (fn := Tryz.f128) (ts := [4]) follows_mixed Tryz.func128 rfl rfl (by kernel_rfl) (by kernel_rfl) (by rw [Tryz.ntmps128]; simp) ?_
  simp only [go_sem, ↓reduceIte, encT, getD_map_lt encI t.code k .undef hk, toNat_cast, hlt]
  rw [hi]
  simp only [go_sem, ↓reduceIte, encI, encW]
  simp only [go_sem, ↓reduceIte, encI, encW, beq_int, dec_false h1]
  refine callS_p hb ?_
  cases eb : blankB i.n with
  | false =>
    simp only [go_sem, ↓reduceIte]
    exact .mk (by simp only [go_sem, ↓reduceIte])
  | true =>
  simp only [go_sem, ↓reduceIte]
  refine callS_p hrd ?_
  simp only [go_sem, ↓reduceIte, AW_loop, cast0, cast1, cast2]
  by_cases h2 : i.op = 2
  · simp only [go_sem, ↓reduceIte, encI, encW, beq_int, kindB, if_pos h2, dec_true h2]
    refine callS_p ho ?_
    by_cases e1 : i.a = 0
    · simp only [go_sem, ↓reduceIte, beq_int, dec_true h2, dec_true e1]
      exact .mk (by simp only [go_sem, ↓reduceIte])
    · simp only [go_sem, ↓reduceIte, beq_int, dec_true h2, dec_false e1]
      exact .mk (by simp only [go_sem, ↓reduceIte])
  by_cases h3 : i.op = 3
  · simp only [go_sem, ↓reduceIte, encI, encW, beq_int, kindB, if_neg h2, if_pos h3, dec_false h2, dec_true h3]
    refine callS_p p1 ?_
    cases e1 : belowB i.a t.dim with
    | true =>
      simp only [go_sem, ↓reduceIte, beq_int]
      exact .mk (by simp only [go_sem, ↓reduceIte])
    | false =>
      simp only [go_sem, ↓reduceIte, beq_int]
      exact .mk (by simp only [go_sem, ↓reduceIte])
  by_cases h4 : i.op = 4
  · simp only [go_sem, ↓reduceIte, encI, encW, beq_int, kindB, if_neg h2, if_neg h3, if_pos h4, dec_false h2, dec_false h3, dec_true h4]
    refine callS_p p2 ?_
    cases e1 : belowB i.a t.par with
    | true =>
      simp only [go_sem, ↓reduceIte, beq_int]
      exact .mk (by simp only [go_sem, ↓reduceIte])
    | false =>
      simp only [go_sem, ↓reduceIte, beq_int]
      exact .mk (by simp only [go_sem, ↓reduceIte])
  simp only [go_sem, ↓reduceIte, encI, encW, beq_int, kindB, if_neg h2, if_neg h3, if_neg h4, if_neg h6, if_neg h11, dec_false h2, dec_false h3, dec_false h4, dec_false h6, dec_false h11, dec_false h7]
  refine callS_p hrd ?_
  simp only [go_sem, ↓reduceIte, cast0, cast2]
  exact .mk (by simp only [go_sem, ↓reduceIte])

set_option maxRecDepth 10000 in
theorem c_may11 (t : Tp) (k : Nat) (hk : k < t.code.length) (i : Ins) (hi : t.code[k] = i) (hf : okR 80000 i.n) (h1 : i.op = 6 ∨ i.op = 11) : PCalls Tryz.prog 128 [encT t, .int .i64 (k : Nat)] (.bool (mayB t i k)) := by
  have hr := c_fright i.n hf
  have ho := c_of147 i
  have hb := c_blank i.n
  have hlt : ((k : Int) < (t.code.length : Int)) = True := eq_true (by omega)
  have hrd := c_reads i
  have hr0 : readsI i = [i.a] := by rw [readsI, if_pos h1]
  rw [hr0, List.map_cons, List.map_nil] at hrd
  unfold i64 at hrd
  have h6 := h1
  replace h1 : ¬ i.op = 1 := by omega
  have h2 : ¬ i.op = 2 := by omega
  have h3 : ¬ i.op = 3 := by omega
  have h4 : ¬ i.op = 4 := by omega
  unfold mayB
  rw [if_neg h1, hr0, List.all_cons, List.all_nil, Bool.and_true]
  have p1 := c_below i.a (k : Nat)
  refine pcalls_of_AW (pa := []) (fn := Tryz.f128) (ts := [4]) follows_mixed Tryz.func128 rfl rfl (by kernel_rfl) (by kernel_rfl) (by rw [Tryz.ntmps128]; simp) ?_
  simp only [go_sem, ↓reduceIte, encT, getD_map_lt encI t.code k .undef hk, toNat_cast, hlt]
  rw [hi]
  simp only [go_sem, ↓reduceIte, encI, encW]
  simp only [go_sem, ↓reduceIte, encI, encW, beq_int, dec_false h1]
  refine callS_p hb ?_
  cases eb : blankB i.n with
  | false =>
    simp only [go_sem, ↓reduceIte]
    exact .mk (by simp only [go_sem, ↓reduceIte])
  | true =>
  simp only [go_sem, ↓reduceIte]
  refine callS_p hrd ?_
  simp only [go_sem, ↓reduceIte, AW_loop, cast0, cast1, cast2]
  refine callS_p p1 ?_
  cases e1 : belowB i.a (k : Nat) with
  | false =>
    simp only [go_sem, ↓reduceIte]
    exact .mk (by simp only [go_sem, ↓reduceIte])
  | true =>
  simp only [go_sem, ↓reduceIte, w01, cast1, cast2]
  rw [AW_inLoop]
  simp only [go_sem, ↓reduceIte]
  by_cases h6 : i.op = 6
  · simp only [go_sem, ↓reduceIte, encI, encW, beq_int, kindB, if_neg h2, if_neg h3, if_neg h4, if_pos h6, dec_false h2, dec_false h3, dec_false h4, dec_true h6]
    exact .mk (by simp only [go_sem, ↓reduceIte])
  · have h11 : i.op = 11 := by omega
    by_cases e2 : -8 ≤ i.b
    · simp only [go_sem, ↓reduceIte, encI, encW, beq_int, kindB, if_neg h2, if_neg h3, if_neg h4, if_neg h6, if_pos h11, dec_false h2, dec_false h3, dec_false h4, dec_false h6, dec_true h11, dec_true e2]
      exact .mk (by simp only [go_sem, ↓reduceIte])
    · simp only [go_sem, ↓reduceIte, encI, encW, beq_int, kindB, if_neg h2, if_neg h3, if_neg h4, if_neg h6, if_pos h11, dec_false h2, dec_false h3, dec_false h4, dec_false h6, dec_true h11, dec_false e2]
      exact .mk (by simp only [go_sem, ↓reduceIte])

set_option maxRecDepth 10000 in
theorem c_may2 (t : Tp) (k : Nat) (hk : k < t.code.length) (i : Ins) (hi : t.code[k] = i) (hf : okR 80000 i.n) (h1 : i.op = 7 ∨ i.op = 8 ∨ i.op = 9 ∨ i.op = 10) : PCalls Tryz.prog 128 [encT t, .int .i64 (k : Nat)] (.bool (mayB t i k)) := by
  have hr := c_fright i.n hf
  have ho := c_of147 i
  have hb := c_blank i.n
  have hlt : ((k : Int) < (t.code.length : Int)) = True := eq_true (by omega)
  have hrd := c_reads i
  have hr0 : readsI i = [i.a, i.b] := by rw [readsI, if_neg (by omega), if_pos h1]
  rw [hr0, List.map_cons, List.map_cons, List.map_nil] at hrd
  unfold i64 at hrd
  have h7 := h1
  replace h1 : ¬ i.op = 1 := by omega
  have h2 : ¬ i.op = 2 := by omega
  have h3 : ¬ i.op = 3 := by omega
  have h4 : ¬ i.op = 4 := by omega
  have h6 : ¬ i.op = 6 := by omega
  have h11 : ¬ i.op = 11 := by omega
  unfold mayB
  rw [if_neg h1, hr0, List.all_cons, List.all_cons, List.all_nil, Bool.and_true]
  have p1 := c_below i.a (k : Nat)
  have p2 := c_below i.b (k : Nat)
  refine pcalls_of_AW (pa := []) (fn := Tryz.f128) (ts := [4]) follows_mixed Tryz.func128 rfl rfl (by kernel_rfl) (by kernel_rfl) (by rw [Tryz.ntmps128]; simp) ?_
  simp only [go_sem, ↓reduceIte, encT, getD_map_lt encI t.code k .undef hk, toNat_cast, hlt]
  rw [hi]
  simp only [go_sem, ↓reduceIte, encI, encW]
  simp only [go_sem, ↓reduceIte, encI, encW, beq_int, dec_false h1]
  refine callS_p hb ?_
  cases eb : blankB i.n with
  | false =>
    simp only [go_sem, ↓reduceIte]
    exact .mk (by simp only [go_sem, ↓reduceIte])
  | true =>
  simp only [go_sem, ↓reduceIte]
  refine callS_p hrd ?_
  simp only [go_sem, ↓reduceIte, AW_loop, cast0, cast1, cast2]
  refine callS_p p1 ?_
  cases e1 : belowB i.a (k : Nat) with
  | false =>
    simp only [go_sem, ↓reduceIte]
    exact .mk (by simp only [go_sem, ↓reduceIte])
  | true =>
  simp only [go_sem, ↓reduceIte, w01, cast1, cast2]
  rw [AW_inLoop]
  simp only [go_sem, ↓reduceIte, cast2, getD_two]
  refine callS_p p2 ?_
  cases e2 : belowB i.b (k : Nat) with
  | false =>
    simp only [go_sem, ↓reduceIte]
    exact .mk (by simp only [go_sem, ↓reduceIte])
  | true =>
  simp only [go_sem, ↓reduceIte, w12, cast2]
  rw [AW_inLoop]
  simp only [go_sem, ↓reduceIte, encI, encW, beq_int, kindB, if_neg h2, if_neg h3, if_neg h4, if_neg h6, if_neg h11, dec_false h2, dec_false h3, dec_false h4, dec_false h6, dec_false h11, dec_true h7]
  refine callS_p hrd ?_
  simp only [go_sem, ↓reduceIte, cast0, cast2]
  exact .mk (by simp only [go_sem, ↓reduceIte])

theorem c_may (t : Tp) (k : Nat) (hk : k < t.code.length) (hf : okR 80000 t.code[k].n) : PCalls Tryz.prog 128 [encT t, .int .i64 (k : Nat)] (.bool (mayB t t.code[k] k)) := by
  generalize hi : t.code[k] = i at *
  by_cases h1 : i.op = 1
  · exact c_may1 t k hk i hi hf h1
  by_cases h6 : i.op = 6 ∨ i.op = 11
  · exact c_may11 t k hk i hi hf h6
  by_cases h7 : i.op = 7 ∨ i.op = 8 ∨ i.op = 9 ∨ i.op = 10
  · exact c_may2 t k hk i hi hf h7
  · exact c_may0 t k hk i hi hf h1 (by rw [readsI, if_neg h6, if_neg h7])
end Go.Proofs.YtopmghclhgihfaaGreatDoor

set_option linter.unusedVariables false
set_option linter.unusedSimpArgs false
set_option maxRecDepth 10000
namespace Go.Proofs.YtopmghclhgihfaaGreatDoor
open Go Go.Ab Go.Num

def badI (t : Tp) : List Ins → Nat → Option Nat
  | [], _ => none
  | i :: r, k => if mayB t i k then badI t r (k + 1) else some k
def wrongI (t : Tp) : Int :=
  if wholeB t then (match badI t t.code 0 with
    | some k => (k : Int)
    | none => if t.outs.all (fun o => belowB o t.code.length) then -1 else (t.code.length : Nat)) else -2
structure okT (t : Tp) : Prop where
  code : ∀ i ∈ t.code, okR 80000 i.n
  lo : -9223372036854775808 ≤ t.dim
  hi : t.dim ≤ 9223372036854775807
theorem whole_le {t : Tp} (ht : okT t) (h : wholeB t = true) : t.code.length ≤ 300 ∧ (t.outs.length : Int) = t.dim ∧ 1 ≤ t.dim ∧ t.dim ≤ 6 ∧ 0 ≤ t.par ∧ t.par ≤ 6 := by
  have h1 := ht.lo
  have h2 := ht.hi
  simp only [wholeB, belowB, Bool.and_eq_true, decide_eq_true_eq] at h
  have h3 : t.dim ≠ -9223372036854775808 := fun h => by
    have h4 : (t.outs.length : Int) = t.dim := by omega
    omega
  rw [wrap64_id (by omega) (by omega)] at h
  omega


set_option maxRecDepth 10000 in
set_option maxHeartbeats 1000000 in
theorem c_wrong (t : Tp) (ht : okT t) : PCalls Tryz.prog 108 [encT t] (.int .i64 (wrongI t)) := by
  have hw := c_whole t
  unfold wrongI
  refine pcalls_of_AW (pa := []) (fn := Tryz.f108) (ts := [2]) follows_mixed Tryz.func108 rfl rfl (by kernel_rfl) (by kernel_rfl) (by rw [Tryz.ntmps108]; simp) ?_
  simp only [go_sem, ↓reduceIte, encT]
  refine callS_p hw ?_
  cases ew : wholeB t with
  | false =>
    simp only [go_sem, ↓reduceIte]
    exact .mk (by simp only [go_sem, ↓reduceIte])
  | true =>
  obtain ⟨hlen, hol, _, hdim, _⟩ := whole_le ht ew
  simp only [go_sem, ↓reduceIte]
  refine AW_while (fun m st => ∃ i, i + m = t.code.length ∧ badI t (t.code.drop i) i = badI t t.code 0 ∧ st.τ 1 = .ptr 0 0 ∧ st.τ 11 = .int .i64 t.code.length ∧ st.τ 12 = .int .i64 (i : Nat) ∧ st.h 0 = some [.sl 6 (t.code.map encI), .sl 1 (t.outs.map i64), .int .i64 t.dim, .int .i64 t.par] ∧ 1 ≤ st.n) t.code.length ?_ ?_
  · exact ⟨0, by omega, rfl, by simp only [go_sem, ↓reduceIte], by simp only [go_sem, ↓reduceIte], by simp only [go_sem, ↓reduceIte] <;> rfl, by simp only [go_sem, ↓reduceIte], by simp only [go_sem, ↓reduceIte] <;> omega⟩
  · rintro m st ⟨i, hi, hs, h1, h11, h12, hb0, hn⟩ next
    by_cases hlt : i < t.code.length
    · have hlt' : ((i : Nat) : Int) < (t.code.length : Nat) := by omega
      have hm := c_may t i hlt (ht.code _ (List.getElem_mem hlt))
      rw [drop_cons hlt, badI] at hs
      simp only [go_sem, ↓reduceIte, h1, h11, h12, hb0, hlt']
      refine callS_p hm ?_
      cases em : mayB t t.code[i] i with
      | false =>
        rw [em, if_neg (by decide)] at hs
        simp only [go_sem, ↓reduceIte, h1, h11, h12, hb0]
        exact .mk (by simp only [go_sem, ↓reduceIte, ← hs])
      | true =>
        rw [em, if_pos rfl] at hs
        simp only [go_sem, ↓reduceIte, h1, h11, h12, hb0]
        refine next (m - 1) _ (by omega) ⟨i + 1, by omega, hs, by simp only [go_sem, ↓reduceIte, h1], by simp only [go_sem, ↓reduceIte, h11], by simp only [go_sem, ↓reduceIte]; rw [wrap64_id (by omega) (by omega)]; rfl, by simp only [go_sem, ↓reduceIte, hb0], by simp only [go_sem, ↓reduceIte] <;> omega⟩
    · have hlt' := dec_false (show ¬ ((i : Nat) : Int) < (t.code.length : Nat) by omega)
      rw [List.drop_eq_nil_of_le (by omega)] at hs
      rw [← hs]
      simp only [go_sem, ↓reduceIte, h1, h11, h12, hb0, hlt', badI]
      refine AW_while (fun m st => ∃ i, i + m = t.outs.length ∧ (t.outs.drop i).all (fun o => belowB o t.code.length) = t.outs.all (fun o => belowB o t.code.length) ∧ st.τ 1 = .ptr 0 0 ∧ st.τ 22 = .sl 1 (t.outs.map i64) ∧ st.τ 23 = .int .i64 t.outs.length ∧ st.τ 24 = .int .i64 (i : Nat) ∧ st.h 0 = some [.sl 6 (t.code.map encI), .sl 1 (t.outs.map i64), .int .i64 t.dim, .int .i64 t.par] ∧ 1 ≤ st.n) t.outs.length ?_ ?_
      · exact ⟨0, by omega, rfl, by simp only [go_sem, ↓reduceIte, h1], by simp only [go_sem, ↓reduceIte], by simp only [go_sem, ↓reduceIte], by simp only [go_sem, ↓reduceIte] <;> rfl, by simp only [go_sem, ↓reduceIte, hb0], by simp only [go_sem, ↓reduceIte] <;> omega⟩
      · clear h1 h11 h12 hb0 hn hlt hlt' next hi hs
        clear st m i
        rintro m st ⟨i, hi, hs, h1, h22, h23, h24, hb0, hn⟩ next
        by_cases hlt : i < t.outs.length
        · have hlt' : ((i : Nat) : Int) < (t.outs.length : Nat) := by omega
          have hm := c_below t.outs[i] t.code.length
          rw [drop_cons hlt, List.all_cons] at hs
          simp only [go_sem, ↓reduceIte, h1, h22, h23, h24, hb0, hlt', getD_map_lt _ _ _ _ hlt, i64]
          refine callS_p hm ?_
          cases em : belowB t.outs[i] t.code.length with
          | false =>
            rw [em, Bool.false_and] at hs
            simp only [go_sem, ↓reduceIte, h1, h22, h23, h24, hb0]
            exact .mk (by simp only [go_sem, ↓reduceIte, ← hs])
          | true =>
            rw [em, Bool.true_and] at hs
            simp only [go_sem, ↓reduceIte, h1, h22, h23, h24, hb0]
            refine next (m - 1) _ (by omega) ⟨i + 1, by omega, hs, by simp only [go_sem, ↓reduceIte, h1], by simp only [go_sem, ↓reduceIte, h22] <;> rfl, by simp only [go_sem, ↓reduceIte, h23], by simp only [go_sem, ↓reduceIte]; rw [wrap64_id (by omega) (by omega)]; rfl, by simp only [go_sem, ↓reduceIte, hb0], by simp only [go_sem, ↓reduceIte] <;> omega⟩
        · have hlt' := dec_false (show ¬ ((i : Nat) : Int) < (t.outs.length : Nat) by omega)
          rw [List.drop_eq_nil_of_le (by omega), List.all_nil] at hs
          simp only [go_sem, ↓reduceIte, h1, h22, h23, h24, hb0, hlt', ← hs]
          exact .mk (by simp only [go_sem, ↓reduceIte])

theorem c_right (t : Tp) (ht : okT t) : PCalls Tryz.prog 81 [encT t] (.bool (decide (wrongI t = -1))) := by
  have hw := c_wrong t ht
  refine pcalls_of_AW (pa := []) (fn := Tryz.f81) (ts := [2]) follows_mixed Tryz.func81 rfl rfl (by kernel_rfl) (by kernel_rfl) (by rw [Tryz.ntmps81]; simp) ?_
  simp only [go_sem, ↓reduceIte, encT]
  refine callS_p hw ?_
  simp only [go_sem, ↓reduceIte, beq_int]
  exact .mk (by simp only [go_sem, ↓reduceIte])
end Go.Proofs.YtopmghclhgihfaaGreatDoor

set_option linter.unusedVariables false
set_option linter.unusedSimpArgs false
set_option maxRecDepth 10000
namespace Go.Proofs.YtopmghclhgihfaaGreatDoor
open Go Go.Ab Go.Num

theorem upd1_old0 (h : Heap) (n j : Nat) (b : Option Blk) (hj : j < n) : upd1 h n b j = h j := by simp only [upd1]; rw [if_neg (by omega)]
/-- How long a fraction is, in bits. -/
def fsz (f : Fr) : Nat := blen (val f.n) + blen (val f.d)
/-- A gauge's block: what was counted, and the limit. -/
def Gau (h : Heap) (b : Nat) (l : Int) : Prop := ∃ s p : Int, h b = some [.int .i64 s, .int .i64 p, .int .i64 l]
def clampB (l : Int) : Int := min (max l 0) 4096

theorem c_gnew (l : Int) (h : Heap) (n : Nat) : HCalls Tryz.prog 42 [.int .i64 l] h n (fun v h' n' => ∃ b, v = .ptr b 0 ∧ n ≤ b ∧ b < n' ∧ Gau h' b (clampB l) ∧ ∀ j, j < n → h' j = h j) := by
  have e : (if (4096 : Int) < (if (0 : Int) > l then 0 else l) then (4096 : Int) else (if (0 : Int) > l then 0 else l)) = clampB l := by
    unfold clampB; split <;> split <;> omega
  rw [← e]
  refine hcalls_of_AWR (pa := []) (fn := Tryz.f42) (rs := [.tmp 2]) follows_mixed Tryz.func42 rfl rfl (by kernel_rfl) (by kernel_rfl) (by rw [Tryz.ntmps42]; simp) ?_
  simp only [go_sem, ↓reduceIte]
  refine .mk (.ptr (n + 5) 0) (by simp only [go_sem, ↓reduceIte, resR, resAll, resA]) ⟨n + 5, rfl, by omega, by simp only [go_sem, ↓reduceIte] <;> omega, ⟨0, 0, by simp only [go_sem, ↓reduceIte]⟩, fun j hj => by simp only [go_sem, ↓reduceIte, upd1_old _ _ _ _ _ hj, upd1_old0 _ _ _ _ hj]⟩

set_option maxRecDepth 10000 in
theorem c_note (b : Nat) (x : Int) (h : Heap) (n : Nat) (s p l : Int) (hb : h b = some [.int .i64 s, .int .i64 p, .int .i64 l]) (hbn : b < n) : HCalls Tryz.prog 72 [.ptr b 0, .int .i64 x] h n (fun v h' n' => v = .tup [] ∧ Gau h' b l ∧ ∀ j, j < n → j ≠ b → h' j = h j) := by
  refine hcalls_of_AWR (pa := []) (fn := Tryz.f72) (rs := []) follows_mixed Tryz.func72 rfl rfl (by kernel_rfl) (by kernel_rfl) (by rw [Tryz.ntmps72]; simp) ?_
  simp only [go_sem, ↓reduceIte, hb, upd1_old _ _ _ _ _ hbn, upd1_old0 _ _ _ _ hbn, old_ne hbn, new_ne hbn]
  refine .mk (.tup []) (by simp only [go_sem, ↓reduceIte, resR, resAll, resA] <;> rfl) ⟨rfl, ⟨_, _, by simp only [go_sem, ↓reduceIte] <;> rfl⟩, fun j hj hjb => by simp only [go_sem, ↓reduceIte, upd1_old _ _ _ _ _ hj, upd1_old0 _ _ _ _ hj, hjb]⟩

set_option maxRecDepth 10000 in
theorem c_gtake (b : Nat) (f : Fr) (hf : okR 80000 f) (h : Heap) (n : Nat) (l : Int) (hb : Gau h b l) (hbn : b < n) : HCalls Tryz.prog 43 [.ptr b 0, encR f] h n (fun v h' n' => v = .bool (decide ((fsz f : Int) ≤ l)) ∧ Gau h' b l ∧ ∀ j, j < n → j ≠ b → h' j = h j) := by
  have hs := c_fsize f hf
  obtain ⟨s, p, hb⟩ := hb
  refine hcalls_of_AWR (pa := []) (fn := Tryz.f43) (rs := [.tmp 4]) follows_mixed Tryz.func43 rfl rfl (by kernel_rfl) (by kernel_rfl) (by rw [Tryz.ntmps43]; simp) ?_
  simp only [go_sem, ↓reduceIte, encR, encW]
  refine callS_p hs ?_
  simp only [go_sem, ↓reduceIte, hb, upd1_old _ _ _ _ _ hbn, upd1_old0 _ _ _ _ hbn, old_ne hbn, new_ne hbn]
  refine callS_h (c_note b _ _ _ s p l (by simp only [go_sem, ↓reduceIte, hb, upd1_old _ _ _ _ _ hbn, upd1_old0 _ _ _ _ hbn]) (by simp only [go_sem, ↓reduceIte] <;> omega)) ?_
  rintro v h' n' hn ⟨rfl, ⟨s', p', hb'⟩, hkeep⟩
  simp only [go_sem, ↓reduceIte] at hn hkeep
  simp only [go_sem, ↓reduceIte, hb']
  refine .mk (.bool (decide ((fsz f : Int) ≤ l))) (by simp only [go_sem, ↓reduceIte, resR, resAll, resA] <;> rfl) ⟨rfl, ⟨s', p', by simp only [go_sem, ↓reduceIte, hb'] <;> rfl⟩, fun j hj hjb => by simp only [go_sem, ↓reduceIte]; rw [hkeep j (by omega) hjb]; simp only [go_sem, ↓reduceIte, upd1_old _ _ _ _ _ hj, upd1_old0 _ _ _ _ hj]⟩

set_option maxRecDepth 10000 in
theorem c_fits (b : Nat) (f : Fr) (hf : okR 80000 f) (h : Heap) (n : Nat) (l : Int) (hb : Gau h b l) (hbn : b < n) : HCalls Tryz.prog 179 [.agg [.ptr b 0], encR f] h n (fun v h' n' => v = .bool (decide ((fsz f : Int) ≤ l)) ∧ Gau h' b l ∧ ∀ j, j < n → j ≠ b → h' j = h j) := by
  have hb2 := hb
  obtain ⟨s, p, hb2⟩ := hb2
  refine hcalls_of_AWR (pa := []) (fn := Tryz.f179) (rs := [.tmp 4]) follows_mixed Tryz.func179 rfl rfl (by kernel_rfl) (by kernel_rfl) (by rw [Tryz.ntmps179]; simp) ?_
  have hg := fun H N (h1 : Gau H b l) (h2 : b < N) => c_gtake b f hf H N l h1 h2
  simp only [encR, encW] at hg
  simp only [go_sem, ↓reduceIte, encR, encW]
  refine callS_h (hg _ _ ⟨s, p, by simp only [go_sem, ↓reduceIte, hb2, upd1_old _ _ _ _ _ hbn, upd1_old0 _ _ _ _ hbn]⟩ (by simp only [go_sem, ↓reduceIte] <;> omega)) ?_
  rintro v h' n' hn ⟨rfl, ⟨s', p', hb'⟩, hkeep⟩
  simp only [go_sem, ↓reduceIte] at hn hkeep
  simp only [go_sem, ↓reduceIte, hb']
  refine .mk (.bool (decide ((fsz f : Int) ≤ l))) (by simp only [go_sem, ↓reduceIte, resR, resAll, resA] <;> rfl) ⟨rfl, ⟨s', p', by simp only [go_sem, ↓reduceIte, hb'] <;> rfl⟩, fun j hj hjb => by simp only [go_sem, ↓reduceIte]; rw [hkeep j (by omega) hjb]; simp only [go_sem, ↓reduceIte, upd1_old _ _ _ _ _ hj, upd1_old0 _ _ _ _ hj]⟩

theorem c_aof (f : Fr) (hf : okR 80000 f) : PCalls Tryz.prog 182 [.agg [.opq], encR f] (encQ (rv f)) := by
  refine pcalls_of_AWR (pa := []) (fn := Tryz.f182) (rs := [.cell 4 46]) follows_mixed Tryz.func182 rfl rfl (by kernel_rfl) (by kernel_rfl) (by rw [Tryz.ntmps182]; simp) ?_
  simp only [go_sem, ↓reduceIte, encR, encW]
  refine callS_p (c_fnorm f hf) ?_
  simp only [go_sem, ↓reduceIte, encQ, encR, cq, encW]
  exact .mk (by simp only [go_sem, ↓reduceIte, encQ, encR, cq, encW])
theorem c_aneg (f : Fr) (hf : okR 80000 f) : PCalls Tryz.prog 181 [.agg [.opq], encR f] (encQ (-rv f)) := by
  refine pcalls_of_AWR (pa := []) (fn := Tryz.f181) (rs := [.cell 4 46]) follows_mixed Tryz.func181 rfl rfl (by kernel_rfl) (by kernel_rfl) (by rw [Tryz.ntmps181]; simp) ?_
  simp only [go_sem, ↓reduceIte, encR, encW]
  refine callS_p (c_fneg f hf) ?_
  simp only [go_sem, ↓reduceIte, encQ, encR, cq, encW]
  exact .mk (by simp only [go_sem, ↓reduceIte, encQ, encR, cq, encW])
theorem c_aadd (f g : Fr) (hf : okR 20000 f) (hg : okR 20000 g) : PCalls Tryz.prog 178 [.agg [.opq], encR f, encR g] (encQ (rv f + rv g)) := by
  refine pcalls_of_AWR (pa := []) (fn := Tryz.f178) (rs := [.cell 6 46]) follows_mixed Tryz.func178 rfl rfl (by kernel_rfl) (by kernel_rfl) (by rw [Tryz.ntmps178]; simp) ?_
  simp only [go_sem, ↓reduceIte, encR, encW]
  refine callS_p (c_fadd f g hf hg) ?_
  simp only [go_sem, ↓reduceIte, encQ, encR, cq, encW]
  exact .mk (by simp only [go_sem, ↓reduceIte, encQ, encR, cq, encW])
theorem c_asub (f g : Fr) (hf : okR 20000 f) (hg : okR 20000 g) : PCalls Tryz.prog 185 [.agg [.opq], encR f, encR g] (encQ (rv f - rv g)) := by
  refine pcalls_of_AWR (pa := []) (fn := Tryz.f185) (rs := [.cell 6 46]) follows_mixed Tryz.func185 rfl rfl (by kernel_rfl) (by kernel_rfl) (by rw [Tryz.ntmps185]; simp) ?_
  simp only [go_sem, ↓reduceIte, encR, encW]
  refine callS_p (c_fsub f g hf hg) ?_
  simp only [go_sem, ↓reduceIte, encQ, encR, cq, encW]
  exact .mk (by simp only [go_sem, ↓reduceIte, encQ, encR, cq, encW])
theorem c_amul (f g : Fr) (hf : okR 20000 f) (hg : okR 20000 g) : PCalls Tryz.prog 180 [.agg [.opq], encR f, encR g] (encQ (rv f * rv g)) := by
  refine pcalls_of_AWR (pa := []) (fn := Tryz.f180) (rs := [.cell 6 46]) follows_mixed Tryz.func180 rfl rfl (by kernel_rfl) (by kernel_rfl) (by rw [Tryz.ntmps180]; simp) ?_
  simp only [go_sem, ↓reduceIte, encR, encW]
  refine callS_p (c_fmul f g hf hg) ?_
  simp only [go_sem, ↓reduceIte, encQ, encR, cq, encW]
  exact .mk (by simp only [go_sem, ↓reduceIte, encQ, encR, cq, encW])
/-- An answer, or a pole. -/
def vS : Option Rat → AV
  | none => .tup [encQ 0, .bool false]
  | some q => .tup [encQ q, .bool true]
def quoO (a b : Rat) : Option Rat := if b = 0 then none else some (a / b)
def powO (a : Rat) (e : Int) : Option Rat := if e < 0 ∧ a = 0 then none else some (powQ a e)
theorem c_quoO (f g : Fr) (hf : okR 20000 f) (hg : okR 20000 g) : PCalls Tryz.prog 104 [encR f, encR g] (vS (quoO (rv f) (rv g))) := by
  unfold quoO
  by_cases h : rv g = 0
  · rw [if_pos h]; exact c_fquo0 f g hf hg h
  · rw [if_neg h]; exact c_fquo f g hf hg h
theorem c_powO (f : Fr) (e : Int) (hf : okR 9000 f) (h1 : -8 ≤ e) (h2 : e ≤ 8) : PCalls Tryz.prog 105 [encR f, .int .i64 e] (vS (powO (rv f) e)) := by
  unfold powO
  by_cases h : e < 0 ∧ rv f = 0
  · rw [if_pos h]; exact c_fpow0 f e (hf.mono (by omega)) (.inr (.inr h))
  · rw [if_neg h]; exact c_fpow f e hf h1 h2 (fun h3 h4 => h ⟨h3, h4⟩)
theorem vS_ex (o : Option Rat) : ∃ q b, vS o = .tup [encQ q, .bool b] := by cases o with | none => exact ⟨_, _, rfl⟩ | some q => exact ⟨_, _, rfl⟩
theorem c_aquo (f g : Fr) (hf : okR 20000 f) (hg : okR 20000 g) : PCalls Tryz.prog 184 [.agg [.opq], encR f, encR g] (vS (quoO (rv f) (rv g))) := by
  have hc := c_quoO f g hf hg
  obtain ⟨q, b, hq⟩ := vS_ex (quoO (rv f) (rv g))
  rw [hq] at hc ⊢
  refine pcalls_of_AWR (pa := []) (fn := Tryz.f184) (rs := [.cell 6 46, .tmp 7]) follows_mixed Tryz.func184 rfl rfl (by kernel_rfl) (by kernel_rfl) (by rw [Tryz.ntmps184]; simp) ?_
  simp only [go_sem, ↓reduceIte, encR, encW]
  refine callS_p hc ?_
  simp only [go_sem, ↓reduceIte, encQ, encR, cq, encW]
  exact .mk (by simp only [go_sem, ↓reduceIte, encQ, encR, cq, encW])
theorem c_apow (f : Fr) (e : Int) (hf : okR 9000 f) (h1 : -8 ≤ e) (h2 : e ≤ 8) : PCalls Tryz.prog 183 [.agg [.opq], encR f, .int .i64 e] (vS (powO (rv f) e)) := by
  have hc := c_powO f e hf h1 h2
  obtain ⟨q, b, hq⟩ := vS_ex (powO (rv f) e)
  rw [hq] at hc ⊢
  refine pcalls_of_AWR (pa := []) (fn := Tryz.f183) (rs := [.cell 6 46, .tmp 7]) follows_mixed Tryz.func183 rfl rfl (by kernel_rfl) (by kernel_rfl) (by rw [Tryz.ntmps183]; simp) ?_
  simp only [go_sem, ↓reduceIte, encR, encW]
  refine callS_p hc ?_
  simp only [go_sem, ↓reduceIte, encQ, encR, cq, encW]
  exact .mk (by simp only [go_sem, ↓reduceIte, encQ, encR, cq, encW])
end Go.Proofs.YtopmghclhgihfaaGreatDoor

set_option linter.unusedVariables false
set_option linter.unusedSimpArgs false
set_option maxRecDepth 10000
namespace Go.Proofs.YtopmghclhgihfaaGreatDoor
open Go Go.Ab Go.Num

def encIn (T : Rat) (Y P : List Rat) : AV := .agg [.bool (cq T).neg, encW (cq T).n, encW (cq T).d, .sl 3 (Y.map encQ), .sl 3 (P.map encQ)]

def leafQ (T : Rat) (Y P : List Rat) (i : Ins) : Rat :=
  if i.op = 1 then rv i.n else if i.op = 3 then Y.getD i.a.toNat 0 else if i.op = 4 then P.getD i.a.toNat 0 else T
def stepQ (T : Rat) (Y P : List Rat) (i : Ins) (D : List Rat) : Option Rat :=
  if i.op = 6 then some (-D.getD i.a.toNat 0)
  else if i.op = 11 then powO (D.getD i.a.toNat 0) i.b
  else if i.op = 7 then some (D.getD i.a.toNat 0 + D.getD i.b.toNat 0)
  else if i.op = 8 then some (D.getD i.a.toNat 0 - D.getD i.b.toNat 0)
  else if i.op = 9 then some (D.getD i.a.toNat 0 * D.getD i.b.toNat 0)
  else if i.op = 10 then quoO (D.getD i.a.toNat 0) (D.getD i.b.toNat 0)
  else some (leafQ T Y P i)

theorem elt_q : Elt 3 encQ := ⟨by omega, fun q => ⟨_, rfl, rfl, rfl, rfl⟩⟩
theorem flat_get {α : Type} {e : Nat} {enc : α → AV} (he : Elt e enc) : ∀ {l : List α} {i : Nat} (h : i < l.length), ∃ cs, (enc l[i]).cells? = some cs ∧ ((flatC enc l).drop (i * e)).take e = cs
  | x :: l, 0, h => by
    obtain ⟨cs, h1, h2, _⟩ := he.2 x
    refine ⟨cs, h1, ?_⟩
    simp only [flatC, List.flatMap_cons, h1, Option.getD_some, Nat.zero_mul, List.drop_zero]
    rw [← h2]; simp
  | x :: l, i + 1, h => by
    obtain ⟨cs, h1, h2, _⟩ := he.2 x
    obtain ⟨ds, h3, h4⟩ := flat_get he (l := l) (i := i) (by simpa using h)
    refine ⟨ds, h3, ?_⟩
    rw [← h4]
    simp only [flatC, List.flatMap_cons, h1, Option.getD_some, Nat.succ_mul]
    rw [← h2, Nat.add_comm, List.drop_append]
    congr 1
    rw [List.drop_eq_nil_of_le (by omega), List.nil_append]
    congr 1; omega
theorem flat_q {D : List Rat} {i : Nat} (h : i < D.length) : ((flatC encQ D).drop (i * 3)).take 3 = [.bool (cq (D.getD i 0)).neg, encW (cq (D.getD i 0)).n, encW (cq (D.getD i 0)).d] := by
  obtain ⟨cs, h1, h2⟩ := flat_get elt_q h
  rw [h2, show D.getD i 0 = D[i] by simp [List.getD, h]]
  cases h1; rfl
theorem len_q (D : List Rat) : (flatC encQ D).length = D.length * 3 := flatC_length elt_q D


set_option maxRecDepth 10000 in
theorem c_leaf (T : Rat) (Y P : List Rat) (i : Ins) (h1 : i.op = 1 → okR 80000 i.n) (h3 : i.op = 3 → 0 ≤ i.a ∧ i.a < Y.length) (h4 : i.op = 4 → 0 ≤ i.a ∧ i.a < P.length) : PCalls Tryz.prog 123 [.agg [.opq], encI i, encIn T Y P] (encQ (leafQ T Y P i)) := by
  unfold leafQ
  by_cases e1 : i.op = 1
  · rw [if_pos e1]
    have hc := c_aof i.n (h1 e1)
    refine pcalls_of_AWR (pa := []) (fn := Tryz.f123) (rs := [.cell 6 46]) follows_mixed Tryz.func123 rfl rfl (by kernel_rfl) (by kernel_rfl) (by rw [Tryz.ntmps123]; simp) ?_
    simp only [go_sem, ↓reduceIte, encI, encIn, encW, beq_int, dec_true e1]
    refine callS_p hc ?_
    simp only [go_sem, ↓reduceIte, encQ, encR, cq, encW]
    exact .mk (by simp only [go_sem, ↓reduceIte, encQ, encR, cq, encW])
  by_cases e3 : i.op = 3
  · rw [if_neg e1, if_pos e3]
    obtain ⟨a1, a2⟩ := h3 e3
    have hl : i.a.toNat < Y.length := by omega
    have hg : (Y.map encQ).getD i.a.toNat .undef = encQ (Y.getD i.a.toNat 0) := by simp [List.getD, hl]
    refine pcalls_of_AWR (pa := []) (fn := Tryz.f123) (rs := [.cell 6 46]) follows_mixed Tryz.func123 rfl rfl (by kernel_rfl) (by kernel_rfl) (by rw [Tryz.ntmps123]; simp) ?_
    simp only [go_sem, ↓reduceIte, encI, encIn, encW, beq_int, dec_false e1, dec_true e3, a1, a2, hg, encQ, encR]
    exact .mk (by simp only [go_sem, ↓reduceIte, encQ, encR, cq, encW])
  by_cases e4 : i.op = 4
  · rw [if_neg e1, if_neg e3, if_pos e4]
    obtain ⟨a1, a2⟩ := h4 e4
    have hl : i.a.toNat < P.length := by omega
    have hg : (P.map encQ).getD i.a.toNat .undef = encQ (P.getD i.a.toNat 0) := by simp [List.getD, hl]
    refine pcalls_of_AWR (pa := []) (fn := Tryz.f123) (rs := [.cell 6 46]) follows_mixed Tryz.func123 rfl rfl (by kernel_rfl) (by kernel_rfl) (by rw [Tryz.ntmps123]; simp) ?_
    simp only [go_sem, ↓reduceIte, encI, encIn, encW, beq_int, dec_false e1, dec_false e3, dec_true e4, a1, a2, hg, encQ, encR]
    exact .mk (by simp only [go_sem, ↓reduceIte, encQ, encR, cq, encW])
  · rw [if_neg e1, if_neg e3, if_neg e4]
    refine pcalls_of_AWR (pa := []) (fn := Tryz.f123) (rs := [.cell 6 46]) follows_mixed Tryz.func123 rfl rfl (by kernel_rfl) (by kernel_rfl) (by rw [Tryz.ntmps123]; simp) ?_
    simp only [go_sem, ↓reduceIte, encI, encIn, encW, beq_int, dec_false e1, dec_false e3, dec_false e4]
    exact .mk (by simp only [go_sem, ↓reduceIte, encQ, encR, cq, encW])
end Go.Proofs.YtopmghclhgihfaaGreatDoor

set_option linter.unusedVariables false
set_option linter.unusedSimpArgs false
set_option maxRecDepth 10000
namespace Go.Proofs.YtopmghclhgihfaaGreatDoor
open Go Go.Ab Go.Num

/-- Results so far: nil, or an own slice. -/
def Own (h : Heap) (n : Nat) (D : List Rat) (v : AV) : Prop := (D = [] ∧ v = .nilsl) ∨ ∃ b, v = .own b 0 D.length 3 ∧ h b = some (flatC encQ D) ∧ b < n

theorem get_q {D : List Rat} {i : Nat} (h : i < D.length) : getAs true 3 ((flatC encQ D).drop (i * 3)) = some (.agg [.bool (cq (D.getD i 0)).neg, encW (cq (D.getD i 0)).n, encW (cq (D.getD i 0)).d]) := by
  rw [getAs_true (by rw [List.length_drop, len_q]; omega), flat_q h]
structure StepOk (i : Ins) (D : List Rat) (y p : Nat) : Prop where
  reads : ∀ r ∈ readsI i, 0 ≤ r ∧ r < D.length
  pow : i.op = 11 → -8 ≤ i.b ∧ i.b ≤ 8
  c : i.op = 1 → okR 80000 i.n
  y : i.op = 3 → 0 ≤ i.a ∧ i.a < y
  p : i.op = 4 → 0 ≤ i.a ∧ i.a < p
  size : ∀ q ∈ D, qw q ≤ 9000

theorem getD_ok {D : List Rat} (h : ∀ q ∈ D, qw q ≤ 9000) {i : Nat} (hi : i < D.length) {k : Nat} (hk : 9000 ≤ k) : okR k (cq (D.getD i 0)) := by
  refine okR_cq (Nat.le_trans (h _ ?_) hk)
  rw [show D.getD i 0 = D[i] by simp [List.getD, hi]]
  exact List.getElem_mem hi


section
variable (T : Rat) (Y P : List Rat) (i : Ins) (D : List Rat) (g : Nat) (dv : AV) (h : Heap) (n : Nat)

set_option maxRecDepth 20000 in
set_option maxHeartbeats 2000000 in
theorem c_step6 (hD : Own h n D dv) (hok : StepOk i D Y.length P.length) (eop : i.op = 6) : HCalls Tryz.prog 101 [.agg [.ptr g 0], encI i, encIn T Y P, dv] h n (fun v h' n' => v = vS (stepQ T Y P i D) ∧ ∀ j, j < n → h' j = h j) := by
  obtain ⟨a1, a2⟩ := hok.reads i.a (by simp [readsI, eop])
  have hl : i.a.toNat < D.length := by omega
  have ga := get_q hl
  have la : i.a.toNat * 3 ≤ D.length * 3 := by omega
  have oa := getD_ok hok.size hl (show 9000 ≤ 9000 by omega)
  have hv : stepQ T Y P i D = some (-D.getD i.a.toNat 0) := by simp only [stepQ, if_pos eop]
  have hc := c_aneg _ (oa.mono (l := 80000) (by omega))
  rw [rv_cq] at hc
  rcases hD with ⟨rfl, rfl⟩ | ⟨b, rfl, hb, hbn⟩
  · simp at hl
  rw [hv]
  refine hcalls_of_AWR (pa := []) (fn := Tryz.f101) (rs := [.cell 8 46, .tmp 9]) follows_mixed Tryz.func101 rfl rfl (by kernel_rfl) (by kernel_rfl) (by rw [Tryz.ntmps101]; simp) ?_
  simp only [go_sem, ↓reduceIte, encI, encIn, encW, beq_int, dec_true eop, a1, a2, hb, hbn, ga, la, len_q, upd1_old _ _ _ _ _ hbn, upd1_old0 _ _ _ _ hbn, old_ne hbn, new_ne hbn, old_ne0 hbn, new_ne0 hbn]
  refine callD_p hc ?_
  simp only [go_sem, ↓reduceIte, encQ, encR, cq, encW]
  refine .mk (vS (some _)) (by simp only [go_sem, ↓reduceIte, resR, resAll, resA, vS, encQ, encR, cq, encW] <;> rfl) ⟨rfl, fun j hj => by simp only [go_sem, ↓reduceIte, upd1_old _ _ _ _ _ hj, upd1_old0 _ _ _ _ hj]⟩

set_option maxRecDepth 20000 in
set_option maxHeartbeats 2000000 in
theorem c_step11 (hD : Own h n D dv) (hok : StepOk i D Y.length P.length) (eop : i.op = 11) : HCalls Tryz.prog 101 [.agg [.ptr g 0], encI i, encIn T Y P, dv] h n (fun v h' n' => v = vS (stepQ T Y P i D) ∧ ∀ j, j < n → h' j = h j) := by
  obtain ⟨a1, a2⟩ := hok.reads i.a (by simp [readsI, eop])
  have hl : i.a.toNat < D.length := by omega
  have ga := get_q hl
  have la : i.a.toNat * 3 ≤ D.length * 3 := by omega
  have oa := getD_ok hok.size hl (show 9000 ≤ 9000 by omega)
  have n6 : ¬ i.op = 6 := by omega
  have hv : stepQ T Y P i D = powO (D.getD i.a.toNat 0) i.b := by simp only [stepQ, if_neg n6, if_pos eop]
  have hc := c_apow _ i.b oa (hok.pow eop).1 (hok.pow eop).2
  rw [rv_cq] at hc
  obtain ⟨q, bb, hq⟩ := vS_ex (powO (D.getD i.a.toNat 0) i.b)
  rw [hq] at hc
  replace hv := (congrArg vS hv).trans hq
  rcases hD with ⟨rfl, rfl⟩ | ⟨b, rfl, hb, hbn⟩
  · simp at hl
  rw [hv]
  refine hcalls_of_AWR (pa := []) (fn := Tryz.f101) (rs := [.cell 8 46, .tmp 9]) follows_mixed Tryz.func101 rfl rfl (by kernel_rfl) (by kernel_rfl) (by rw [Tryz.ntmps101]; simp) ?_
  simp only [go_sem, ↓reduceIte, encI, encIn, encW, beq_int, dec_false n6, dec_true eop, a1, a2, hb, hbn, ga, la, len_q, upd1_old _ _ _ _ _ hbn, upd1_old0 _ _ _ _ hbn, old_ne hbn, new_ne hbn, old_ne0 hbn, new_ne0 hbn]
  refine callD_p hc ?_
  simp only [go_sem, ↓reduceIte, encQ, encR, cq, encW]
  refine .mk (.tup [encQ q, .bool bb]) (by simp only [go_sem, ↓reduceIte, resR, resAll, resA, encQ, encR, cq, encW] <;> rfl) ⟨rfl, fun j hj => by simp only [go_sem, ↓reduceIte, upd1_old _ _ _ _ _ hj, upd1_old0 _ _ _ _ hj]⟩

set_option maxRecDepth 20000 in
set_option maxHeartbeats 2000000 in
theorem c_step7 (hD : Own h n D dv) (hok : StepOk i D Y.length P.length) (eop : i.op = 7) : HCalls Tryz.prog 101 [.agg [.ptr g 0], encI i, encIn T Y P, dv] h n (fun v h' n' => v = vS (stepQ T Y P i D) ∧ ∀ j, j < n → h' j = h j) := by
  obtain ⟨a1, a2⟩ := hok.reads i.a (by simp [readsI, eop])
  have hl : i.a.toNat < D.length := by omega
  have ga := get_q hl
  have la : i.a.toNat * 3 ≤ D.length * 3 := by omega
  have oa := getD_ok hok.size hl (show 9000 ≤ 9000 by omega)
  obtain ⟨b1, b2⟩ := hok.reads i.b (by simp [readsI, eop])
  have hl2 : i.b.toNat < D.length := by omega
  have gb := get_q hl2
  have lb : i.b.toNat * 3 ≤ D.length * 3 := by omega
  have ob := getD_ok hok.size hl2 (show 9000 ≤ 9000 by omega)
  have n6 : ¬ i.op = 6 := by omega
  have n11 : ¬ i.op = 11 := by omega
  have hv : stepQ T Y P i D = some (D.getD i.a.toNat 0 + D.getD i.b.toNat 0) := by simp only [stepQ, if_neg n6, if_neg n11, if_pos eop]
  have hc := c_aadd _ _ (oa.mono (l := 20000) (by omega)) (ob.mono (l := 20000) (by omega))
  rw [rv_cq, rv_cq] at hc
  rcases hD with ⟨rfl, rfl⟩ | ⟨b, rfl, hb, hbn⟩
  · simp at hl
  rw [hv]
  refine hcalls_of_AWR (pa := []) (fn := Tryz.f101) (rs := [.cell 8 46, .tmp 9]) follows_mixed Tryz.func101 rfl rfl (by kernel_rfl) (by kernel_rfl) (by rw [Tryz.ntmps101]; simp) ?_
  simp only [go_sem, ↓reduceIte, encI, encIn, encW, beq_int, dec_false n6, dec_false n11, dec_true eop, a1, a2, hb, hbn, ga, la, len_q, upd1_old _ _ _ _ _ hbn, upd1_old0 _ _ _ _ hbn, old_ne hbn, new_ne hbn, old_ne0 hbn, new_ne0 hbn, b1, b2, gb, lb]
  refine callD_p hc ?_
  simp only [go_sem, ↓reduceIte, encQ, encR, cq, encW]
  refine .mk (vS (some _)) (by simp only [go_sem, ↓reduceIte, resR, resAll, resA, vS, encQ, encR, cq, encW] <;> rfl) ⟨rfl, fun j hj => by simp only [go_sem, ↓reduceIte, upd1_old _ _ _ _ _ hj, upd1_old0 _ _ _ _ hj]⟩

set_option maxRecDepth 20000 in
set_option maxHeartbeats 2000000 in
theorem c_step8 (hD : Own h n D dv) (hok : StepOk i D Y.length P.length) (eop : i.op = 8) : HCalls Tryz.prog 101 [.agg [.ptr g 0], encI i, encIn T Y P, dv] h n (fun v h' n' => v = vS (stepQ T Y P i D) ∧ ∀ j, j < n → h' j = h j) := by
  obtain ⟨a1, a2⟩ := hok.reads i.a (by simp [readsI, eop])
  have hl : i.a.toNat < D.length := by omega
  have ga := get_q hl
  have la : i.a.toNat * 3 ≤ D.length * 3 := by omega
  have oa := getD_ok hok.size hl (show 9000 ≤ 9000 by omega)
  obtain ⟨b1, b2⟩ := hok.reads i.b (by simp [readsI, eop])
  have hl2 : i.b.toNat < D.length := by omega
  have gb := get_q hl2
  have lb : i.b.toNat * 3 ≤ D.length * 3 := by omega
  have ob := getD_ok hok.size hl2 (show 9000 ≤ 9000 by omega)
  have n6 : ¬ i.op = 6 := by omega
  have n11 : ¬ i.op = 11 := by omega
  have n7 : ¬ i.op = 7 := by omega
  have hv : stepQ T Y P i D = some (D.getD i.a.toNat 0 - D.getD i.b.toNat 0) := by simp only [stepQ, if_neg n6, if_neg n11, if_neg n7, if_pos eop]
  have hc := c_asub _ _ (oa.mono (l := 20000) (by omega)) (ob.mono (l := 20000) (by omega))
  rw [rv_cq, rv_cq] at hc
  rcases hD with ⟨rfl, rfl⟩ | ⟨b, rfl, hb, hbn⟩
  · simp at hl
  rw [hv]
  refine hcalls_of_AWR (pa := []) (fn := Tryz.f101) (rs := [.cell 8 46, .tmp 9]) follows_mixed Tryz.func101 rfl rfl (by kernel_rfl) (by kernel_rfl) (by rw [Tryz.ntmps101]; simp) ?_
  simp only [go_sem, ↓reduceIte, encI, encIn, encW, beq_int, dec_false n6, dec_false n11, dec_false n7, dec_true eop, a1, a2, hb, hbn, ga, la, len_q, upd1_old _ _ _ _ _ hbn, upd1_old0 _ _ _ _ hbn, old_ne hbn, new_ne hbn, old_ne0 hbn, new_ne0 hbn, b1, b2, gb, lb]
  refine callD_p hc ?_
  simp only [go_sem, ↓reduceIte, encQ, encR, cq, encW]
  refine .mk (vS (some _)) (by simp only [go_sem, ↓reduceIte, resR, resAll, resA, vS, encQ, encR, cq, encW] <;> rfl) ⟨rfl, fun j hj => by simp only [go_sem, ↓reduceIte, upd1_old _ _ _ _ _ hj, upd1_old0 _ _ _ _ hj]⟩

set_option maxRecDepth 20000 in
set_option maxHeartbeats 2000000 in
theorem c_step9 (hD : Own h n D dv) (hok : StepOk i D Y.length P.length) (eop : i.op = 9) : HCalls Tryz.prog 101 [.agg [.ptr g 0], encI i, encIn T Y P, dv] h n (fun v h' n' => v = vS (stepQ T Y P i D) ∧ ∀ j, j < n → h' j = h j) := by
  obtain ⟨a1, a2⟩ := hok.reads i.a (by simp [readsI, eop])
  have hl : i.a.toNat < D.length := by omega
  have ga := get_q hl
  have la : i.a.toNat * 3 ≤ D.length * 3 := by omega
  have oa := getD_ok hok.size hl (show 9000 ≤ 9000 by omega)
  obtain ⟨b1, b2⟩ := hok.reads i.b (by simp [readsI, eop])
  have hl2 : i.b.toNat < D.length := by omega
  have gb := get_q hl2
  have lb : i.b.toNat * 3 ≤ D.length * 3 := by omega
  have ob := getD_ok hok.size hl2 (show 9000 ≤ 9000 by omega)
  have n6 : ¬ i.op = 6 := by omega
  have n11 : ¬ i.op = 11 := by omega
  have n7 : ¬ i.op = 7 := by omega
  have n8 : ¬ i.op = 8 := by omega
  have hv : stepQ T Y P i D = some (D.getD i.a.toNat 0 * D.getD i.b.toNat 0) := by simp only [stepQ, if_neg n6, if_neg n11, if_neg n7, if_neg n8, if_pos eop]
  have hc := c_amul _ _ (oa.mono (l := 20000) (by omega)) (ob.mono (l := 20000) (by omega))
  rw [rv_cq, rv_cq] at hc
  rcases hD with ⟨rfl, rfl⟩ | ⟨b, rfl, hb, hbn⟩
  · simp at hl
  rw [hv]
  refine hcalls_of_AWR (pa := []) (fn := Tryz.f101) (rs := [.cell 8 46, .tmp 9]) follows_mixed Tryz.func101 rfl rfl (by kernel_rfl) (by kernel_rfl) (by rw [Tryz.ntmps101]; simp) ?_
  simp only [go_sem, ↓reduceIte, encI, encIn, encW, beq_int, dec_false n6, dec_false n11, dec_false n7, dec_false n8, dec_true eop, a1, a2, hb, hbn, ga, la, len_q, upd1_old _ _ _ _ _ hbn, upd1_old0 _ _ _ _ hbn, old_ne hbn, new_ne hbn, old_ne0 hbn, new_ne0 hbn, b1, b2, gb, lb]
  refine callD_p hc ?_
  simp only [go_sem, ↓reduceIte, encQ, encR, cq, encW]
  refine .mk (vS (some _)) (by simp only [go_sem, ↓reduceIte, resR, resAll, resA, vS, encQ, encR, cq, encW] <;> rfl) ⟨rfl, fun j hj => by simp only [go_sem, ↓reduceIte, upd1_old _ _ _ _ _ hj, upd1_old0 _ _ _ _ hj]⟩

set_option maxRecDepth 20000 in
set_option maxHeartbeats 2000000 in
theorem c_step10 (hD : Own h n D dv) (hok : StepOk i D Y.length P.length) (eop : i.op = 10) : HCalls Tryz.prog 101 [.agg [.ptr g 0], encI i, encIn T Y P, dv] h n (fun v h' n' => v = vS (stepQ T Y P i D) ∧ ∀ j, j < n → h' j = h j) := by
  obtain ⟨a1, a2⟩ := hok.reads i.a (by simp [readsI, eop])
  have hl : i.a.toNat < D.length := by omega
  have ga := get_q hl
  have la : i.a.toNat * 3 ≤ D.length * 3 := by omega
  have oa := getD_ok hok.size hl (show 9000 ≤ 9000 by omega)
  obtain ⟨b1, b2⟩ := hok.reads i.b (by simp [readsI, eop])
  have hl2 : i.b.toNat < D.length := by omega
  have gb := get_q hl2
  have lb : i.b.toNat * 3 ≤ D.length * 3 := by omega
  have ob := getD_ok hok.size hl2 (show 9000 ≤ 9000 by omega)
  have n6 : ¬ i.op = 6 := by omega
  have n11 : ¬ i.op = 11 := by omega
  have n7 : ¬ i.op = 7 := by omega
  have n8 : ¬ i.op = 8 := by omega
  have n9 : ¬ i.op = 9 := by omega
  have hv : stepQ T Y P i D = quoO (D.getD i.a.toNat 0) (D.getD i.b.toNat 0) := by simp only [stepQ, if_neg n6, if_neg n11, if_neg n7, if_neg n8, if_neg n9, if_pos eop]
  have hc := c_aquo _ _ (oa.mono (l := 20000) (by omega)) (ob.mono (l := 20000) (by omega))
  rw [rv_cq, rv_cq] at hc
  obtain ⟨q, bb, hq⟩ := vS_ex (quoO (D.getD i.a.toNat 0) (D.getD i.b.toNat 0))
  rw [hq] at hc
  replace hv := (congrArg vS hv).trans hq
  rcases hD with ⟨rfl, rfl⟩ | ⟨b, rfl, hb, hbn⟩
  · simp at hl
  rw [hv]
  refine hcalls_of_AWR (pa := []) (fn := Tryz.f101) (rs := [.cell 8 46, .tmp 9]) follows_mixed Tryz.func101 rfl rfl (by kernel_rfl) (by kernel_rfl) (by rw [Tryz.ntmps101]; simp) ?_
  simp only [go_sem, ↓reduceIte, encI, encIn, encW, beq_int, dec_false n6, dec_false n11, dec_false n7, dec_false n8, dec_false n9, dec_true eop, a1, a2, hb, hbn, ga, la, len_q, upd1_old _ _ _ _ _ hbn, upd1_old0 _ _ _ _ hbn, old_ne hbn, new_ne hbn, old_ne0 hbn, new_ne0 hbn, b1, b2, gb, lb]
  refine callD_p hc ?_
  simp only [go_sem, ↓reduceIte, encQ, encR, cq, encW]
  refine .mk (.tup [encQ q, .bool bb]) (by simp only [go_sem, ↓reduceIte, resR, resAll, resA, encQ, encR, cq, encW] <;> rfl) ⟨rfl, fun j hj => by simp only [go_sem, ↓reduceIte, upd1_old _ _ _ _ _ hj, upd1_old0 _ _ _ _ hj]⟩

set_option maxRecDepth 20000 in
set_option maxHeartbeats 2000000 in
theorem c_step (hD : Own h n D dv) (hok : StepOk i D Y.length P.length) : HCalls Tryz.prog 101 [.agg [.ptr g 0], encI i, encIn T Y P, dv] h n (fun v h' n' => v = vS (stepQ T Y P i D) ∧ ∀ j, j < n → h' j = h j) := by
  by_cases n6 : i.op = 6
  · exact c_step6 T Y P i D g dv h n hD hok n6
  by_cases n11 : i.op = 11
  · exact c_step11 T Y P i D g dv h n hD hok n11
  by_cases n7 : i.op = 7
  · exact c_step7 T Y P i D g dv h n hD hok n7
  by_cases n8 : i.op = 8
  · exact c_step8 T Y P i D g dv h n hD hok n8
  by_cases n9 : i.op = 9
  · exact c_step9 T Y P i D g dv h n hD hok n9
  by_cases n10 : i.op = 10
  · exact c_step10 T Y P i D g dv h n hD hok n10
  have hv : stepQ T Y P i D = some (leafQ T Y P i) := by simp only [stepQ, if_neg n6, if_neg n11, if_neg n7, if_neg n8, if_neg n9, if_neg n10]
  have hc := c_leaf T Y P i hok.c hok.y hok.p
  rw [hv]
  refine hcalls_of_AWR (pa := []) (fn := Tryz.f101) (rs := [.cell 8 46, .tmp 9]) follows_mixed Tryz.func101 rfl rfl (by kernel_rfl) (by kernel_rfl) (by rw [Tryz.ntmps101]; simp) ?_
  simp only [go_sem, ↓reduceIte, encI, encIn, encW, beq_int, dec_false n6, dec_false n11, dec_false n7, dec_false n8, dec_false n9, dec_false n10]
  refine callS_p hc ?_
  simp only [go_sem, ↓reduceIte, encQ, encR, cq, encW]
  refine .mk (vS (some _)) (by simp only [go_sem, ↓reduceIte, resR, resAll, resA, vS, encQ, encR, cq, encW] <;> rfl) ⟨rfl, fun j hj => by simp only [go_sem, ↓reduceIte, upd1_old _ _ _ _ _ hj, upd1_old0 _ _ _ _ hj]⟩
end
end Go.Proofs.YtopmghclhgihfaaGreatDoor

set_option linter.unusedVariables false
set_option linter.unusedSimpArgs false
set_option maxRecDepth 10000
namespace Go.Proofs.YtopmghclhgihfaaGreatDoor
open Go Go.Ab Go.Num

def encF (k a : Int) : AV := .agg [.int .i64 k, .int .i64 0, .int .i64 0, .int .i64 a]
def fitQ (l : Int) (q : Rat) : Bool := decide ((fsz (cq q) : Int) ≤ l)
def runL (T : Rat) (Y P : List Rat) (l : Int) : List Ins → List Rat → List Rat × Int × Int
  | [], D => (D, 0, 0)
  | i :: r, D => match stepQ T Y P i D with
    | none => ([], 3, D.length)
    | some q => if fitQ l q then runL T Y P l r (D ++ [q]) else ([], 6, D.length)
def runT (t : Tp) (T : Rat) (Y P : List Rat) (l : Int) : List Rat × Int × Int :=
  if wrongI t = -1 ∧ (Y.length : Int) = t.dim ∧ (P.length : Int) = t.par then runL T Y P l t.code [] else ([], 2, 0)

theorem badI_none {t : Tp} : ∀ {l : List Ins} {k : Nat}, badI t l k = none → ∀ j (h : j < l.length), mayB t l[j] (k + j) = true
  | [], k, h, j, hj => by simp at hj
  | i :: r, k, h, 0, hj => by
    rw [badI] at h
    by_cases hm : mayB t i k = true
    · exact hm
    · rw [if_neg hm] at h; cases h
  | i :: r, k, h, j + 1, hj => by
    rw [badI] at h
    by_cases hm : mayB t i k = true
    · rw [if_pos hm] at h
      have := badI_none h j (by simpa using hj)
      rw [show k + (j + 1) = k + 1 + j by omega]
      exact this
    · rw [if_neg hm] at h; cases h
theorem right_parts {t : Tp} (h : wrongI t = -1) : wholeB t = true ∧ (∀ k (hk : k < t.code.length), mayB t t.code[k] k = true) ∧ t.outs.all (fun o => belowB o t.code.length) = true := by
  unfold wrongI at h
  by_cases hw : wholeB t = true
  · rw [if_pos hw] at h
    cases hb : badI t t.code 0 with
    | some k => rw [hb] at h; simp only at h; omega
    | none =>
      rw [hb] at h
      simp only at h
      refine ⟨hw, fun k hk => ?_, ?_⟩
      · have := badI_none hb k hk
        rwa [Nat.zero_add] at this
      · by_cases ho : t.outs.all (fun o => belowB o t.code.length) = true
        · exact ho
        · rw [if_neg ho] at h; omega
  · rw [if_neg hw] at h; omega
theorem wrong_eq {t : Tp} : wrongI t = -1 ↔ wholeB t = true ∧ badI t t.code 0 = none ∧ t.outs.all (fun o => belowB o t.code.length) = true := by
  unfold wrongI
  by_cases hw : wholeB t = true
  · rw [if_pos hw]
    cases hb : badI t t.code 0 with
    | some k => simp
    | none =>
      by_cases ho : t.outs.all (fun o => belowB o t.code.length) = true
      · simp [ho, hw]
      · simp only [if_neg ho]
        constructor
        · intro h; exfalso; omega
        · intro h; exact absurd h.2.2 ho
  · rw [if_neg hw]
    constructor
    · intro h; omega
    · intro h; exact absurd h.1 hw

theorem belowB_iff {i n : Int} : belowB i n = true ↔ 0 ≤ i ∧ i < n := by simp [belowB]

theorem step_ok {t : Tp} {i : Ins} {D : List Rat} {y p : Nat} (hi : okR 80000 i.n) (hm : mayB t i D.length = true) (hy : (y : Int) = t.dim) (hp : (p : Int) = t.par) (hs : ∀ q ∈ D, qw q ≤ 9000) : StepOk i D y p := by
  unfold mayB at hm
  by_cases h1 : i.op = 1
  · exact ⟨fun r hr => (by rw [readsI, if_neg (by omega), if_neg (by omega)] at hr; cases hr), fun h => by omega, fun _ => hi, fun h => by omega, fun h => by omega, hs⟩
  · rw [if_neg h1] at hm
    simp only [Bool.and_eq_true, List.all_eq_true] at hm
    obtain ⟨m1, m2, m3⟩ := hm
    refine ⟨fun r hr => belowB_iff.1 (m2 r hr), fun h => ?_, fun h => absurd h h1, fun h => ?_, fun h => ?_, hs⟩
    · rw [kindB, if_neg (by omega), if_neg (by omega), if_neg (by omega), if_neg (by omega), if_pos h] at m3
      simpa using m3
    · rw [kindB, if_neg (by omega), if_pos h, Bool.and_eq_true] at m3
      have := belowB_iff.1 m3.1; omega
    · rw [kindB, if_neg (by omega), if_neg (by omega), if_pos h, Bool.and_eq_true] at m3
      have := belowB_iff.1 m3.1; omega

theorem getD_size {D : List Rat} {k : Nat} (h : ∀ q ∈ D, qw q ≤ k) (hk : 1 ≤ k) (i : Nat) : qw (D.getD i 0) ≤ k := by
  by_cases hi : i < D.length
  · rw [show D.getD i 0 = D[i] by simp [List.getD, hi]]; exact h _ (List.getElem_mem hi)
  · rw [show D.getD i 0 = 0 by simp [List.getD, Nat.not_lt.1 hi], qw_zero]; exact hk

theorem step_size {T : Rat} {Y P : List Rat} {i : Ins} {D : List Rat} {y p : Nat} (hok : StepOk i D y p) (hT : qw T ≤ 9000) (hY : ∀ q ∈ Y, qw q ≤ 9000) (hP : ∀ q ∈ P, qw q ≤ 9000) {q : Rat} (h : stepQ T Y P i D = some q) : qw q ≤ 80000 := by
  have ha := getD_size hok.size (by omega) i.a.toNat
  have hb := getD_size hok.size (by omega) i.b.toNat
  unfold stepQ at h
  split at h
  · cases h; rw [qw_neg]; omega
  split at h
  · rename_i _ h11
    unfold powO at h
    split at h
    · cases h
    · cases h
      have := qw_powQ (D.getD i.a.toNat 0) i.b (by have := hok.pow h11; omega)
      omega
  split at h
  · cases h; have := qw_add (D.getD i.a.toNat 0) (D.getD i.b.toNat 0); omega
  split at h
  · cases h; have := qw_sub (D.getD i.a.toNat 0) (D.getD i.b.toNat 0); omega
  split at h
  · cases h; have := qw_mul (D.getD i.a.toNat 0) (D.getD i.b.toNat 0); omega
  split at h
  · unfold quoO at h
    split at h
    · cases h
    · cases h
      have := qw_div (D.getD i.a.toNat 0) (D.getD i.b.toNat 0); omega
  · cases h
    unfold leafQ
    split
    · rename_i h1; exact qw_rv (hok.c h1) (by omega)
    split
    · have := getD_size hY (by omega) i.a.toNat; omega
    split
    · have := getD_size hP (by omega) i.a.toNat; omega
    · omega
theorem fit_size {l : Int} {q : Rat} (hl : l ≤ 4096) (h : fitQ l q = true) : qw q ≤ 200 := by
  have h := of_decide_eq_true h
  simp only [fsz, cq] at h
  have h1 := dig_len_blen q.num.natAbs
  have h2 := dig_len_blen q.den
  rw [val_dig, val_dig] at h
  unfold qw
  omega
end Go.Proofs.YtopmghclhgihfaaGreatDoor

set_option linter.unusedVariables false
set_option linter.unusedSimpArgs false
set_option maxRecDepth 10000
namespace Go.Proofs.YtopmghclhgihfaaGreatDoor
open Go Go.Ab Go.Num

/-- The run's own variables, where they lie. -/
structure RunH (n g : Nat) (l : Int) (t : Tp) (T : Rat) (Y P : List Rat) (H : Heap) : Prop where
  m : H n = some [.ptr g 0]
  t : H (n + 1) = some [.sl 6 (t.code.map encI), .sl 1 (t.outs.map i64), .int .i64 t.dim, .int .i64 t.par]
  i : H (n + 2) = some [.bool (cq T).neg, encW (cq T).n, encW (cq T).d, .sl 3 (Y.map encQ), .sl 3 (P.map encQ)]
  f : H (n + 4) = some [.int .i64 0, .int .i64 0, .int .i64 0, .int .i64 0]
  g : Gau H g l

theorem RunH.keep {n g : Nat} {l : Int} {t : Tp} {T : Rat} {Y P : List Rat} {H H' : Heap} {N : Nat} (h : RunH n g l t T Y P H) (hn : n + 5 ≤ N) (hg : g < n) (hk : ∀ j, j < N → j ≠ g → H' j = H j) (hgg : Gau H' g l) : RunH n g l t T Y P H' :=
  ⟨by rw [hk _ (by omega) (by omega)]; exact h.m, by rw [hk _ (by omega) (by omega)]; exact h.t, by rw [hk _ (by omega) (by omega)]; exact h.i, by rw [hk _ (by omega) (by omega)]; exact h.f, hgg⟩
theorem Gau.eq {H H' : Heap} {g : Nat} {l : Int} (h : Gau H g l) (he : H' g = H g) : Gau H' g l := by
  obtain ⟨s, p, h⟩ := h
  exact ⟨s, p, by rw [he, h]⟩

theorem upd1_nei {H : Heap} {i b : Nat} {x : Option Blk} (h : b ≠ i) : upd1 H i x b = H b := by simp only [upd1]; rw [if_neg h]
theorem Own.keep {H H' : Heap} {N N' : Nat} {D : List Rat} {u : AV} (h : Own H N D u) (hN : N ≤ N') (hk : ∀ b o l e, u = .own b o l e → b < N → H' b = H b) : Own H' N' D u := by
  rcases h with h | ⟨b, h1, h2, h3⟩
  · exact .inl h
  · exact .inr ⟨b, h1, by rw [hk _ _ _ _ h1 h3, h2], by omega⟩
/-- What a run hands back. -/
def RunP (h : Heap) (n g : Nat) (r : List Rat × Int × Int) (v : AV) (h' : Heap) (n' : Nat) : Prop := (∃ u, v = .tup [u, encF r.2.1 r.2.2] ∧ Own h' n' r.1 u ∧ ∀ b o l e, u = .own b o l e → n ≤ b) ∧ ∀ j, j < n → j ≠ g → h' j = h j


section
variable (t : Tp) (T : Rat) (Y P : List Rat) (g : Nat) (l : Int) (h : Heap) (n : Nat)
set_option maxRecDepth 20000 in
set_option maxHeartbeats 2000000 in
theorem c_runm (ht : okT t) (hT : qw T ≤ 9000) (hY : ∀ q ∈ Y, qw q ≤ 9000) (hP : ∀ q ∈ P, qw q ≤ 9000) (hl : l ≤ 4096) (hg : Gau h g l) (hgn : g < n) :
    HCalls Tryz.prog 70 [.agg [.ptr g 0], encT t, encIn T Y P] h n (RunP h n g (runT t T Y P l)) := by
  have hr := c_right t ht
  unfold runT
  refine hcalls_of_AWR (pa := []) (fn := Tryz.f70) (rs := [.tmp 6, .cell 7 56]) follows_mixed Tryz.func70 rfl rfl (by kernel_rfl) (by kernel_rfl) (by rw [Tryz.ntmps70]; simp) ?_
  simp only [go_sem, ↓reduceIte, encT, encIn, encW]
  refine callS_p hr ?_
  by_cases e1 : wrongI t = -1
  case neg =>
    rw [if_neg (fun h => e1 h.1)]
    simp only [go_sem, ↓reduceIte, dec_false e1]
    refine .mk (.tup [.nilsl, encF 2 0]) (by simp only [go_sem, ↓reduceIte, resR, resAll, resA, encF] <;> rfl) ⟨⟨_, rfl, .inl ⟨rfl, rfl⟩, fun _ _ _ _ h => by cases h⟩, fun j hj hjg => by simp only [go_sem, ↓reduceIte, upd1_old _ _ _ _ _ hj, upd1_old0 _ _ _ _ hj]⟩
  by_cases e2 : (Y.length : Int) = t.dim
  case neg =>
    rw [if_neg (fun h => e2 h.2.1)]
    simp only [go_sem, ↓reduceIte, dec_true e1, bne_int, dec_false e2]
    refine .mk (.tup [.nilsl, encF 2 0]) (by simp only [go_sem, ↓reduceIte, resR, resAll, resA, encF] <;> rfl) ⟨⟨_, rfl, .inl ⟨rfl, rfl⟩, fun _ _ _ _ h => by cases h⟩, fun j hj hjg => by simp only [go_sem, ↓reduceIte, upd1_old _ _ _ _ _ hj, upd1_old0 _ _ _ _ hj]⟩
  by_cases e3 : (P.length : Int) = t.par
  case neg =>
    rw [if_neg (fun h => e3 h.2.2)]
    simp only [go_sem, ↓reduceIte, dec_true e1, bne_int, dec_true e2, dec_false e3]
    refine .mk (.tup [.nilsl, encF 2 0]) (by simp only [go_sem, ↓reduceIte, resR, resAll, resA, encF] <;> rfl) ⟨⟨_, rfl, .inl ⟨rfl, rfl⟩, fun _ _ _ _ h => by cases h⟩, fun j hj hjg => by simp only [go_sem, ↓reduceIte, upd1_old _ _ _ _ _ hj, upd1_old0 _ _ _ _ hj]⟩
  rw [if_pos ⟨e1, e2, e3⟩]
  obtain ⟨ew, em, eo⟩ := right_parts e1
  obtain ⟨hlen, -⟩ := whole_le ht ew
  simp only [go_sem, ↓reduceIte, dec_true e1, bne_int, dec_true e2, dec_true e3]
  refine AW_while (fun m st => ∃ i D u, i + m = t.code.length ∧ D.length = i ∧ runL T Y P l (t.code.drop i) D = runL T Y P l t.code [] ∧ (∀ q ∈ D, qw q ≤ 9000) ∧ st.τ 3 = .ptr n 0 ∧ st.τ 4 = .ptr (n + 1) 0 ∧ st.τ 5 = .ptr (n + 2) 0 ∧ st.τ 7 = .ptr (n + 4) 0 ∧ st.τ 8 = u ∧ Own st.h st.n D u ∧ (∀ b o l e, u = .own b o l e → n + 5 ≤ b) ∧
    st.τ 34 = .sl 6 (t.code.map encI) ∧ st.τ 35 = .int .i64 t.code.length ∧ st.τ 36 = .int .i64 (i : Nat) ∧ RunH n g l t T Y P st.h ∧ n + 5 ≤ st.n ∧ ∀ j, j < n → j ≠ g → st.h j = h j) t.code.length ?_ ?_
  · refine ⟨0, [], .nilsl, by omega, rfl, rfl, (fun q hq => by cases hq), by simp only [go_sem, ↓reduceIte], by simp only [go_sem, ↓reduceIte], by simp only [go_sem, ↓reduceIte], by simp only [go_sem, ↓reduceIte], by simp only [go_sem, ↓reduceIte], .inl ⟨rfl, rfl⟩, (fun _ _ _ _ h => by cases h), by simp only [go_sem, ↓reduceIte], by simp only [go_sem, ↓reduceIte], by simp only [go_sem, ↓reduceIte] <;> rfl, ⟨by simp only [go_sem, ↓reduceIte], by simp only [go_sem, ↓reduceIte], by simp only [go_sem, ↓reduceIte, encW], by simp only [go_sem, ↓reduceIte], ?_⟩, by simp only [go_sem, ↓reduceIte] <;> omega, fun j hj hjg => by simp only [go_sem, ↓reduceIte, upd1_old _ _ _ _ _ hj, upd1_old0 _ _ _ _ hj]⟩
    exact hg.eq (by simp only [go_sem, ↓reduceIte, upd1_old _ _ _ _ _ hgn, upd1_old0 _ _ _ _ hgn])
  · rintro m st ⟨i, D, u, hi, hDl, hs, hDs, h3, h4, h5, h7, h8, hD, hub, h34, h35, h36, hH, hn, hkp⟩ next
    by_cases hlt : i < t.code.length
    case neg =>
      have hlt' := dec_false (show ¬ ((i : Nat) : Int) < (t.code.length : Nat) by omega)
      rw [List.drop_eq_nil_of_le (by omega), runL] at hs
      rw [← hs]
      simp only [go_sem, ↓reduceIte, h3, h4, h5, h7, h8, h34, h35, h36, hlt', hH.f]
      refine .mk (.tup [u, encF 0 0]) (by simp only [go_sem, ↓reduceIte, resR, resAll, resA, encF, h7, h8, hH.f] <;> rfl) ⟨⟨_, rfl, hD.keep (by simp only [go_sem, ↓reduceIte] <;> omega) (fun b o l e hb hbn => by simp only [go_sem, ↓reduceIte]; exact upd1_nei (by have := hub _ _ _ _ hb; omega)), fun b o l e hb => by have := hub _ _ _ _ hb; omega⟩, fun j hj hjg => by simp only [go_sem, ↓reduceIte, upd1_old _ _ _ _ _ hj, hkp j hj hjg]⟩
    have hlt' : ((i : Nat) : Int) < (t.code.length : Nat) := by omega
    have hm := em i hlt
    have hci := ht.code _ (List.getElem_mem hlt)
    rw [drop_cons hlt, runL] at hs
    have hgd := getD_map_lt encI t.code i .undef hlt
    generalize hx : t.code[i] = x at *
    have hok : StepOk x D Y.length P.length := step_ok hci (by rw [hDl]; exact hm) e2 e3 hDs
    have hst := fun H N (hD : Own H N D u) => c_step T Y P x D g u H N hD hok
    simp only [encI, encIn, encW] at hst
    simp only [go_sem, ↓reduceIte, h3, h4, h5, h7, h8, h34, h35, h36, hlt', hgd, encI, encW, hH.m, hH.t, hH.i, upd1_old _ _ _ _ _ (show n < st.n by omega), upd1_old _ _ _ _ _ (show n + 2 < st.n by omega)]
    refine callS_h (hst _ _ (hD.keep (by simp only [go_sem, ↓reduceIte] <;> omega) fun b _ _ _ _ hbn => by simp only [go_sem, ↓reduceIte]; rw [upd1_nei (by omega), upd1_nei (by omega)])) ?_
    clear hst
    rintro v h' n' hn' ⟨rfl, hk'⟩
    simp only [go_sem, ↓reduceIte] at hn' hk'
    have hk1 : ∀ j, j < st.n → h' j = st.h j := fun j hj => by rw [hk' j (by omega), upd1_nei (by omega), upd1_nei (by omega)]
    have hH' : RunH n g l t T Y P h' := hH.keep hn hgn (fun j hj _ => hk1 j hj) (hH.g.eq (hk1 g (by omega)))
    have hD' : Own h' n' D u := hD.keep (by omega) fun b _ _ _ _ hbn => hk1 b hbn
    cases eq : stepQ T Y P x D with
    | none =>
      rw [eq] at hs
      simp only at hs
      rw [← hs]
      simp only [go_sem, ↓reduceIte, vS, encQ, encR, encW, h3, h4, h5, h7, h8, hH'.f, upd1_old _ _ _ _ _ (show n + 4 < st.n by omega)]
      refine .mk (.tup [.nilsl, encF 3 i]) (by simp only [go_sem, ↓reduceIte, resR, resAll, resA, encF, h7, hDl, hH'.f] <;> rfl) ⟨⟨_, by rw [hDl], .inl ⟨rfl, rfl⟩, fun _ _ _ _ h => by cases h⟩, fun j hj hjg => by simp only [go_sem, ↓reduceIte, upd1_old _ _ _ _ _ hj, upd1_old _ _ _ _ _ (show j < st.n by omega), hk1 j (by omega), hkp j hj hjg]⟩
    | some q =>
      rw [eq] at hs
      simp only at hs
      have hq8 := step_size hok hT hY hP eq
      have hft := fun H N (h1 : Gau H g l) (h2 : g < N) => c_fits g (cq q) (okR_cq hq8) H N l h1 h2
      simp only [encR, encW] at hft
      simp only [go_sem, ↓reduceIte, vS, encQ, encR, encW, h3, h4, h5, h7, h8, hH'.f, hH'.m, upd1_old _ _ _ _ _ (show n + 4 < st.n by omega), upd1_old _ _ _ _ _ (show n < st.n by omega)]
      refine callS_h (hft _ _ (hH'.g.eq (by simp only [go_sem, ↓reduceIte, upd1_old _ _ _ _ _ (show g < st.n by omega)])) (by simp only [go_sem, ↓reduceIte] <;> omega)) ?_
      clear hft
      rintro v h'' n'' hn'' ⟨rfl, hgg, hk'⟩
      simp only [go_sem, ↓reduceIte] at hn'' hk'
      have hk2 : ∀ j, j < n' → j ≠ g → j ≠ st.n + 15 → h'' j = h' j := fun j hj hjg hj' => by rw [hk' j (by omega) hjg, upd1_nei hj', upd1_nei hj']
      have hk3 : h'' (st.n + 15) = some [.bool (cq q).neg, encW (cq q).n, encW (cq q).d] := by rw [hk' _ (by omega) (by omega)]; simp only [go_sem, ↓reduceIte, encW]
      have hH2 : RunH n g l t T Y P h'' := hH'.keep (N := st.n) hn hgn (fun j hj hjg => hk2 j (by omega) hjg (by omega)) hgg
      have hD2 : Own h'' n'' D u := by
        rcases hD with hD | ⟨b, k1, k2, k3⟩
        · exact .inl hD
        · have := hub _ _ _ _ k1
          exact .inr ⟨b, k1, by rw [hk2 b (by omega) (by omega) (by omega), hk1 b k3, k2], by omega⟩
      cases ef : decide ((fsz (cq q) : Int) ≤ l) with
      | false =>
        rw [show fitQ l q = false from ef, if_neg (by decide)] at hs
        rw [← hs]
        simp only [go_sem, ↓reduceIte, vS, encQ, encR, encW, h3, h4, h5, h7, h8, hH2.f, hH2.m, upd1_old _ _ _ _ _ (show n + 4 < st.n by omega)]
        refine .mk (.tup [.nilsl, encF 6 i]) (by simp only [go_sem, ↓reduceIte, resR, resAll, resA, encF, h7, hDl, hH2.f] <;> rfl) ⟨⟨_, by rw [hDl], .inl ⟨rfl, rfl⟩, fun _ _ _ _ h => by cases h⟩, fun j hj hjg => by simp only [go_sem, ↓reduceIte, upd1_old _ _ _ _ _ hj, upd1_old _ _ _ _ _ (show j < st.n by omega)]; rw [hk2 j (by omega) hjg (by omega), hk1 j (by omega), hkp j hj hjg]⟩
      | true =>
        rw [show fitQ l q = true from ef, if_pos rfl] at hs
        have hfs := fit_size hl ef
        have hlen3 := len_q D
        simp only [go_sem, ↓reduceIte, vS, encQ, encR, encW, h3, h4, h5, h7, h8, hH2.f, hH2.m, hk3, upd1_old _ _ _ _ _ (show n + 4 < st.n by omega)]
        have hi38 : i ≤ 274877906944 := by omega
        have hDs' : ∀ q' ∈ D ++ [q], qw q' ≤ 9000 := fun q' hq' => by
          rcases List.mem_append.1 hq' with h | h
          · exact hDs q' h
          · simp at h; subst h; omega
        have hDl' : (D ++ [q]).length = i + 1 := by simp [hDl]
        rcases hD2 with ⟨rfl, hu⟩ | ⟨b, hu, hb, hbn⟩
        · subst hu
          have hi0 : i = 0 := by simpa using hDl.symm
          subst hi0
          simp only [go_sem, ↓reduceIte, h3, h4, h5, h7, h8, h36]
          refine next (m - 1) _ (by omega) ⟨1, [] ++ [q], _, by omega, hDl', hs, hDs', by simp only [go_sem, ↓reduceIte, h3], by simp only [go_sem, ↓reduceIte, h4], by simp only [go_sem, ↓reduceIte, h5], by simp only [go_sem, ↓reduceIte, h7], by simp only [go_sem, ↓reduceIte] <;> rfl, .inr ⟨_, rfl, by simp only [go_sem, ↓reduceIte] <;> rfl, by simp only [go_sem, ↓reduceIte] <;> omega⟩, (fun _ _ _ _ h => by cases h; omega), by simp only [go_sem, ↓reduceIte, h34] <;> rfl, by simp only [go_sem, ↓reduceIte, h35], by simp only [go_sem, ↓reduceIte, h36] <;> rfl, hH2.keep (N := st.n) hn hgn (fun j hj _ => by simp only [go_sem, ↓reduceIte, upd1_old _ _ _ _ _ (show j < n'' by omega)]) (hH2.g.eq (by simp only [go_sem, ↓reduceIte, upd1_old _ _ _ _ _ (show g < n'' by omega)])), by simp only [go_sem, ↓reduceIte] <;> omega, fun j hj hjg => by simp only [go_sem, ↓reduceIte, upd1_old _ _ _ _ _ (show j < n'' by omega)]; rw [hk2 j (by omega) hjg (by omega), hk1 j (by omega), hkp j hj hjg]⟩
        · have hbg := hub _ _ _ _ hu
          rw [hDl] at hu
          subst hu
          rw [hDl] at hlen3
          simp only [go_sem, ↓reduceIte, h3, h4, h5, h7, h8, h36, hb, hlen3, hi38, upd1_old _ _ _ _ _ hbn, old_ne hbn, new_ne hbn]
          refine next (m - 1) _ (by omega) ⟨i + 1, D ++ [q], _, by omega, hDl', hs, hDs', by simp only [go_sem, ↓reduceIte, h3], by simp only [go_sem, ↓reduceIte, h4], by simp only [go_sem, ↓reduceIte, h5], by simp only [go_sem, ↓reduceIte, h7], by simp only [go_sem, ↓reduceIte] <;> rfl, .inr ⟨_, by rw [hDl'], by rw [flatC_snoc]; simp only [go_sem, ↓reduceIte, List.take_of_length_le (Nat.le_of_eq hlen3), encQ, encR, encW] <;> rfl, by simp only [go_sem, ↓reduceIte] <;> omega⟩, (fun _ _ _ _ h => by cases h; omega), by simp only [go_sem, ↓reduceIte, h34] <;> rfl, by simp only [go_sem, ↓reduceIte, h35], by simp only [go_sem, ↓reduceIte, h36]; rw [wrap64_id (by omega) (by omega)]; rfl, hH2.keep (N := n + 5) (by omega) hgn (fun j hj _ => by simp only [go_sem, ↓reduceIte]; rw [upd1_old _ _ _ _ _ (show j < n'' by omega), upd1_nei (by omega), upd1_old _ _ _ _ _ (show j < n'' by omega)]) (hH2.g.eq (by simp only [go_sem, ↓reduceIte]; rw [upd1_old _ _ _ _ _ (show g < n'' by omega), upd1_nei (by omega), upd1_old _ _ _ _ _ (show g < n'' by omega)])), by simp only [go_sem, ↓reduceIte] <;> omega, fun j hj hjg => by simp only [go_sem, ↓reduceIte]; rw [upd1_old _ _ _ _ _ (show j < n'' by omega), upd1_nei (by omega), upd1_old _ _ _ _ _ (show j < n'' by omega), hk2 j (by omega) hjg (by omega), hk1 j (by omega), hkp j hj hjg]⟩
end
end Go.Proofs.YtopmghclhgihfaaGreatDoor

set_option linter.unusedVariables false
set_option linter.unusedSimpArgs false
set_option maxRecDepth 10000
namespace Go.Proofs.YtopmghclhgihfaaGreatDoor
open Go Go.Ab Go.Num

theorem elt_r : Elt 3 encR := ⟨by omega, fun q => ⟨_, rfl, rfl, rfl, rfl⟩⟩

theorem map_take_snoc {α β : Type} (f : α → β) {l : List α} {i : Nat} (h : i < l.length) : (l.take (i + 1)).map f = (l.take i).map f ++ [f l[i]] := by rw [take_snoc h, List.map_append]; rfl

set_option maxRecDepth 20000 in
theorem c_norms (l : List Fr) (hl : l.length ≤ 100000) (hok : ∀ f ∈ l, okR 80000 f) : PCalls Tryz.prog 100 [.sl 3 (l.map encR)] (.sl 3 ((l.map rv).map encQ)) := by
  refine pcalls_of_AW (pa := []) (fn := Tryz.f100) (ts := [2]) follows_mixed Tryz.func100 rfl rfl (by kernel_rfl) (by kernel_rfl) (by rw [Tryz.ntmps100]; simp) ?_
  simp only [go_sem, ↓reduceIte]
  refine AW_while (fun m st => ∃ i, i + m = l.length ∧ st.τ 6 = .sl 3 (l.map encR) ∧ st.τ 7 = .int .i64 l.length ∧ st.τ 8 = .int .i64 (i : Nat) ∧ Acc 3 encQ st (st.τ 3) ((l.take i).map rv)) l.length ?_ ?_
  · exact ⟨0, by omega, by simp only [go_sem, ↓reduceIte], by simp only [go_sem, ↓reduceIte], by simp only [go_sem, ↓reduceIte] <;> rfl, .inl ⟨by simp, by simp only [go_sem, ↓reduceIte]⟩⟩
  · rintro m st ⟨i, hi, h6, h7, h8, hacc⟩ next
    by_cases hlt : i < l.length
    · have hlt' : ((i : Nat) : Int) < (l.length : Nat) := by omega
      have hc := c_fnorm l[i] (hok _ (List.getElem_mem hlt))
      simp only [go_sem, ↓reduceIte, h6, h7, h8, hlt', getD_map_lt _ _ _ _ hlt, encR, encW]
      refine callS_p hc ?_
      have hl3 : (flatC encQ ((l.take i).map rv)).length = i * 3 := by rw [len_q]; simp; omega
      have hi38 : i ≤ 274877906944 := by omega
      have htk : ((l.take i).map rv).length = i := by simp; omega
      have htk1 : ((l.take (i + 1)).map rv).length = i + 1 := by simp; omega
      rcases hacc with ⟨hnil, h3⟩ | ⟨b, h3, hb, hbn⟩
      · have hi0 : i = 0 := by rw [hnil] at htk; simp at htk; omega
        subst hi0
        simp only [go_sem, ↓reduceIte, h3, h6, h7, h8, hlt', encQ, encR, encW]
        refine next (m - 1) _ (by omega) ⟨1, by omega, by simp only [go_sem, ↓reduceIte, h6], by simp only [go_sem, ↓reduceIte, h7], by simp only [go_sem, ↓reduceIte] <;> rfl, .inr ⟨_, by rw [htk1]; simp only [go_sem, ↓reduceIte] <;> rfl, by rw [map_take_snoc rv hlt, flatC_snoc, hnil]; simp only [go_sem, ↓reduceIte, flatC_nil, encQ, encR, encW] <;> rfl, by simp only [go_sem, ↓reduceIte] <;> omega⟩⟩
      · rw [htk] at h3
        simp only [go_sem, ↓reduceIte, h3, h6, h7, h8, hlt', encQ, encR, encW, hb, hl3, hi38, upd1_old _ _ _ _ _ hbn, old_ne hbn, new_ne hbn]
        refine next (m - 1) _ (by omega) ⟨i + 1, by omega, by simp only [go_sem, ↓reduceIte, h6], by simp only [go_sem, ↓reduceIte, h7], by simp only [go_sem, ↓reduceIte]; rw [wrap64_id (by omega) (by omega)]; rfl, .inr ⟨_, by rw [htk1]; simp only [go_sem, ↓reduceIte] <;> rfl, by rw [map_take_snoc rv hlt, flatC_snoc]; simp only [go_sem, ↓reduceIte, List.take_of_length_le (Nat.le_of_eq hl3), encQ, encR, encW] <;> rfl, by simp only [go_sem, ↓reduceIte] <;> omega⟩⟩
    · have hlt' := dec_false (show ¬ ((i : Nat) : Int) < (l.length : Nat) by omega)
      rw [List.take_of_length_le (by omega)] at hacc
      simp only [go_sem, ↓reduceIte, h6, h7, h8, hlt']
      refine Acc.ret elt_q ?_
      rcases hacc with ⟨hnil, h3⟩ | ⟨b, h3, hb, hbn⟩
      · exact .inl ⟨hnil, by simp only [go_sem, ↓reduceIte, h3]⟩
      · exact .inr ⟨b, by simp only [go_sem, ↓reduceIte, h3] <;> rfl, by simp only [go_sem, ↓reduceIte, hb] <;> rfl, by simp only [go_sem, ↓reduceIte]; omega⟩

/-- A point as it stands. -/
structure Pt where
  t : Fr
  y : List Fr
  p : List Fr
def encPt (a : Pt) : AV := .agg [.bool a.t.neg, encW a.t.n, encW a.t.d, .sl 3 (a.y.map encR), .sl 3 (a.p.map encR)]
structure okP (k : Nat) (a : Pt) : Prop where
  t : okR k a.t
  y : ∀ f ∈ a.y, okR k f
  p : ∀ f ∈ a.p, okR k f
  ly : a.y.length ≤ 100000
  lp : a.p.length ≤ 100000

set_option maxRecDepth 20000 in
theorem c_enorm (a : Pt) (ha : okP 80000 a) : PCalls Tryz.prog 69 [encPt a] (encIn (rv a.t) (a.y.map rv) (a.p.map rv)) := by
  have h1 := c_fnorm a.t ha.t
  have h2 := c_norms a.y ha.ly ha.y
  have h3 := c_norms a.p ha.lp ha.p
  refine pcalls_of_AWR (pa := []) (fn := Tryz.f69) (rs := [.cell 2 49]) follows_mixed Tryz.func69 rfl rfl (by kernel_rfl) (by kernel_rfl) (by rw [Tryz.ntmps69]; simp) ?_
  simp only [go_sem, ↓reduceIte, encPt, encW]
  refine callD_p h1 ?_
  simp only [go_sem, ↓reduceIte, encQ, encR, encW]
  refine callD_p h2 ?_
  simp only [go_sem, ↓reduceIte, encQ, encR, encW]
  refine callD_p h3 ?_
  simp only [go_sem, ↓reduceIte, encQ, encR, encW]
  exact .mk (by simp only [go_sem, ↓reduceIte, encIn, encQ, encR, encW] <;> rfl)

/-- A run's answer, as a value. -/
def vT (r : List Rat × Int × Int) : AV := .tup [.sl 3 (r.1.map encQ), encF r.2.1 r.2.2]
theorem RunP.frz {r : List Rat × Int × Int} {u : AV} {h : Heap} {n : Nat} (hu : Own h n r.1 u) : (frz1 h u).le (.sl 3 (r.1.map encQ)) := by
  rcases hu with ⟨h1, rfl⟩ | ⟨b, rfl, h2, _⟩
  · rw [h1]; exact AV.le_nil 3
  · exact AV.le_of_eq (frz1_flatC elt_q h2)

set_option maxRecDepth 20000 in
theorem c_tape (t : Tp) (a : Pt) (bits : Int) (ht : okT t) (ha : okP 9000 a) : PCalls Tryz.prog 40 [encT t, encPt a, .int .i64 bits] (vT (runT t (rv a.t) (a.y.map rv) (a.p.map rv) (clampB bits))) := by
  have hn := c_enorm a ⟨ha.t.mono (by omega), fun f hf => (ha.y f hf).mono (by omega), fun f hf => (ha.p f hf).mono (by omega), ha.ly, ha.lp⟩
  have hl : clampB bits ≤ 4096 := by unfold clampB; omega
  have hrun := fun g H N h1 h2 => c_runm t (rv a.t) (a.y.map rv) (a.p.map rv) g (clampB bits) H N ht (qw_rv ha.t (by omega)) (fun q hq => by
    obtain ⟨f, hf, rfl⟩ := List.mem_map.1 hq
    exact qw_rv (ha.y f hf) (by omega)) (fun q hq => by
    obtain ⟨f, hf, rfl⟩ := List.mem_map.1 hq
    exact qw_rv (ha.p f hf) (by omega)) hl h1 h2
  generalize runT t (rv a.t) (a.y.map rv) (a.p.map rv) (clampB bits) = r at *
  refine pcalls_of_AWR (pa := []) (fn := Tryz.f40) (rs := [.tmp 6, .cell 7 56]) follows_mixed Tryz.func40 rfl rfl (by kernel_rfl) (by kernel_rfl) (by rw [Tryz.ntmps40]; simp) ?_
  simp only [go_sem, ↓reduceIte, encT, encPt, encW]
  refine callS_p hn ?_
  simp only [go_sem, ↓reduceIte, encIn, encW]
  refine callS_h (c_gnew bits _ _) ?_
  rintro v h' n' hn' ⟨b, rfl, hb1, hb2, hg, hk⟩
  simp only [go_sem, ↓reduceIte] at hn' hb1 hk
  have k0 : h' 0 = _ := hk 0 (by omega)
  have k1 : h' 1 = _ := hk 1 (by omega)
  have k3 : h' 3 = _ := hk 3 (by omega)
  simp only [go_sem, ↓reduceIte] at k0 k1 k3
  simp only [encT, encIn, encW] at hrun
  simp only [go_sem, ↓reduceIte, k0, k1, k3]
  refine callS_h (hrun b _ _ (hg.eq (by simp only [go_sem, ↓reduceIte]; rw [upd1_nei (by omega), upd1_nei (by omega)])) (by simp only [go_sem, ↓reduceIte] <;> omega)) ?_
  rintro v h2 n2 hn2 ⟨⟨u, rfl, hu, hub⟩, hk2⟩
  have e3 : h2 3 = some [.int .i64 0, .int .i64 0, .int .i64 0, .int .i64 0] := by rw [hk2 3 (by simp only [go_sem, ↓reduceIte] <;> omega) (by omega)]; simp only [go_sem, ↓reduceIte, k3]
  simp only [go_sem, ↓reduceIte, encF, e3]
  have hu2 : Own (upd1 h2 3 (some [.int .i64 r.2.1, .int .i64 0, .int .i64 0, .int .i64 r.2.2])) n2 r.1 u := hu.keep (Nat.le_refl _) fun b o l e hb _ => upd1_nei (by have := hub _ _ _ _ hb; simp only [go_sem, ↓reduceIte] at this; omega)
  refine .mk_le (u := .tup [frz1 (upd1 h2 3 (some [.int .i64 r.2.1, .int .i64 0, .int .i64 0, .int .i64 r.2.2])) u, encF r.2.1 r.2.2]) ?_ (AV.le_tup2 (RunP.frz hu2) (AV.le_refl _))
  rcases hu2 with ⟨_, rfl⟩ | ⟨b, rfl, hb, _⟩
  · simp only [go_sem, ↓reduceIte, resR, resAll, resA, encF] <;> rfl
  · simp only [go_sem, ↓reduceIte, resR, resAll, resA, encF] <;> rfl
end Go.Proofs.YtopmghclhgihfaaGreatDoor

set_option linter.unusedVariables false
set_option linter.unusedSimpArgs false
set_option maxRecDepth 10000
namespace Go.Proofs.YtopmghclhgihfaaGreatDoor
open Go.ChangeShapes Go.WideShapes Go.ChangeAt Go.RowKit Go.Ab Go.Num

def wdR (f : Fr) : Prop := Wd f.n ∧ Wd f.d
def wdP (a : Pt) : Prop := wdR a.t ∧ (∀ f ∈ a.y, wdR f) ∧ ∀ f ∈ a.p, wdR f
theorem readsW (W : World) : Reads Tryz.prog W 26 (fun l : List Nat => AV.sl 1 (l.map fun x : Nat => .int .u32 (x : Int))) (fun l => ∀ a ∈ l, a < 4294967296) :=
  reads_slice (reads_u32 Tryz.underlying169 (cellsOf_eq ts_169)) Tryz.underlying26 (cellsOf_eq ts_169) (by omega) (cellsOf_eq ts_26)
theorem readsJ (W : World) : Reads Tryz.prog W 3 (fun n : Int => .int .i64 n) (fun n => (Lit.int .i64 n).wf = true) := reads_int Tryz.underlying3 (cellsOf_eq ts_3)
theorem wf64 {n : Int} (h : (Lit.int .i64 n).wf = true) : -9223372036854775808 ≤ n ∧ n ≤ 9223372036854775807 := by
  simpa [Lit.wf, IntKind.min, IntKind.max, IntKind.signed, IntKind.bits] using h
theorem readsIs (W : World) : Reads Tryz.prog W 23 (fun l : List Int => AV.sl 1 (l.map i64)) (fun l => ∀ a ∈ l, (Lit.int .i64 a).wf = true) :=
  reads_slice (readsJ W) Tryz.underlying23 (cellsOf_eq ts_3) (by omega) (cellsOf_eq ts_23)
theorem readsFr (W : World) : Reads Tryz.prog W 28 encR wdR :=
  (readsC_st (Qs := [QR (fun b => .bool b) (fun _ => True), QR (fun l : List Nat => AV.sl 1 (l.map fun x : Nat => .int .u32 (x : Int))) (fun l => ∀ a ∈ l, a < 4294967296), QR (fun l : List Nat => AV.sl 1 (l.map fun x : Nat => .int .u32 (x : Int))) (fun l => ∀ a ∈ l, a < 4294967296)]) Tryz.underlying28 (by kernel_rfl)
    ⟨(reads_bool Tryz.underlying4 (cellsOf_eq ts_4)).toC, (readsW W).toC, (readsW W).toC, trivial⟩).toReads encR _ (by
    rintro ys ⟨a, b, rfl, ⟨s, _, hs⟩, c, d, rfl, ⟨l, hl, hc⟩, e, f, rfl, ⟨m, hm, he⟩, rfl⟩
    cases hs; cases hc; cases he
    exact ⟨⟨s, l, m⟩, ⟨hl, hm⟩, rfl⟩)
theorem readsFrs (W : World) : Reads Tryz.prog W 29 (fun l : List Fr => AV.sl 3 (l.map encR)) (fun l => ∀ f ∈ l, wdR f) :=
  reads_slice (readsFr W) Tryz.underlying29 (cellsOf_eq ts_28) (by omega) (cellsOf_eq ts_29)
theorem readsPt (W : World) : ReadsC Tryz.prog W 31 (QR encPt wdP) := fun H enc base sp held fuel cs x h => by
  obtain ⟨ys, ⟨a, b, rfl, ⟨f, hf, ha⟩, c, d, rfl, ⟨l, hl, hc⟩, e, g, rfl, ⟨m, hm, he⟩, rfl⟩, hr⟩ := readsC_st (P := Tryz.prog) (w := W) (Qs := [QR encR wdR, QR (fun l : List Fr => AV.sl 3 (l.map encR)) (fun l => ∀ f ∈ l, wdR f), QR (fun l : List Fr => AV.sl 3 (l.map encR)) (fun l => ∀ f ∈ l, wdR f)]) Tryz.underlying31 (by kernel_rfl)
    ⟨(readsFr W).toC, (readsFrs W).toC, (readsFrs W).toC, trivial⟩ H enc base sp held fuel cs x h
  cases ha; cases hc; cases he
  exact ⟨_, ⟨⟨f, l, m⟩, ⟨hf, hl, hm⟩, rfl⟩, hr⟩
end Go.Proofs.YtopmghclhgihfaaGreatDoor

set_option linter.unusedVariables false
set_option linter.unusedSimpArgs false
set_option maxRecDepth 10000
namespace Go.Proofs.YtopmghclhgihfaaGreatDoor
open Go.ChangeShapes Go.WideShapes Go.ChangeAt Go.RowKit Go.Ab Go.Num

def wdT (t : Tp) : Prop := (∀ i ∈ t.code, wdR i.n) ∧ -9223372036854775808 ≤ t.dim ∧ t.dim ≤ 9223372036854775807
theorem readsIn (W : World) : Reads Tryz.prog W 88 encI (fun i => wdR i.n) :=
  (readsC_st (Qs := [QR (fun n : Int => .int .i64 n) (fun n => (Lit.int .i64 n).wf = true), QR (fun n : Int => .int .i64 n) (fun n => (Lit.int .i64 n).wf = true), QR (fun n : Int => .int .i64 n) (fun n => (Lit.int .i64 n).wf = true), QR encR wdR]) Tryz.underlying88 (by kernel_rfl)
    ⟨(readsJ W).toC, (readsJ W).toC, (readsJ W).toC, (readsFr W).toC, trivial⟩).toReads encI _ (by
    rintro ys ⟨a, b, rfl, ⟨o, _, hs⟩, c, d, rfl, ⟨i, _, hc⟩, e, f, rfl, ⟨j, _, he⟩, g, k, rfl, ⟨r, hr, hg⟩, rfl⟩
    cases hs; cases hc; cases he; cases hg
    exact ⟨⟨o, i, j, r⟩, hr, rfl⟩)
theorem readsIns (W : World) : Reads Tryz.prog W 22 (fun l : List Ins => AV.sl 6 (l.map encI)) (fun l => ∀ i ∈ l, wdR i.n) :=
  reads_slice (readsIn W) Tryz.underlying22 (cellsOf_eq ts_88) (by omega) (cellsOf_eq ts_22)
theorem readsTp (W : World) : ReadsC Tryz.prog W 25 (QR encT wdT) := fun H enc base sp held fuel cs x h => by
  obtain ⟨ys, ⟨a, b, rfl, ⟨l, hl, ha⟩, c, d, rfl, ⟨o, ho, hc⟩, e, g, rfl, ⟨m, hm, he⟩, i, j, rfl, ⟨p, hp, hi⟩, rfl⟩, hr⟩ := readsC_st (P := Tryz.prog) (w := W) (Qs := [QR (fun l : List Ins => AV.sl 6 (l.map encI)) (fun l => ∀ i ∈ l, wdR i.n), QR (fun l : List Int => AV.sl 1 (l.map i64)) (fun l => ∀ a ∈ l, (Lit.int .i64 a).wf = true), QR (fun n : Int => .int .i64 n) (fun n => (Lit.int .i64 n).wf = true), QR (fun n : Int => .int .i64 n) (fun n => (Lit.int .i64 n).wf = true)]) Tryz.underlying25 (by kernel_rfl)
    ⟨(readsIns W).toC, (readsIs W).toC, (readsJ W).toC, (readsJ W).toC, trivial⟩ H enc base sp held fuel cs x h
  cases ha; cases hc; cases he; cases hi
  exact ⟨_, ⟨⟨l, o, m, p⟩, ⟨hl, (wf64 hm).1, (wf64 hm).2⟩, rfl⟩, hr⟩
end Go.Proofs.YtopmghclhgihfaaGreatDoor

set_option linter.unusedVariables false
set_option linter.unusedSimpArgs false
set_option maxRecDepth 10000
namespace Go.Proofs.YtopmghclhgihfaaGreatDoor
open Go Go.Ab Go.Num

/-- More at a place. -/
def bump (l : List Rat) (i : Nat) (x : Rat) : List Rat := l.set i (l.getD i 0 + x)
theorem bump_len (l : List Rat) (i : Nat) (x : Rat) : (bump l i x).length = l.length := by simp [bump]
theorem bump_get (l : List Rat) (i j : Nat) (x : Rat) : (bump l i x).getD j 0 = l.getD j 0 + (if i = j ∧ i < l.length then x else 0) := by
  unfold bump
  simp only [List.getD_eq_getElem?_getD, List.getElem?_set]
  by_cases h : i = j
  · subst h
    by_cases hl : i < l.length
    · simp [hl]
    · simp [hl]
      rw [Rat.add_zero]
  · simp [h]
    rw [Rat.add_zero]
theorem bump_zero (l : List Rat) (i : Nat) : bump l i 0 = l := by
  unfold bump
  rw [Rat.add_zero]
  by_cases hl : i < l.length
  · rw [show l.getD i 0 = l[i] by simp [hl], List.set_getElem_self]
  · rw [List.set_eq_of_length_le (by omega)]
def addL (a b : List Rat) : List Rat := List.zipWith (· + ·) a b
theorem addL_len {a b : List Rat} (h : a.length = b.length) : (addL a b).length = a.length := by simp [addL, h]
theorem addL_get {a b : List Rat} (h : a.length = b.length) (i : Nat) : (addL a b).getD i 0 = a.getD i 0 + b.getD i 0 := by
  unfold addL
  by_cases hl : i < a.length
  · have hb : i < b.length := by omega
    simp [List.getD_eq_getElem?_getD, List.getElem?_zipWith, hl, hb]
  · have hb : ¬ i < b.length := by omega
    simp [List.getD_eq_getElem?_getD, List.getElem?_zipWith, hl, hb]
    rw [Rat.add_zero]
theorem ext_getD {a b : List Rat} (h : a.length = b.length) (hg : ∀ i, i < a.length → a.getD i 0 = b.getD i 0) : a = b :=
  List.ext_getElem h fun i h1 h2 => by
    have := hg i h1
    simpa [h1, h2] using this
theorem bump_add {a b : List Rat} (h : a.length = b.length) (i : Nat) (x y : Rat) : bump (addL a b) i (x + y) = addL (bump a i x) (bump b i y) := by
  refine ext_getD (by rw [bump_len, addL_len h, addL_len (by rw [bump_len, bump_len, h]), bump_len]) fun j hj => ?_
  rw [bump_get, addL_get h, addL_get (by rw [bump_len, bump_len, h]), bump_get, bump_get, addL_len h, ← h]
  by_cases hc : i = j ∧ i < a.length
  · rw [if_pos hc, if_pos hc, if_pos hc]
    rw [Rat.add_assoc, Rat.add_assoc, ← Rat.add_assoc (b.getD j 0) x y, ← Rat.add_assoc x, Rat.add_comm (b.getD j 0) x]
  · rw [if_neg hc, if_neg hc, if_neg hc, Rat.add_zero, Rat.add_zero, Rat.add_zero]

structure Bk where
  co : List Rat
  t : Rat
  y : List Rat
  p : List Rat
def Bk.send (S : Bk) (i : Nat) (x : Rat) : Bk := { S with co := bump S.co i x }
def turnQ (q : Rat) (e : Int) (r : Rat) : Rat := if 0 < e then powQ q (e - 1) else if e < 0 then r / q else 0
/-- Back through an instruction, whose result is the 'k'-th. -/
def thrQ (D : List Rat) (i : Ins) (k : Nat) (c : Rat) (S : Bk) : Bk :=
  if i.op = 2 then { S with t := S.t + c }
  else if i.op = 3 then { S with y := bump S.y i.a.toNat c }
  else if i.op = 4 then { S with p := bump S.p i.a.toNat c }
  else if i.op = 6 then S.send i.a.toNat (-c)
  else if i.op = 7 then (S.send i.a.toNat c).send i.b.toNat c
  else if i.op = 8 then (S.send i.a.toNat c).send i.b.toNat (-c)
  else if i.op = 9 then (S.send i.a.toNat (c * D.getD i.b.toNat 0)).send i.b.toNat (c * D.getD i.a.toNat 0)
  else if i.op = 10 then (S.send i.a.toNat (c / D.getD i.b.toNat 0)).send i.b.toNat (-(c / D.getD i.b.toNat 0 * D.getD k 0))
  else if i.op = 11 then S.send i.a.toNat (c * ((i.b : Rat) * turnQ (D.getD i.a.toNat 0) i.b (D.getD k 0)))
  else S
theorem div_zero_left (x : Rat) : (0 : Rat) / x = 0 := by rw [Rat.div_def, Rat.zero_mul]
theorem thrQ_zero (D : List Rat) (i : Ins) (k : Nat) (S : Bk) : thrQ D i k 0 S = S := by
  unfold thrQ
  simp only [Bk.send, bump_zero, Rat.add_zero, Rat.neg_zero, Rat.zero_mul, div_zero_left]
  repeat' split
  all_goals rfl
def thr0 (D : List Rat) (i : Ins) (k : Nat) (S : Bk) : Bk := if S.co.getD k 0 = 0 then S else thrQ D i k (S.co.getD k 0) S
theorem thr0_eq (D : List Rat) (i : Ins) (k : Nat) (S : Bk) : thr0 D i k S = thrQ D i k (S.co.getD k 0) S := by
  unfold thr0
  by_cases h : S.co.getD k 0 = 0
  · rw [if_pos h, h, thrQ_zero]
  · rw [if_neg h]

/-- Two of one shape. -/
structure Like (S S' : Bk) : Prop where
  co : S.co.length = S'.co.length
  y : S.y.length = S'.y.length
  p : S.p.length = S'.p.length
def addB (S S' : Bk) : Bk := ⟨addL S.co S'.co, S.t + S'.t, addL S.y S'.y, addL S.p S'.p⟩
theorem add4 (a b x y : Rat) : (a + b) + (x + y) = (a + x) + (b + y) := by
  rw [Rat.add_assoc, Rat.add_assoc, ← Rat.add_assoc b x y, ← Rat.add_assoc x b y, Rat.add_comm b x]
theorem Like.send {S S' : Bk} (h : Like S S') (i : Nat) (x y : Rat) : Like (S.send i x) (S'.send i y) := ⟨by simp only [Bk.send, bump_len, h.co], h.y, h.p⟩
theorem send_add {S S' : Bk} (h : Like S S') (i : Nat) (x y : Rat) : (addB S S').send i (x + y) = addB (S.send i x) (S'.send i y) := by
  simp only [Bk.send, addB, bump_add h.co]
theorem add_div (a b c : Rat) : (a + b) / c = a / c + b / c := by rw [Rat.div_def, Rat.div_def, Rat.div_def, Rat.add_mul]
theorem thrQ_add {S S' : Bk} (h : Like S S') (D : List Rat) (i : Ins) (k : Nat) (c c' : Rat) : thrQ D i k (c + c') (addB S S') = addB (thrQ D i k c S) (thrQ D i k c' S') := by
  unfold thrQ
  by_cases h2 : i.op = 2
  · simp only [if_pos h2, addB, add4]
  by_cases h3 : i.op = 3
  · simp only [if_neg h2, if_pos h3, addB, bump_add h.y]
  by_cases h4 : i.op = 4
  · simp only [if_neg h2, if_neg h3, if_pos h4, addB, bump_add h.p]
  by_cases h6 : i.op = 6
  · simp only [if_neg h2, if_neg h3, if_neg h4, if_pos h6, Rat.neg_add, send_add h]
  by_cases h7 : i.op = 7
  · simp only [if_neg h2, if_neg h3, if_neg h4, if_neg h6, if_pos h7, send_add h, send_add (h.send _ _ _)]
  by_cases h8 : i.op = 8
  · simp only [if_neg h2, if_neg h3, if_neg h4, if_neg h6, if_neg h7, if_pos h8, Rat.neg_add, send_add h, send_add (h.send _ _ _)]
  by_cases h9 : i.op = 9
  · simp only [if_neg h2, if_neg h3, if_neg h4, if_neg h6, if_neg h7, if_neg h8, if_pos h9, Rat.add_mul, send_add h, send_add (h.send _ _ _)]
  by_cases h10 : i.op = 10
  · simp only [if_neg h2, if_neg h3, if_neg h4, if_neg h6, if_neg h7, if_neg h8, if_neg h9, if_pos h10, add_div, Rat.add_mul, Rat.neg_add, send_add h, send_add (h.send _ _ _)]
  by_cases h11 : i.op = 11
  · simp only [if_neg h2, if_neg h3, if_neg h4, if_neg h6, if_neg h7, if_neg h8, if_neg h9, if_neg h10, if_pos h11, Rat.add_mul, send_add h]
  · simp only [if_neg h2, if_neg h3, if_neg h4, if_neg h6, if_neg h7, if_neg h8, if_neg h9, if_neg h10, if_neg h11]
theorem thrQ_like {S S' : Bk} (h : Like S S') (D : List Rat) (i : Ins) (k : Nat) (c c' : Rat) : Like (thrQ D i k c S) (thrQ D i k c' S') := by
  unfold thrQ
  repeat' split
  all_goals first | exact h | exact h.send _ _ _ | exact (h.send _ _ _).send _ _ _ | exact ⟨h.co, by simp only [bump_len, h.y], by simp only [bump_len, h.p]⟩

/-- The way back through the first 'n' instructions; or where a cotangent is too long. -/
def backN (code : List Ins) (D : List Rat) (l : Int) : Nat → Bk → Bk ⊕ Nat
  | 0, S => .inl S
  | n + 1, S => if fitQ l (S.co.getD n 0) then backN code D l n (thr0 D (code.getD n ⟨0, 0, 0, ⟨false, [], []⟩⟩) n S) else .inr n
/-- .. without a limit. -/
def backF (code : List Ins) (D : List Rat) : Nat → Bk → Bk
  | 0, S => S
  | n + 1, S => backF code D n (thrQ D (code.getD n ⟨0, 0, 0, ⟨false, [], []⟩⟩) n (S.co.getD n 0) S)
theorem backN_F {code : List Ins} {D : List Rat} {l : Int} : ∀ {n : Nat} {S S' : Bk}, backN code D l n S = .inl S' → S' = backF code D n S
  | 0, S, S', h => by cases h; rfl
  | n + 1, S, S', h => by
    rw [backN] at h
    split at h
    · rw [thr0_eq] at h; rw [backF]; exact backN_F h
    · cases h
theorem backF_add {code : List Ins} {D : List Rat} : ∀ {n : Nat} {S S' : Bk}, Like S S' → backF code D n (addB S S') = addB (backF code D n S) (backF code D n S')
  | 0, S, S', h => rfl
  | n + 1, S, S', h => by
    rw [backF, backF, backF, ← backF_add (thrQ_like h _ _ _ _ _), ← thrQ_add h]
    have : (addB S S').co.getD n 0 = S.co.getD n 0 + S'.co.getD n 0 := addL_get h.co n
    rw [this]
theorem backF_like {code : List Ins} {D : List Rat} : ∀ {n : Nat} {S S' : Bk}, Like S S' → Like (backF code D n S) (backF code D n S')
  | 0, S, S', h => h
  | n + 1, S, S', h => by rw [backF, backF]; exact backF_like (thrQ_like h _ _ _ _ _)

/-- What is sent ahead of the way back: a cotangent to the results that are told. -/
def sendAll : List Int → List Rat → List Rat → List Rat
  | o :: os, w :: ws, co => sendAll os ws (bump co o.toNat w)
  | _, _, co => co
theorem sendAll_len : ∀ (os : List Int) (w co : List Rat), (sendAll os w co).length = co.length
  | [], w, co => by cases w <;> rfl
  | o :: os, [], co => rfl
  | o :: os, w :: ws, co => by rw [sendAll, sendAll_len, bump_len]
theorem sendAll_add : ∀ (os : List Int) {u v a b : List Rat}, u.length = v.length → a.length = b.length → sendAll os (addL u v) (addL a b) = addL (sendAll os u a) (sendAll os v b)
  | [], u, v, a, b, _, _ => by cases u <;> cases v <;> rfl
  | o :: os, [], [], a, b, _, _ => rfl
  | o :: os, x :: u, [], a, b, h, _ => by simp at h
  | o :: os, [], y :: v, a, b, h, _ => by simp at h
  | o :: os, x :: u, y :: v, a, b, h, hab => by
    show sendAll os (addL u v) (bump (addL a b) o.toNat (x + y)) = _
    rw [bump_add hab, sendAll_add os (by simpa using h) (by rw [bump_len, bump_len, hab])]
    rfl
def zeros (n : Nat) : List Rat := List.replicate n 0
theorem zeros_add (n : Nat) : addL (zeros n) (zeros n) = zeros n := by
  simp only [addL, zeros, List.zipWith_replicate, Nat.min_self]; rw [Rat.add_zero]
def bk0 (t : Tp) (w : List Rat) : Bk := ⟨sendAll t.outs w (zeros t.code.length), 0, zeros t.dim.toNat, zeros t.par.toNat⟩
theorem bk0_add (t : Tp) {u v : List Rat} (h : u.length = v.length) : bk0 t (addL u v) = addB (bk0 t u) (bk0 t v) := by
  simp only [bk0, addB, zeros_add, Rat.add_zero]
  rw [← sendAll_add t.outs h rfl, zeros_add]
theorem bk0_like (t : Tp) (u v : List Rat) : Like (bk0 t u) (bk0 t v) := ⟨by simp only [bk0, sendAll_len], rfl, rfl⟩

/-- Where is the first number that is too long? -/
def firstLong (l : Int) : List Rat → Nat → Option Nat
  | [], _ => none
  | q :: r, k => if fitQ l q then firstLong l r (k + 1) else some k
def nilG : Rat × List Rat × List Rat := (0, [], [])
/-- A tape's gradient: its parts, and the fault: kind, stage, place. -/
def backT (t : Tp) (T : Rat) (Y P w : List Rat) (l : Int) : (Rat × List Rat × List Rat) × Int × Int × Int :=
  if w.length ≠ t.outs.length then (nilG, 2, 0, 0)
  else if (runT t T Y P l).2.1 = 0 then
    match backN t.code (runT t T Y P l).1 l t.code.length (bk0 t w) with
    | .inr i => (nilG, 6, 2, i)
    | .inl S => match firstLong l (S.t :: (S.y ++ S.p)) 0 with
      | some i => (nilG, 6, 3, i)
      | none => ((S.t, S.y, S.p), 0, 0, 0)
  else (nilG, (runT t T Y P l).2.1, 0, (runT t T Y P l).2.2)
theorem backT_ok {t : Tp} {T : Rat} {Y P w : List Rat} {l : Int} (h : (backT t T Y P w l).2.1 = 0) : w.length = t.outs.length ∧ (runT t T Y P l).2.1 = 0 ∧
    (backT t T Y P w l).1 = ((backF t.code (runT t T Y P l).1 t.code.length (bk0 t w)).t, (backF t.code (runT t T Y P l).1 t.code.length (bk0 t w)).y, (backF t.code (runT t T Y P l).1 t.code.length (bk0 t w)).p) := by
  unfold backT at h ⊢
  split at h
  · simp at h
  rename_i hw
  split at h
  · rename_i hr
    cases e : backN t.code (runT t T Y P l).1 l t.code.length (bk0 t w) with
    | inr i => rw [e] at h; simp at h
    | inl S =>
      rw [e] at h
      simp only at h
      cases e2 : firstLong l (S.t :: (S.y ++ S.p)) 0 with
      | some i => rw [e2] at h; simp at h
      | none =>
        rw [if_neg hw, if_pos hr]
        simp only [e, e2]
        have := backN_F e
        subst this
        exact ⟨Decidable.not_not.1 hw, hr, rfl⟩
  · rename_i hr
    simp only at h
    exact absurd h hr
/-- SHARED OUT: of two cotangents' sum. -/
theorem backT_add {t : Tp} {T : Rat} {Y P u v : List Rat} {l : Int} (huv : u.length = v.length) (h1 : (backT t T Y P u l).2.1 = 0) (h2 : (backT t T Y P v l).2.1 = 0) (h3 : (backT t T Y P (addL u v) l).2.1 = 0) :
    (backT t T Y P (addL u v) l).1.1 = (backT t T Y P u l).1.1 + (backT t T Y P v l).1.1 ∧ (backT t T Y P (addL u v) l).1.2.1 = addL (backT t T Y P u l).1.2.1 (backT t T Y P v l).1.2.1 ∧
    (backT t T Y P (addL u v) l).1.2.2 = addL (backT t T Y P u l).1.2.2 (backT t T Y P v l).1.2.2 ∧ (backT t T Y P u l).1.2.1.length = (backT t T Y P v l).1.2.1.length ∧ (backT t T Y P u l).1.2.2.length = (backT t T Y P v l).1.2.2.length := by
  obtain ⟨_, _, e1⟩ := backT_ok h1
  obtain ⟨_, _, e2⟩ := backT_ok h2
  obtain ⟨_, _, e3⟩ := backT_ok h3
  rw [e1, e2, e3, bk0_add t huv, backF_add (bk0_like t u v)]
  have hl := backF_like (code := t.code) (D := (runT t T Y P l).1) (n := t.code.length) (bk0_like t u v)
  exact ⟨rfl, rfl, rfl, hl.y, hl.p⟩
end Go.Proofs.YtopmghclhgihfaaGreatDoor

set_option linter.unusedVariables false
set_option linter.unusedSimpArgs false
set_option maxRecDepth 10000
namespace Go.Proofs.YtopmghclhgihfaaGreatDoor
open Go Go.Ab Go.Num

/-- A slope, out of what lies before it; 'v' is the value. -/
def dQ (V S : List Rat) (v : Rat) (i : Ins) (dT : Rat) (dY dP : List Rat) : Rat :=
  if i.op = 6 then -S.getD i.a.toNat 0
  else if i.op = 11 then ((i.b : Rat) * turnQ (V.getD i.a.toNat 0) i.b v) * S.getD i.a.toNat 0
  else if i.op = 7 then S.getD i.a.toNat 0 + S.getD i.b.toNat 0
  else if i.op = 8 then S.getD i.a.toNat 0 - S.getD i.b.toNat 0
  else if i.op = 9 then S.getD i.a.toNat 0 * V.getD i.b.toNat 0 + V.getD i.a.toNat 0 * S.getD i.b.toNat 0
  else if i.op = 10 then (S.getD i.a.toNat 0 - v * S.getD i.b.toNat 0) / V.getD i.b.toNat 0
  else if i.op = 1 then 0 else if i.op = 3 then dY.getD i.a.toNat 0 else if i.op = 4 then dP.getD i.a.toNat 0 else dT
def stepD (T : Rat × Rat) (Y P : List (Rat × Rat)) (i : Ins) (D : List (Rat × Rat)) : Option (Rat × Rat) :=
  match stepQ T.1 (Y.map (·.1)) (P.map (·.1)) i (D.map (·.1)) with
  | none => none
  | some v => some (v, dQ (D.map (·.1)) (D.map (·.2)) v i T.2 (Y.map (·.2)) (P.map (·.2)))
/-- The first faults: kind, stage, place. -/
def runD (T : Rat × Rat) (Y P : List (Rat × Rat)) (l : Int) : List Ins → List (Rat × Rat) → List (Rat × Rat) × Int × Int × Int
  | [], D => (D, 0, 0, 0)
  | i :: r, D => match stepD T Y P i D with
    | none => ([], 3, 0, D.length)
    | some x => if fitQ l x.1 then (if fitQ l x.2 then runD T Y P l r (D ++ [x]) else ([], 6, 1, D.length)) else ([], 6, 0, D.length)
def pushT (t : Tp) (T dT : Rat) (Y P dY dP : List Rat) (l : Int) : List (Rat × Rat) × Int × Int × Int :=
  if Y.length = dY.length ∧ P.length = dP.length then
    (if wrongI t = -1 ∧ (Y.length : Int) = t.dim ∧ (P.length : Int) = t.par then runD (T, dT) (Y.zip dY) (P.zip dP) l t.code [] else ([], 2, 0, 0))
  else ([], 2, 0, 0)

/-- Slopes, each out of the values ahead of it. -/
def slF (V : List Rat) (dT : Rat) (dY dP : List Rat) : List Ins → List Rat → List Rat
  | [], S => S
  | i :: r, S => slF V dT dY dP r (S ++ [dQ (V.take S.length) S (V.getD S.length 0) i dT dY dP])
theorem runL_prefix (T : Rat) (Y P : List Rat) (l : Int) : ∀ (c : List Ins) (D : List Rat), (runL T Y P l c D).2.1 = 0 → (runL T Y P l c D).1.length = D.length + c.length ∧ (runL T Y P l c D).1.take D.length = D
  | [], D, _ => by simp [runL]
  | i :: r, D, h => by
    rw [runL] at h ⊢
    cases e : stepQ T Y P i D with
    | none => rw [e] at h; simp at h
    | some q =>
      rw [e] at h
      by_cases hf : fitQ l q = true
      · simp only [if_pos hf] at h ⊢
        obtain ⟨h1, h2⟩ := runL_prefix T Y P l r _ h
        refine ⟨by rw [h1]; simp; omega, ?_⟩
        have h3 := congrArg (List.take D.length) h2
        rw [List.take_take, List.length_append, List.length_singleton, show min D.length (D.length + 1) = D.length by omega, List.take_left] at h3
        exact h3
      · simp only [if_neg hf] at h; simp at h
theorem map_fst_len {α β : Type} (D : List (α × β)) : (D.map (·.1)).length = D.length := List.length_map _
theorem runD_ok (T : Rat × Rat) (Y P : List (Rat × Rat)) (l : Int) : ∀ (c : List Ins) (D : List (Rat × Rat)), (runD T Y P l c D).2.1 = 0 →
    (runD T Y P l c D).2.2 = (0, 0) ∧ runL T.1 (Y.map (·.1)) (P.map (·.1)) l c (D.map (·.1)) = ((runD T Y P l c D).1.map (·.1), 0, 0) ∧
    (runD T Y P l c D).1.map (·.2) = slF ((runD T Y P l c D).1.map (·.1)) T.2 (Y.map (·.2)) (P.map (·.2)) c (D.map (·.2))
  | [], D, _ => ⟨rfl, rfl, rfl⟩
  | i :: r, D, h => by
    rw [runD] at h ⊢
    cases e : stepQ T.1 (Y.map (·.1)) (P.map (·.1)) i (D.map (·.1)) with
    | none => simp only [stepD, e] at h; simp at h
    | some v =>
      simp only [stepD, e] at h ⊢
      by_cases hf : fitQ l v = true
      · by_cases hd : fitQ l (dQ (D.map (·.1)) (D.map (·.2)) v i T.2 (Y.map (·.2)) (P.map (·.2))) = true
        · simp only [if_pos hf, if_pos hd] at h ⊢
          obtain ⟨h1, h2, h3⟩ := runD_ok T Y P l r _ h
          simp only [List.map_append, List.map_cons, List.map_nil] at h2 h3
          refine ⟨h1, ?_, ?_⟩
          · simp only [runL, e, if_pos hf]
            exact h2
          · have hp := runL_prefix T.1 (Y.map (·.1)) (P.map (·.1)) l r (D.map (·.1) ++ [v]) (by rw [h2])
            rw [h2] at hp
            obtain ⟨p1, p2⟩ := hp
            simp only at p1 p2
            rw [List.length_append, List.length_singleton, List.length_map] at p1 p2
            rw [h3, slF]
            generalize ((runD T Y P l r (D ++ [(v, dQ (D.map (·.1)) (D.map (·.2)) v i T.2 (Y.map (·.2)) (P.map (·.2)))])).1.map (·.1)) = V at p1 p2 ⊢
            have e1 : V.take (D.map (·.2)).length = D.map (·.1) := by
              rw [List.length_map]
              have := congrArg (List.take D.length) p2
              rw [List.take_take, show min D.length (D.length + 1) = D.length by omega] at this
              rw [this, List.take_append_of_le_length (by rw [List.length_map]; exact Nat.le_refl _), List.take_of_length_le (by rw [List.length_map]; exact Nat.le_refl _)]
            have e2 : V.getD (D.map (·.2)).length 0 = v := by
              rw [List.length_map]
              have : (V.take (D.length + 1))[D.length]? = some v := by
                rw [p2, List.getElem?_append_right (by rw [List.length_map]; exact Nat.le_refl _), List.length_map, Nat.sub_self]; rfl
              rw [List.getElem?_take_of_lt (by omega)] at this
              rw [List.getD_eq_getElem?_getD, this]; rfl
            rw [e1, e2]
        · simp only [if_pos hf, if_neg hd] at h; simp at h
      · simp only [if_neg hf] at h; simp at h

/-! ### Shared out -/
def linL (k : Rat) (a b : List Rat) : List Rat := List.zipWith (fun x y => k * x + y) a b
theorem linL_get {k : Rat} {a b : List Rat} (h : a.length = b.length) (i : Nat) : (linL k a b).getD i 0 = k * a.getD i 0 + b.getD i 0 := by
  unfold linL
  by_cases hl : i < a.length
  · have hb : i < b.length := by omega
    simp [List.getD_eq_getElem?_getD, List.getElem?_zipWith, hl, hb]
  · have hb : ¬ i < b.length := by omega
    simp [List.getD_eq_getElem?_getD, List.getElem?_zipWith, hl, hb]
    grind
theorem linL_len {k : Rat} {a b : List Rat} (h : a.length = b.length) : (linL k a b).length = a.length := by simp [linL, h]
theorem dQ_lin {V S S' : List Rat} (h : S.length = S'.length) (v : Rat) (i : Ins) (k dT dT' : Rat) {dY dY' dP dP' : List Rat} (hy : dY.length = dY'.length) (hp : dP.length = dP'.length) :
    dQ V (linL k S S') v i (k * dT + dT') (linL k dY dY') (linL k dP dP') = k * dQ V S v i dT dY dP + dQ V S' v i dT' dY' dP' := by
  unfold dQ
  simp only [linL_get h, linL_get hy, linL_get hp]
  repeat' split
  all_goals grind
theorem slF_lin (V : List Rat) (k dT dT' : Rat) {dY dY' dP dP' : List Rat} (hy : dY.length = dY'.length) (hp : dP.length = dP'.length) : ∀ (c : List Ins) {S S' : List Rat}, S.length = S'.length →
    slF V (k * dT + dT') (linL k dY dY') (linL k dP dP') c (linL k S S') = linL k (slF V dT dY dP c S) (slF V dT' dY' dP' c S') ∧ (slF V dT dY dP c S).length = (slF V dT' dY' dP' c S').length
  | [], S, S', h => ⟨rfl, h⟩
  | i :: r, S, S', h => by
    rw [slF, slF, slF, linL_len h, dQ_lin h _ _ _ _ _ hy hp, ← h]
    have := slF_lin V k dT dT' hy hp r (S := S ++ [dQ (V.take S.length) S (V.getD S.length 0) i dT dY dP]) (S' := S' ++ [dQ (V.take S.length) S' (V.getD S.length 0) i dT' dY' dP']) (by rw [List.length_append, List.length_append, h]; rfl)
    have e : linL k (S ++ [dQ (V.take S.length) S (V.getD S.length 0) i dT dY dP]) (S' ++ [dQ (V.take S.length) S' (V.getD S.length 0) i dT' dY' dP']) = linL k S S' ++ [k * dQ (V.take S.length) S (V.getD S.length 0) i dT dY dP + dQ (V.take S.length) S' (V.getD S.length 0) i dT' dY' dP'] := by
      unfold linL; rw [List.zipWith_append h]; rfl
    rw [e] at this
    exact this
theorem zip_fst {a b : List Rat} (h : a.length = b.length) : (a.zip b).map (·.1) = a := by
  have := List.map_fst_zip (l₁ := a) (l₂ := b) (by omega); exact this
theorem zip_snd {a b : List Rat} (h : a.length = b.length) : (a.zip b).map (·.2) = b := by
  have := List.map_snd_zip (l₁ := a) (l₂ := b) (by omega); exact this
/-- A run with slopes, where nothing stops it. -/
theorem pushT_ok {t : Tp} {T dT : Rat} {Y P dY dP : List Rat} {l : Int} (h : (pushT t T dT Y P dY dP l).2.1 = 0) :
    (Y.length = dY.length ∧ P.length = dP.length) ∧ (wrongI t = -1 ∧ (Y.length : Int) = t.dim ∧ (P.length : Int) = t.par) ∧ (pushT t T dT Y P dY dP l).2.2 = (0, 0) ∧
    runT t T Y P l = ((pushT t T dT Y P dY dP l).1.map (·.1), 0, 0) ∧ (pushT t T dT Y P dY dP l).1.map (·.2) = slF ((pushT t T dT Y P dY dP l).1.map (·.1)) dT dY dP t.code [] := by
  unfold pushT at h ⊢
  by_cases h1 : Y.length = dY.length ∧ P.length = dP.length
  · by_cases h2 : wrongI t = -1 ∧ (Y.length : Int) = t.dim ∧ (P.length : Int) = t.par
    · rw [if_pos h1, if_pos h2] at h ⊢
      obtain ⟨a1, a2, a3⟩ := runD_ok (T, dT) (Y.zip dY) (P.zip dP) l t.code [] h
      simp only [zip_fst h1.1, zip_fst h1.2, zip_snd h1.1, zip_snd h1.2, List.map_nil] at a2 a3
      exact ⟨h1, h2, a1, by rw [runT, if_pos h2, a2], a3⟩
    · rw [if_pos h1, if_neg h2] at h; simp at h
  · rw [if_neg h1] at h; simp at h
theorem pushT_lin {t : Tp} {T k dT dT' : Rat} {Y P dY dY' dP dP' : List Rat} {l : Int} (h1 : (pushT t T dT Y P dY dP l).2.1 = 0) (h2 : (pushT t T dT' Y P dY' dP' l).2.1 = 0)
    (h3 : (pushT t T (k * dT + dT') Y P (linL k dY dY') (linL k dP dP') l).2.1 = 0) :
    (pushT t T (k * dT + dT') Y P (linL k dY dY') (linL k dP dP') l).1.map (·.1) = (pushT t T dT Y P dY dP l).1.map (·.1) ∧ (pushT t T dT' Y P dY' dP' l).1.map (·.1) = (pushT t T dT Y P dY dP l).1.map (·.1) ∧
    (pushT t T (k * dT + dT') Y P (linL k dY dY') (linL k dP dP') l).1.map (·.2) = linL k ((pushT t T dT Y P dY dP l).1.map (·.2)) ((pushT t T dT' Y P dY' dP' l).1.map (·.2)) ∧ runT t T Y P l = ((pushT t T dT Y P dY dP l).1.map (·.1), 0, 0) := by
  obtain ⟨⟨y1, p1⟩, _, _, r1, s1⟩ := pushT_ok h1
  obtain ⟨⟨y2, p2⟩, _, _, r2, s2⟩ := pushT_ok h2
  obtain ⟨_, _, _, r3, s3⟩ := pushT_ok h3
  have e2 := congrArg Prod.fst (r2.symm.trans r1)
  have e3 := congrArg Prod.fst (r3.symm.trans r1)
  simp only at e2 e3
  refine ⟨e3, e2, ?_, r1⟩
  rw [s3, e3, s1, s2, e2]
  exact (slF_lin _ k dT dT' (by omega) (by omega) t.code (S := []) (S' := []) rfl).1

/-! ### To and fro -/
def dotN : Nat → List Rat → List Rat → Rat
  | 0, _, _ => 0
  | n + 1, a, b => dotN n a b + a.getD n 0 * b.getD n 0
theorem dotN_bump {a s : List Rat} {i : Nat} {x : Rat} : ∀ {n : Nat}, n ≤ a.length → dotN n (bump a i x) s = dotN n a s + (if i < n then x * s.getD i 0 else 0)
  | 0, h => by rw [dotN, dotN, if_neg (by omega), Rat.add_zero]
  | n + 1, h => by
    rw [dotN, dotN, dotN_bump (n := n) (by omega), bump_get]
    by_cases h1 : i < n
    · rw [if_pos h1, if_neg (show ¬ (i = n ∧ i < a.length) by omega), if_pos (show i < n + 1 by omega)]; grind
    · by_cases h2 : i = n
      · subst h2
        rw [if_neg h1, if_pos (show i = i ∧ i < a.length from ⟨rfl, by omega⟩), if_pos (show i < i + 1 by omega)]; grind
      · rw [if_neg h1, if_neg (show ¬ (i = n ∧ i < a.length) by omega), if_neg (show ¬ i < n + 1 by omega)]; grind
/-- What all cotangents make of all slopes. -/
def phi (n : Nat) (S : Bk) (s : List Rat) (dT : Rat) (dY dP : List Rat) : Rat := dotN n S.co s + (S.t * dT + (dotN S.y.length S.y dY + dotN S.p.length S.p dP))
theorem getD_take {l : List Rat} {j n : Nat} (h : j < n) : (l.take n).getD j 0 = l.getD j 0 := by
  rw [List.getD_eq_getElem?_getD, List.getElem?_take_of_lt h, ← List.getD_eq_getElem?_getD]
theorem phi_step {t : Tp} {V s : List Rat} {dT : Rat} {dY dP : List Rat} {i : Ins} {n : Nat} {S : Bk} (hm : mayB t i n = true) (hy : (S.y.length : Int) = t.dim) (hp : (S.p.length : Int) = t.par) (hn : n < S.co.length)
    (hs : s.getD n 0 = dQ (V.take n) (s.take n) (V.getD n 0) i dT dY dP) : phi (n + 1) S s dT dY dP = phi n (thrQ V i n (S.co.getD n 0) S) s dT dY dP := by
  have tk : ∀ j : Nat, j < n → (V.take n).getD j 0 = V.getD j 0 := fun j hj => getD_take hj
  have ts : ∀ j : Nat, j < n → (s.take n).getD j 0 = s.getD j 0 := fun j hj => getD_take hj
  unfold phi
  rw [dotN, hs]
  unfold mayB at hm
  by_cases h1 : i.op = 1
  · simp only [thrQ, dQ, if_neg (show ¬ i.op = 2 by omega), if_neg (show ¬ i.op = 3 by omega), if_neg (show ¬ i.op = 4 by omega), if_neg (show ¬ i.op = 6 by omega), if_neg (show ¬ i.op = 7 by omega), if_neg (show ¬ i.op = 8 by omega), if_neg (show ¬ i.op = 9 by omega), if_neg (show ¬ i.op = 10 by omega), if_neg (show ¬ i.op = 11 by omega), if_pos h1]
    grind
  rw [if_neg h1] at hm
  simp only [Bool.and_eq_true, List.all_eq_true] at hm
  obtain ⟨m1, m2, m3⟩ := hm
  have hr : ∀ r ∈ readsI i, r.toNat < n := fun r hr => by have := belowB_iff.1 (m2 r hr); omega
  by_cases h2 : i.op = 2
  · simp only [thrQ, dQ, if_pos h2, if_neg (show ¬ i.op = 1 by omega), if_neg (show ¬ i.op = 3 by omega), if_neg (show ¬ i.op = 4 by omega), if_neg (show ¬ i.op = 6 by omega), if_neg (show ¬ i.op = 7 by omega), if_neg (show ¬ i.op = 8 by omega), if_neg (show ¬ i.op = 9 by omega), if_neg (show ¬ i.op = 10 by omega), if_neg (show ¬ i.op = 11 by omega)]
    grind
  by_cases h3 : i.op = 3
  · have hk : 0 ≤ i.a ∧ i.a < t.dim := by
      rw [kindB, if_neg h2, if_pos h3, Bool.and_eq_true] at m3
      exact belowB_iff.1 m3.1
    simp only [thrQ, dQ, if_pos h3, if_neg (show ¬ i.op = 1 by omega), if_neg (show ¬ i.op = 2 by omega), if_neg (show ¬ i.op = 4 by omega), if_neg (show ¬ i.op = 6 by omega), if_neg (show ¬ i.op = 7 by omega), if_neg (show ¬ i.op = 8 by omega), if_neg (show ¬ i.op = 9 by omega), if_neg (show ¬ i.op = 10 by omega), if_neg (show ¬ i.op = 11 by omega), bump_len]
    rw [dotN_bump (Nat.le_refl _), if_pos (by omega)]
    grind
  by_cases h4 : i.op = 4
  · have hk : 0 ≤ i.a ∧ i.a < t.par := by
      rw [kindB, if_neg h2, if_neg h3, if_pos h4, Bool.and_eq_true] at m3
      exact belowB_iff.1 m3.1
    simp only [thrQ, dQ, if_pos h4, if_neg (show ¬ i.op = 1 by omega), if_neg (show ¬ i.op = 2 by omega), if_neg (show ¬ i.op = 3 by omega), if_neg (show ¬ i.op = 6 by omega), if_neg (show ¬ i.op = 7 by omega), if_neg (show ¬ i.op = 8 by omega), if_neg (show ¬ i.op = 9 by omega), if_neg (show ¬ i.op = 10 by omega), if_neg (show ¬ i.op = 11 by omega), bump_len]
    rw [dotN_bump (n := S.p.length) (Nat.le_refl _), if_pos (by omega)]
    grind
  by_cases h6 : i.op = 6
  · have ha := hr i.a (by rw [readsI, if_pos (.inl h6)]; simp)
    simp only [thrQ, dQ, if_pos h6, if_neg (show ¬ i.op = 2 by omega), if_neg (show ¬ i.op = 3 by omega), if_neg (show ¬ i.op = 4 by omega), Bk.send, ts _ ha]
    rw [dotN_bump (by omega), if_pos ha]
    grind
  by_cases h11 : i.op = 11
  · have ha := hr i.a (by rw [readsI, if_pos (.inr h11)]; simp)
    simp only [thrQ, dQ, if_pos h11, if_neg (show ¬ i.op = 2 by omega), if_neg (show ¬ i.op = 3 by omega), if_neg (show ¬ i.op = 4 by omega), if_neg (show ¬ i.op = 6 by omega), if_neg (show ¬ i.op = 7 by omega), if_neg (show ¬ i.op = 8 by omega), if_neg (show ¬ i.op = 9 by omega), if_neg (show ¬ i.op = 10 by omega), Bk.send, tk _ ha, ts _ ha]
    rw [dotN_bump (by omega), if_pos ha]
    grind
  by_cases hb : i.op = 7 ∨ i.op = 8 ∨ i.op = 9 ∨ i.op = 10
  · have ha := hr i.a (by rw [readsI, if_neg (by omega), if_pos hb]; simp)
    have hb' := hr i.b (by rw [readsI, if_neg (by omega), if_pos hb]; simp)
    rcases hb with h | h | h | h
    · simp only [thrQ, dQ, if_pos h, if_neg (show ¬ i.op = 2 by omega), if_neg (show ¬ i.op = 3 by omega), if_neg (show ¬ i.op = 4 by omega), if_neg (show ¬ i.op = 6 by omega), if_neg (show ¬ i.op = 11 by omega), Bk.send, ts _ ha, ts _ hb']
      rw [dotN_bump (by rw [bump_len]; omega), dotN_bump (by omega), if_pos ha, if_pos hb']
      grind
    · simp only [thrQ, dQ, if_pos h, if_neg (show ¬ i.op = 2 by omega), if_neg (show ¬ i.op = 3 by omega), if_neg (show ¬ i.op = 4 by omega), if_neg (show ¬ i.op = 6 by omega), if_neg (show ¬ i.op = 7 by omega), if_neg (show ¬ i.op = 11 by omega), Bk.send, ts _ ha, ts _ hb']
      rw [dotN_bump (by rw [bump_len]; omega), dotN_bump (by omega), if_pos ha, if_pos hb']
      grind
    · simp only [thrQ, dQ, if_pos h, if_neg (show ¬ i.op = 2 by omega), if_neg (show ¬ i.op = 3 by omega), if_neg (show ¬ i.op = 4 by omega), if_neg (show ¬ i.op = 6 by omega), if_neg (show ¬ i.op = 7 by omega), if_neg (show ¬ i.op = 8 by omega), if_neg (show ¬ i.op = 11 by omega), Bk.send, tk _ ha, tk _ hb', ts _ ha, ts _ hb']
      rw [dotN_bump (by rw [bump_len]; omega), dotN_bump (by omega), if_pos ha, if_pos hb']
      grind
    · simp only [thrQ, dQ, if_pos h, if_neg (show ¬ i.op = 2 by omega), if_neg (show ¬ i.op = 3 by omega), if_neg (show ¬ i.op = 4 by omega), if_neg (show ¬ i.op = 6 by omega), if_neg (show ¬ i.op = 7 by omega), if_neg (show ¬ i.op = 8 by omega), if_neg (show ¬ i.op = 9 by omega), if_neg (show ¬ i.op = 11 by omega), Bk.send, tk _ ha, tk _ hb', ts _ ha, ts _ hb']
      rw [dotN_bump (by rw [bump_len]; omega), dotN_bump (by omega), if_pos ha, if_pos hb']
      grind
  · rw [kindB, if_neg h2, if_neg h3, if_neg h4, if_neg h6, if_neg h11] at m3
    simp only [decide_eq_true_eq] at m3
    exact absurd m3 hb
theorem slF_prefix (V : List Rat) (dT : Rat) (dY dP : List Rat) : ∀ (c : List Ins) (S : List Rat), (slF V dT dY dP c S).length = S.length + c.length ∧ (slF V dT dY dP c S).take S.length = S
  | [], S => by simp [slF]
  | i :: r, S => by
    obtain ⟨h1, h2⟩ := slF_prefix V dT dY dP r (S ++ [dQ (V.take S.length) S (V.getD S.length 0) i dT dY dP])
    rw [slF]
    refine ⟨by rw [h1]; simp; omega, ?_⟩
    have h3 := congrArg (List.take S.length) h2
    rw [List.take_take, List.length_append, List.length_singleton, show min S.length (S.length + 1) = S.length by omega, List.take_left] at h3
    exact h3
theorem slF_get (V : List Rat) (dT : Rat) (dY dP : List Rat) : ∀ (c : List Ins) (S : List Rat) (k : Nat) (h : k < c.length),
    (slF V dT dY dP c S).getD (S.length + k) 0 = dQ (V.take (S.length + k)) ((slF V dT dY dP c S).take (S.length + k)) (V.getD (S.length + k) 0) c[k] dT dY dP
  | i :: r, S, 0, h => by
    obtain ⟨h1, h2⟩ := slF_prefix V dT dY dP (i :: r) S
    obtain ⟨h3, h4⟩ := slF_prefix V dT dY dP r (S ++ [dQ (V.take S.length) S (V.getD S.length 0) i dT dY dP])
    rw [Nat.add_zero, h2]
    rw [slF]
    have e : ((slF V dT dY dP r (S ++ [dQ (V.take S.length) S (V.getD S.length 0) i dT dY dP])).take (S.length + 1))[S.length]? = some (dQ (V.take S.length) S (V.getD S.length 0) i dT dY dP) := by
      rw [List.length_append, List.length_singleton] at h4
      rw [h4, List.getElem?_append_right (Nat.le_refl _), Nat.sub_self]; rfl
    rw [List.getElem?_take_of_lt (by omega)] at e
    rw [List.getD_eq_getElem?_getD, e]; rfl
  | i :: r, S, k + 1, h => by
    have := slF_get V dT dY dP r (S ++ [dQ (V.take S.length) S (V.getD S.length 0) i dT dY dP]) k (by simpa using h)
    rw [List.length_append, List.length_singleton, show S.length + 1 + k = S.length + (k + 1) by omega] at this
    exact this
theorem thrQ_sizes (D : List Rat) (i : Ins) (k : Nat) (c : Rat) (S : Bk) : (thrQ D i k c S).co.length = S.co.length ∧ (thrQ D i k c S).y.length = S.y.length ∧ (thrQ D i k c S).p.length = S.p.length := by
  unfold thrQ
  repeat' split
  all_goals simp only [Bk.send, bump_len, and_self]
theorem phi_back {t : Tp} {V s : List Rat} {dT : Rat} {dY dP : List Rat} (hm : ∀ k (hk : k < t.code.length), mayB t t.code[k] k = true) (hs : s = slF V dT dY dP t.code []) : ∀ {n : Nat} {S : Bk}, n ≤ t.code.length → (S.y.length : Int) = t.dim → (S.p.length : Int) = t.par → S.co.length = t.code.length →
    phi n S s dT dY dP = phi 0 (backF t.code V n S) s dT dY dP
  | 0, S, _, _, _, _ => rfl
  | n + 1, S, hn, hy, hp, hc => by
    have e := slF_get V dT dY dP t.code [] n (by omega)
    simp only [List.length_nil, Nat.zero_add] at e
    rw [← hs] at e
    rw [phi_step (hm n (by omega)) hy hp (by omega) e, backF]
    have hg : t.code.getD n ⟨0, 0, 0, ⟨false, [], []⟩⟩ = t.code[n] := by simp [show n < t.code.length by omega]
    obtain ⟨z1, z2, z3⟩ := thrQ_sizes V t.code[n] n (S.co.getD n 0) S
    rw [hg]
    exact phi_back hm hs (by omega) (by rw [z2]; exact hy) (by rw [z3]; exact hp) (by rw [z1]; exact hc)
theorem dotN_cons (x y : Rat) (a b : List Rat) : ∀ n, dotN (n + 1) (x :: a) (y :: b) = x * y + dotN n a b
  | 0 => by show 0 + x * y = x * y + 0; grind
  | n + 1 => by
    rw [dotN, dotN_cons x y a b n, dotN]
    show x * y + dotN n a b + a.getD n 0 * b.getD n 0 = _
    grind
theorem dotN_zeros (s : List Rat) (m : Nat) : ∀ n, dotN n (zeros m) s = 0
  | 0 => rfl
  | n + 1 => by
    have : (zeros m).getD n 0 = 0 := by
      simp only [zeros, List.getD_eq_getElem?_getD, List.getElem?_replicate]; split <;> rfl
    rw [dotN, dotN_zeros s m n, this]; grind
theorem dotN_send (s : List Rat) (n : Nat) : ∀ (os : List Int) (w co : List Rat), os.length = w.length → (∀ o ∈ os, 0 ≤ o ∧ o < n) → n ≤ co.length →
    dotN n (sendAll os w co) s = dotN n co s + dotN w.length w (os.map fun o => s.getD o.toNat 0)
  | [], [], co, _, _, _ => by show dotN n co s = dotN n co s + 0; grind
  | o :: os, [], co, h, _, _ => by simp at h
  | [], w :: ws, co, h, _, _ => by simp at h
  | o :: os, w :: ws, co, h, ho, hn => by
    obtain ⟨h1, h2⟩ := ho o (by simp)
    rw [sendAll, dotN_send s n os ws _ (by simpa using h) (fun o h => ho o (by simp [h])) (by rw [bump_len]; exact hn), dotN_bump hn, if_pos (by omega), List.map_cons, List.length_cons, dotN_cons]
    grind
/-- TO AND FRO. -/
theorem to_fro {t : Tp} {T dT : Rat} {Y P dY dP w : List Rat} {l : Int} (h1 : (pushT t T dT Y P dY dP l).2.1 = 0) (h2 : (backT t T Y P w l).2.1 = 0) :
    dotN w.length w (t.outs.map fun o => ((pushT t T dT Y P dY dP l).1.map (·.2)).getD o.toNat 0) =
      (backT t T Y P w l).1.1 * dT + (dotN (backT t T Y P w l).1.2.1.length (backT t T Y P w l).1.2.1 dY + dotN (backT t T Y P w l).1.2.2.length (backT t T Y P w l).1.2.2 dP) := by
  obtain ⟨_, ⟨hw, hy, hp⟩, _, hr, hs⟩ := pushT_ok h1
  obtain ⟨hwl, _, hg⟩ := backT_ok h2
  rw [hr] at hg
  simp only at hg
  obtain ⟨_, hm, ho⟩ := right_parts hw
  have hb := phi_back hm hs (n := t.code.length) (S := bk0 t w) (Nat.le_refl _) (by simp only [bk0, zeros, List.length_replicate]; omega) (by simp only [bk0, zeros, List.length_replicate]; omega) (by simp only [bk0, sendAll_len, zeros, List.length_replicate])
  rw [hg]
  have e : phi 0 (backF t.code ((pushT t T dT Y P dY dP l).1.map (·.1)) t.code.length (bk0 t w)) ((pushT t T dT Y P dY dP l).1.map (·.2)) dT dY dP = 0 + ((backF t.code ((pushT t T dT Y P dY dP l).1.map (·.1)) t.code.length (bk0 t w)).t * dT + (dotN (backF t.code ((pushT t T dT Y P dY dP l).1.map (·.1)) t.code.length (bk0 t w)).y.length (backF t.code ((pushT t T dT Y P dY dP l).1.map (·.1)) t.code.length (bk0 t w)).y dY + dotN (backF t.code ((pushT t T dT Y P dY dP l).1.map (·.1)) t.code.length (bk0 t w)).p.length (backF t.code ((pushT t T dT Y P dY dP l).1.map (·.1)) t.code.length (bk0 t w)).p dP)) := rfl
  rw [Rat.zero_add] at e
  rw [← e, ← hb]
  unfold phi
  simp only [bk0]
  rw [dotN_send _ _ _ _ _ hwl.symm (fun o h => belowB_iff.1 (List.all_eq_true.1 ho o h)) (by simp [zeros]), dotN_zeros, dotN_zeros, dotN_zeros]
  grind
end Go.Proofs.YtopmghclhgihfaaGreatDoor

set_option linter.unusedVariables false
set_option linter.unusedSimpArgs false
set_option maxRecDepth 10000
namespace Go.Proofs.YtopmghclhgihfaaGreatDoor
open Go Go.Ab Go.Num

/-! ### Fractions by their values -/
section
variable {a b : Rat}
theorem c_qnorm (h : qw a ≤ 80000) : PCalls Tryz.prog 44 [encQ a] (encQ a) := by have := c_fnorm (cq a) (okR_cq h); rwa [rv_cq] at this
theorem c_qneg (h : qw a ≤ 80000) : PCalls Tryz.prog 73 [encQ a] (encQ (-a)) := by have := c_fneg (cq a) (okR_cq h); rwa [rv_cq] at this
theorem c_qadd (h : qw a ≤ 20000) (h' : qw b ≤ 20000) : PCalls Tryz.prog 38 [encQ a, encQ b] (encQ (a + b)) := by have := c_fadd (cq a) (cq b) (okR_cq h) (okR_cq h'); rwa [rv_cq, rv_cq] at this
theorem c_qsub (h : qw a ≤ 20000) (h' : qw b ≤ 20000) : PCalls Tryz.prog 186 [encQ a, encQ b] (encQ (a - b)) := by have := c_fsub (cq a) (cq b) (okR_cq h) (okR_cq h'); rwa [rv_cq, rv_cq] at this
theorem c_qmul (h : qw a ≤ 20000) (h' : qw b ≤ 20000) : PCalls Tryz.prog 50 [encQ a, encQ b] (encQ (a * b)) := by have := c_fmul (cq a) (cq b) (okR_cq h) (okR_cq h'); rwa [rv_cq, rv_cq] at this
theorem div_zero (a : Rat) : a / 0 = 0 := by rw [Rat.div_def, Rat.inv_zero, Rat.mul_zero]
/-- A quotient; of a divisor that is 0: 0. -/
theorem c_qquo (h : qw a ≤ 20000) (h' : qw b ≤ 20000) : PCalls Tryz.prog 104 [encQ a, encQ b] (.tup [encQ (a / b), .bool (decide (b ≠ 0))]) := by
  by_cases hb : b = 0
  · subst hb
    have := c_fquo0 (cq a) (cq 0) (okR_cq h) (okR_cq h') (rv_cq 0)
    rw [div_zero]; exact this
  · have := c_fquo (cq a) (cq b) (okR_cq h) (okR_cq h') (by rw [rv_cq]; exact hb)
    rw [rv_cq, rv_cq] at this
    rw [show decide (b ≠ 0) = true from decide_eq_true hb]; exact this
theorem c_qpow {e : Int} (h : qw a ≤ 9000) (h1 : -8 ≤ e) (h2 : e ≤ 8) (h3 : ¬(e < 0 ∧ a = 0)) : PCalls Tryz.prog 105 [encQ a, .int .i64 e] (.tup [encQ (powQ a e), .bool true]) := by
  have := c_fpow (cq a) e (okR_cq h) h1 h2 (by rw [rv_cq]; exact fun g g' => h3 ⟨g, g'⟩)
  rwa [rv_cq] at this
theorem c_qpow0 {e : Int} (h : qw a ≤ 9000) (h3 : e < 0 ∧ a = 0) : PCalls Tryz.prog 105 [encQ a, .int .i64 e] (.tup [encQ 0, .bool false]) :=
  c_fpow0 (cq a) e (okR_cq (by omega)) (.inr (.inr (by rw [rv_cq]; exact h3)))
theorem c_q0 : PCalls Tryz.prog 34 [.int .i64 0] (encQ 0) := c_fof 0 (by omega) (by omega)
end

def encD (x : Rat × Rat) : AV := .agg [.bool (cq x.1).neg, encW (cq x.1).n, encW (cq x.1).d, .bool (cq x.2).neg, encW (cq x.2).n, encW (cq x.2).d]
def small (k : Nat) (x : Rat × Rat) : Prop := qw x.1 ≤ k ∧ qw x.2 ≤ k
theorem small.mono {k l : Nat} {x : Rat × Rat} (h : small k x) (hl : k ≤ l) : small l x := ⟨Nat.le_trans h.1 hl, Nat.le_trans h.2 hl⟩
/-- Slopes by the rules. -/
def mulD (x y : Rat × Rat) : Rat × Rat := (x.1 * y.1, x.2 * y.1 + x.1 * y.2)
def quoD (x y : Rat × Rat) : Option (Rat × Rat) := if y.1 = 0 then none else some (x.1 / y.1, (x.2 - x.1 / y.1 * y.2) / y.1)
def powD (x : Rat × Rat) (e : Int) : Option (Rat × Rat) := if e < 0 ∧ x.1 = 0 then none else some (powQ x.1 e, ((e : Rat) * turnQ x.1 e (powQ x.1 e)) * x.2)
def vD : Option (Rat × Rat) → AV
  | none => .tup [.agg [.bool false, .nilsl, .nilsl, .bool false, .nilsl, .nilsl], .bool false]
  | some x => .tup [encD x, .bool true]

theorem c_dof (f : Fr) (hf : okR 80000 f) : PCalls Tryz.prog 191 [.agg [.opq, .opq], encR f] (encD (rv f, 0)) := by
  have h1 := c_fnorm f hf
  refine pcalls_of_AWR (pa := []) (fn := Tryz.f191) (rs := [.cell 4 114]) follows_mixed Tryz.func191 rfl rfl (by kernel_rfl) (by kernel_rfl) (by rw [Tryz.ntmps191]; simp) ?_
  simp only [go_sem, ↓reduceIte, encR, encW]
  first | refine callD_p h1 ?_ | refine callS_p h1 ?_
  simp only [go_sem, ↓reduceIte, encQ, encR, encW]
  first | refine callD_p c_q0 ?_ | refine callS_p c_q0 ?_
  simp only [go_sem, ↓reduceIte, encD, encQ, encR, encW]
  exact .mk (by simp only [go_sem, ↓reduceIte, encD, encQ, encR, encW])
theorem c_dneg (x : Rat × Rat) (h : small 20000 x) : PCalls Tryz.prog 190 [.agg [.opq, .opq], encD x] (encD (-x.1, -x.2)) := by
  have h1 := c_qneg (a := x.1) (by have := h.1; omega)
  have h2 := c_qneg (a := x.2) (by have := h.2; omega)
  simp only [encQ, encR, encW] at h1 h2
  refine pcalls_of_AWR (pa := []) (fn := Tryz.f190) (rs := [.cell 4 114]) follows_mixed Tryz.func190 rfl rfl (by kernel_rfl) (by kernel_rfl) (by rw [Tryz.ntmps190]; simp) ?_
  simp only [go_sem, ↓reduceIte, encD, encW]
  first | refine callD_p h1 ?_ | refine callS_p h1 ?_
  simp only [go_sem, ↓reduceIte]
  first | refine callD_p h2 ?_ | refine callS_p h2 ?_
  simp only [go_sem, ↓reduceIte, encD, encQ, encR, encW]
  exact .mk (by simp only [go_sem, ↓reduceIte, encD, encQ, encR, encW])
theorem c_dadd (x y : Rat × Rat) (h : small 20000 x) (h' : small 20000 y) : PCalls Tryz.prog 187 [.agg [.opq, .opq], encD x, encD y] (encD (x.1 + y.1, x.2 + y.2)) := by
  have h1 := c_qadd h.1 h'.1
  have h2 := c_qadd h.2 h'.2
  simp only [encQ, encR, encW] at h1 h2
  refine pcalls_of_AWR (pa := []) (fn := Tryz.f187) (rs := [.cell 6 114]) follows_mixed Tryz.func187 rfl rfl (by kernel_rfl) (by kernel_rfl) (by rw [Tryz.ntmps187]; simp) ?_
  simp only [go_sem, ↓reduceIte, encD, encW]
  first | refine callD_p h1 ?_ | refine callS_p h1 ?_
  simp only [go_sem, ↓reduceIte]
  first | refine callD_p h2 ?_ | refine callS_p h2 ?_
  simp only [go_sem, ↓reduceIte, encD, encQ, encR, encW]
  exact .mk (by simp only [go_sem, ↓reduceIte, encD, encQ, encR, encW])
theorem c_dsub (x y : Rat × Rat) (h : small 20000 x) (h' : small 20000 y) : PCalls Tryz.prog 194 [.agg [.opq, .opq], encD x, encD y] (encD (x.1 - y.1, x.2 - y.2)) := by
  have h1 := c_qsub h.1 h'.1
  have h2 := c_qsub h.2 h'.2
  simp only [encQ, encR, encW] at h1 h2
  refine pcalls_of_AWR (pa := []) (fn := Tryz.f194) (rs := [.cell 6 114]) follows_mixed Tryz.func194 rfl rfl (by kernel_rfl) (by kernel_rfl) (by rw [Tryz.ntmps194]; simp) ?_
  simp only [go_sem, ↓reduceIte, encD, encW]
  first | refine callD_p h1 ?_ | refine callS_p h1 ?_
  simp only [go_sem, ↓reduceIte]
  first | refine callD_p h2 ?_ | refine callS_p h2 ?_
  simp only [go_sem, ↓reduceIte, encD, encQ, encR, encW]
  exact .mk (by simp only [go_sem, ↓reduceIte, encD, encQ, encR, encW])
theorem c_dmul (x y : Rat × Rat) (h : small 9000 x) (h' : small 9000 y) : PCalls Tryz.prog 189 [.agg [.opq, .opq], encD x, encD y] (encD (mulD x y)) := by
  obtain ⟨a1, a2⟩ := h
  obtain ⟨b1, b2⟩ := h'
  have q1 := qw_mul x.2 y.1
  have q2 := qw_mul x.1 y.2
  have h1 := c_qmul (a := x.1) (b := y.1) (by omega) (by omega)
  have h2 := c_qmul (a := x.2) (b := y.1) (by omega) (by omega)
  have h3 := c_qmul (a := x.1) (b := y.2) (by omega) (by omega)
  have h4 := c_qadd (a := x.2 * y.1) (b := x.1 * y.2) (by omega) (by omega)
  simp only [encQ, encR, encW] at h1 h2 h3 h4
  refine pcalls_of_AWR (pa := []) (fn := Tryz.f189) (rs := [.cell 6 114]) follows_mixed Tryz.func189 rfl rfl (by kernel_rfl) (by kernel_rfl) (by rw [Tryz.ntmps189]; simp) ?_
  simp only [go_sem, ↓reduceIte, encD, encW]
  first | refine callD_p h1 ?_ | refine callS_p h1 ?_
  simp only [go_sem, ↓reduceIte]
  first | refine callD_p h2 ?_ | refine callS_p h2 ?_
  simp only [go_sem, ↓reduceIte]
  first | refine callD_p h3 ?_ | refine callS_p h3 ?_
  simp only [go_sem, ↓reduceIte]
  first | refine callD_p h4 ?_ | refine callS_p h4 ?_
  simp only [mulD]
  simp only [go_sem, ↓reduceIte, encD, encQ, encR, encW]
  exact .mk (by simp only [go_sem, ↓reduceIte, encD, encQ, encR, encW])
theorem c_dquo (x y : Rat × Rat) (h : small 4000 x) (h' : small 4000 y) : PCalls Tryz.prog 193 [.agg [.opq, .opq], encD x, encD y] (vD (quoD x y)) := by
  obtain ⟨a1, a2⟩ := h
  obtain ⟨b1, b2⟩ := h'
  have q1 := qw_div x.1 y.1
  have q2 := qw_mul (x.1 / y.1) y.2
  have q3 := qw_sub x.2 (x.1 / y.1 * y.2)
  have h1 := c_qquo (a := x.1) (b := y.1) (by omega) (by omega)
  have h2 := c_qmul (a := x.1 / y.1) (b := y.2) (by omega) (by omega)
  have h3 := c_qsub (a := x.2) (b := x.1 / y.1 * y.2) (by omega) (by omega)
  have h4 := c_qquo (a := x.2 - x.1 / y.1 * y.2) (b := y.1) (by omega) (by omega)
  unfold quoD
  by_cases hz : y.1 = 0
  · rw [if_pos hz]
    rw [show decide (y.1 ≠ 0) = false from decide_eq_false (fun h => h hz)] at h1
    simp only [encQ, encR, encW] at h1
    refine pcalls_of_AWR (pa := []) (fn := Tryz.f193) (rs := [.cell 6 114, .tmp 7]) follows_mixed Tryz.func193 rfl rfl (by kernel_rfl) (by kernel_rfl) (by rw [Tryz.ntmps193]; simp) ?_
    simp only [go_sem, ↓reduceIte, encD, encW]
    first | refine callD_p h1 ?_ | refine callS_p h1 ?_
    simp only [go_sem, ↓reduceIte]
    exact .mk (by simp only [go_sem, ↓reduceIte, vD])
  · rw [if_neg hz]
    rw [show decide (y.1 ≠ 0) = true from decide_eq_true hz] at h1 h4
    simp only [encQ, encR, encW] at h1 h2 h3 h4
    refine pcalls_of_AWR (pa := []) (fn := Tryz.f193) (rs := [.cell 6 114, .tmp 7]) follows_mixed Tryz.func193 rfl rfl (by kernel_rfl) (by kernel_rfl) (by rw [Tryz.ntmps193]; simp) ?_
    simp only [go_sem, ↓reduceIte, encD, encW]
    first | refine callD_p h1 ?_ | refine callS_p h1 ?_
    simp only [go_sem, ↓reduceIte]
    first | refine callD_p h2 ?_ | refine callS_p h2 ?_
    simp only [go_sem, ↓reduceIte]
    first | refine callD_p h3 ?_ | refine callS_p h3 ?_
    simp only [go_sem, ↓reduceIte]
    first | refine callD_p h4 ?_ | refine callS_p h4 ?_
    simp only [go_sem, ↓reduceIte]
    exact .mk (by simp only [go_sem, ↓reduceIte, vD, encD, encW])
theorem qw_of (e : Int) (h : e.natAbs ≤ 8) : qw (e : Rat) ≤ 1 := by
  unfold qw
  rw [Rat.num_intCast, Rat.den_intCast]
  have h1 : (dig e.natAbs).length ≤ 1 := dig_len_le.2 (by rw [Nat.pow_one, B_eq]; omega)
  have h2 : (dig 1).length ≤ 1 := dig_len_le.2 (by decide)
  omega
theorem turn_size (q : Rat) (e : Int) (r : Rat) (h : e.natAbs ≤ 8) {k : Nat} (hq : qw q ≤ k) (hr : qw r ≤ 8 * k) (hk : 1 ≤ k) : qw (turnQ q e r) ≤ 9 * k := by
  unfold turnQ
  split
  · have := qw_powQ q (e - 1) (by omega); omega
  split
  · have := qw_div r q; omega
  · rw [qw_zero]; omega
theorem c_dpow (x : Rat × Rat) (e : Int) (h : small 1000 x) (e1 : -8 ≤ e) (e2 : e ≤ 8) : PCalls Tryz.prog 192 [.agg [.opq, .opq], encD x, .int .i64 e] (vD (powD x e)) := by
  obtain ⟨a1, a2⟩ := h
  unfold powD
  by_cases hz : e < 0 ∧ x.1 = 0
  · rw [if_pos hz]
    have h1 := c_qpow0 (a := x.1) (e := e) (by omega) hz
    simp only [encQ, encR, encW] at h1
    refine pcalls_of_AWR (pa := []) (fn := Tryz.f192) (rs := [.cell 6 114, .tmp 7]) follows_mixed Tryz.func192 rfl rfl (by kernel_rfl) (by kernel_rfl) (by rw [Tryz.ntmps192]; simp) ?_
    simp only [go_sem, ↓reduceIte, encD, encW]
    first | refine callD_p h1 ?_ | refine callS_p h1 ?_
    simp only [go_sem, ↓reduceIte]
    exact .mk (by simp only [go_sem, ↓reduceIte, vD])
  · rw [if_neg hz]
    have h1 := c_qpow (a := x.1) (e := e) (by omega) e1 e2 hz
    have p1 := qw_pos x.1
    have p2 := qw_powQ x.1 e (by omega)
    have p3 := turn_size x.1 e (powQ x.1 e) (by omega) (k := 1000) (by omega) (by omega) (by omega)
    have p4 := qw_of e (by omega)
    have p5 := qw_mul (e : Rat) (turnQ x.1 e (powQ x.1 e))
    have h2 := c_fof e (by omega) (by omega)
    have h3 := c_qmul (a := (e : Rat)) (b := turnQ x.1 e (powQ x.1 e)) (by omega) (by omega)
    have h4 := c_qmul (a := (e : Rat) * turnQ x.1 e (powQ x.1 e)) (b := x.2) (by omega) (by omega)
    have h0 := c_q0
    simp only [encQ, encR, encW] at h0 h1 h2 h3 h4
    by_cases pe : 0 < e
    · have et : turnQ x.1 e (powQ x.1 e) = powQ x.1 (e - 1) := by rw [turnQ, if_pos pe]
      have h5 := c_qpow (a := x.1) (e := e - 1) (by omega) (by omega) (by omega) (fun h => by omega)
      have w1 : IntKind.i64.wrap (e - 1) = e - 1 := wrap64_id (by omega) (by omega)
      rw [et] at h3 h4 ⊢
      simp only [encQ, encR, encW] at h5
      refine pcalls_of_AWR (pa := []) (fn := Tryz.f192) (rs := [.cell 6 114, .tmp 7]) follows_mixed Tryz.func192 rfl rfl (by kernel_rfl) (by kernel_rfl) (by rw [Tryz.ntmps192]; simp) ?_
      simp only [go_sem, ↓reduceIte, encD, encW]
      first | refine callD_p h1 ?_ | refine callS_p h1 ?_
      simp only [go_sem, ↓reduceIte]
      first | refine callD_p h0 ?_ | refine callS_p h0 ?_
      simp only [go_sem, ↓reduceIte, dec_true pe, w1]
      first | refine callD_p h5 ?_ | refine callS_p h5 ?_
      simp only [go_sem, ↓reduceIte]
      first | refine callD_p h2 ?_ | refine callS_p h2 ?_
      simp only [go_sem, ↓reduceIte]
      first | refine callD_p h3 ?_ | refine callS_p h3 ?_
      simp only [go_sem, ↓reduceIte]
      first | refine callD_p h4 ?_ | refine callS_p h4 ?_
      simp only [go_sem, ↓reduceIte]
      exact .mk (by simp only [go_sem, ↓reduceIte, vD, encD, encW])
    by_cases ne : e < 0
    · have et : turnQ x.1 e (powQ x.1 e) = powQ x.1 e / x.1 := by rw [turnQ, if_neg pe, if_pos ne]
      have h5 := c_qquo (a := powQ x.1 e) (b := x.1) (by omega) (by omega)
      rw [et] at h3 h4 ⊢
      simp only [encQ, encR, encW] at h5
      refine pcalls_of_AWR (pa := []) (fn := Tryz.f192) (rs := [.cell 6 114, .tmp 7]) follows_mixed Tryz.func192 rfl rfl (by kernel_rfl) (by kernel_rfl) (by rw [Tryz.ntmps192]; simp) ?_
      simp only [go_sem, ↓reduceIte, encD, encW]
      first | refine callD_p h1 ?_ | refine callS_p h1 ?_
      simp only [go_sem, ↓reduceIte]
      first | refine callD_p h0 ?_ | refine callS_p h0 ?_
      simp only [go_sem, ↓reduceIte, dec_false pe, dec_true ne]
      first | refine callD_p h5 ?_ | refine callS_p h5 ?_
      simp only [go_sem, ↓reduceIte]
      first | refine callD_p h2 ?_ | refine callS_p h2 ?_
      simp only [go_sem, ↓reduceIte]
      first | refine callD_p h3 ?_ | refine callS_p h3 ?_
      simp only [go_sem, ↓reduceIte]
      first | refine callD_p h4 ?_ | refine callS_p h4 ?_
      simp only [go_sem, ↓reduceIte]
      exact .mk (by simp only [go_sem, ↓reduceIte, vD, encD, encW])
    · have et : turnQ x.1 e (powQ x.1 e) = 0 := by rw [turnQ, if_neg pe, if_neg ne]
      rw [et] at h3 h4 ⊢
      refine pcalls_of_AWR (pa := []) (fn := Tryz.f192) (rs := [.cell 6 114, .tmp 7]) follows_mixed Tryz.func192 rfl rfl (by kernel_rfl) (by kernel_rfl) (by rw [Tryz.ntmps192]; simp) ?_
      simp only [go_sem, ↓reduceIte, encD, encW]
      first | refine callD_p h1 ?_ | refine callS_p h1 ?_
      simp only [go_sem, ↓reduceIte]
      first | refine callD_p h0 ?_ | refine callS_p h0 ?_
      simp only [go_sem, ↓reduceIte, dec_false pe, dec_false ne]
      first | refine callD_p h2 ?_ | refine callS_p h2 ?_
      simp only [go_sem, ↓reduceIte]
      first | refine callD_p h3 ?_ | refine callS_p h3 ?_
      simp only [go_sem, ↓reduceIte]
      first | refine callD_p h4 ?_ | refine callS_p h4 ?_
      simp only [go_sem, ↓reduceIte]
      exact .mk (by simp only [go_sem, ↓reduceIte, vD, encD, encW])
end Go.Proofs.YtopmghclhgihfaaGreatDoor

set_option linter.unusedVariables false
set_option linter.unusedSimpArgs false
set_option maxRecDepth 10000
namespace Go.Proofs.YtopmghclhgihfaaGreatDoor
open Go Go.Ab Go.Num

theorem elt_d : Elt 6 encD := ⟨by omega, fun q => ⟨_, rfl, rfl, rfl, rfl⟩⟩
theorem len_d (D : List (Rat × Rat)) : (flatC encD D).length = D.length * 6 := flatC_length elt_d D
theorem flat_d {D : List (Rat × Rat)} {i : Nat} (h : i < D.length) : ((flatC encD D).drop (i * 6)).take 6 = [.bool (cq (D.getD i (0, 0)).1).neg, encW (cq (D.getD i (0, 0)).1).n, encW (cq (D.getD i (0, 0)).1).d, .bool (cq (D.getD i (0, 0)).2).neg, encW (cq (D.getD i (0, 0)).2).n, encW (cq (D.getD i (0, 0)).2).d] := by
  obtain ⟨cs, h1, h2⟩ := flat_get elt_d h
  rw [h2, show D.getD i (0, 0) = D[i] by simp [List.getD, h]]
  cases h1; rfl
theorem get_d {D : List (Rat × Rat)} {i : Nat} (h : i < D.length) : getAs true 6 ((flatC encD D).drop (i * 6)) = some (.agg [.bool (cq (D.getD i (0, 0)).1).neg, encW (cq (D.getD i (0, 0)).1).n, encW (cq (D.getD i (0, 0)).1).d, .bool (cq (D.getD i (0, 0)).2).neg, encW (cq (D.getD i (0, 0)).2).n, encW (cq (D.getD i (0, 0)).2).d]) := by
  rw [getAs_true (by rw [List.length_drop, len_d]; omega), flat_d h]
def encInD (T : Rat × Rat) (Y P : List (Rat × Rat)) : AV := .agg [.bool (cq T.1).neg, encW (cq T.1).n, encW (cq T.1).d, .bool (cq T.2).neg, encW (cq T.2).n, encW (cq T.2).d, .sl 6 (Y.map encD), .sl 6 (P.map encD)]
def leafD (T : Rat × Rat) (Y P : List (Rat × Rat)) (i : Ins) : Rat × Rat :=
  if i.op = 1 then (rv i.n, 0) else if i.op = 3 then Y.getD i.a.toNat (0, 0) else if i.op = 4 then P.getD i.a.toNat (0, 0) else T
theorem map_fst_getD (D : List (Rat × Rat)) (i : Nat) : (D.map (·.1)).getD i 0 = (D.getD i (0, 0)).1 := by
  simp only [List.getD_eq_getElem?_getD, List.getElem?_map]; cases D[i]? <;> rfl
theorem map_snd_getD (D : List (Rat × Rat)) (i : Nat) : (D.map (·.2)).getD i 0 = (D.getD i (0, 0)).2 := by
  simp only [List.getD_eq_getElem?_getD, List.getElem?_map]; cases D[i]? <;> rfl


set_option maxRecDepth 10000 in
theorem c_leafD (T : Rat × Rat) (Y P : List (Rat × Rat)) (i : Ins) (h1 : i.op = 1 → okR 80000 i.n) (h3 : i.op = 3 → 0 ≤ i.a ∧ i.a < Y.length) (h4 : i.op = 4 → 0 ≤ i.a ∧ i.a < P.length) : PCalls Tryz.prog 126 [.agg [.opq, .opq], encI i, encInD T Y P] (encD (leafD T Y P i)) := by
  unfold leafD
  by_cases e1 : i.op = 1
  · rw [if_pos e1]
    have hc := c_dof i.n (h1 e1)
    refine pcalls_of_AWR (pa := []) (fn := Tryz.f126) (rs := [.cell 6 114]) follows_mixed Tryz.func126 rfl rfl (by kernel_rfl) (by kernel_rfl) (by rw [Tryz.ntmps126]; simp) ?_
    simp only [go_sem, ↓reduceIte, encI, encInD, encW, beq_int, dec_true e1]
    refine callS_p hc ?_
    simp only [go_sem, ↓reduceIte, encD, encQ, encR, encW]
    exact .mk (by simp only [go_sem, ↓reduceIte, encD, encQ, encR, encW])
  by_cases e3 : i.op = 3
  · rw [if_neg e1, if_pos e3]
    obtain ⟨a1, a2⟩ := h3 e3
    have hl : i.a.toNat < Y.length := by omega
    have hg : (Y.map encD).getD i.a.toNat .undef = encD (Y.getD i.a.toNat (0, 0)) := by simp [List.getD, hl]
    refine pcalls_of_AWR (pa := []) (fn := Tryz.f126) (rs := [.cell 6 114]) follows_mixed Tryz.func126 rfl rfl (by kernel_rfl) (by kernel_rfl) (by rw [Tryz.ntmps126]; simp) ?_
    simp only [go_sem, ↓reduceIte, encI, encInD, encW, beq_int, dec_false e1, dec_true e3, a1, a2, hg, encD]
    exact .mk (by simp only [go_sem, ↓reduceIte, encD, encW])
  by_cases e4 : i.op = 4
  · rw [if_neg e1, if_neg e3, if_pos e4]
    obtain ⟨a1, a2⟩ := h4 e4
    have hl : i.a.toNat < P.length := by omega
    have hg : (P.map encD).getD i.a.toNat .undef = encD (P.getD i.a.toNat (0, 0)) := by simp [List.getD, hl]
    refine pcalls_of_AWR (pa := []) (fn := Tryz.f126) (rs := [.cell 6 114]) follows_mixed Tryz.func126 rfl rfl (by kernel_rfl) (by kernel_rfl) (by rw [Tryz.ntmps126]; simp) ?_
    simp only [go_sem, ↓reduceIte, encI, encInD, encW, beq_int, dec_false e1, dec_false e3, dec_true e4, a1, a2, hg, encD]
    exact .mk (by simp only [go_sem, ↓reduceIte, encD, encW])
  · rw [if_neg e1, if_neg e3, if_neg e4]
    refine pcalls_of_AWR (pa := []) (fn := Tryz.f126) (rs := [.cell 6 114]) follows_mixed Tryz.func126 rfl rfl (by kernel_rfl) (by kernel_rfl) (by rw [Tryz.ntmps126]; simp) ?_
    simp only [go_sem, ↓reduceIte, encI, encInD, encW, beq_int, dec_false e1, dec_false e3, dec_false e4]
    exact .mk (by simp only [go_sem, ↓reduceIte, encD, encW])

/-- Results so far: nil, or an own slice. -/
def OwnD (h : Heap) (n : Nat) (D : List (Rat × Rat)) (v : AV) : Prop := (D = [] ∧ v = .nilsl) ∨ ∃ b, v = .own b 0 D.length 6 ∧ h b = some (flatC encD D) ∧ b < n
structure StepOkD (i : Ins) (D : List (Rat × Rat)) (y p : Nat) : Prop where
  reads : ∀ r ∈ readsI i, 0 ≤ r ∧ r < D.length
  pow : i.op = 11 → -8 ≤ i.b ∧ i.b ≤ 8
  c : i.op = 1 → okR 80000 i.n
  y : i.op = 3 → 0 ≤ i.a ∧ i.a < y
  p : i.op = 4 → 0 ≤ i.a ∧ i.a < p
  size : ∀ q ∈ D, small 1000 q
theorem getD_mem {D : List (Rat × Rat)} {i : Nat} (hi : i < D.length) : D.getD i (0, 0) ∈ D := by
  rw [show D.getD i (0, 0) = D[i] by simp [List.getD, hi]]
  exact List.getElem_mem hi


section
variable (T : Rat × Rat) (Y P : List (Rat × Rat)) (i : Ins) (D : List (Rat × Rat)) (g : Nat) (fs s : Nat) (dv : AV) (h : Heap) (n : Nat)

set_option maxRecDepth 20000 in
set_option maxHeartbeats 2000000 in
theorem c_stepD6 (hD : OwnD h n D dv) (hok : StepOkD i D Y.length P.length) (eop : i.op = 6) : HCalls Tryz.prog 107 [.agg [.ptr g 0, .func fs [.ptr s 0]], encI i, encInD T Y P, dv] h n (fun v h' n' => v = vD (stepD T Y P i D) ∧ ∀ j, j < n → h' j = h j) := by
  obtain ⟨a1, a2⟩ := hok.reads i.a (by simp [readsI, eop])
  have hl : i.a.toNat < D.length := by omega
  have ga := get_d hl
  have la : i.a.toNat * 6 ≤ D.length * 6 := by omega
  have oa := hok.size _ (getD_mem hl)
  have hv : stepD T Y P i D = some (-(D.getD i.a.toNat (0, 0)).1, -(D.getD i.a.toNat (0, 0)).2) := by
    simp only [stepD, stepQ, dQ, if_pos eop, map_fst_getD, map_snd_getD]
  have hc := c_dneg _ (oa.mono (by omega))
  simp only [encD, encW] at hc
  rcases hD with ⟨rfl, rfl⟩ | ⟨b, rfl, hb, hbn⟩
  · simp at hl
  rw [hv]
  refine hcalls_of_AWR (pa := []) (fn := Tryz.f107) (rs := [.cell 8 114, .tmp 9]) follows_mixed Tryz.func107 rfl rfl (by kernel_rfl) (by kernel_rfl) (by rw [Tryz.ntmps107]; simp) ?_
  simp only [go_sem, ↓reduceIte, encI, encInD, encW, beq_int, dec_true eop, a1, a2, hb, hbn, ga, la, len_d, upd1_old _ _ _ _ _ hbn, upd1_old0 _ _ _ _ hbn, old_ne hbn, new_ne hbn, old_ne0 hbn, new_ne0 hbn]
  first | refine callD_p hc ?_ | refine callS_p hc ?_
  simp only [go_sem, ↓reduceIte, encD, encW]
  refine .mk (vD (some _)) (by simp only [go_sem, ↓reduceIte, resR, resAll, resA, vD, encD, encW] <;> rfl) ⟨rfl, fun j hj => by simp only [go_sem, ↓reduceIte, upd1_old _ _ _ _ _ hj, upd1_old0 _ _ _ _ hj]⟩

set_option maxRecDepth 20000 in
set_option maxHeartbeats 2000000 in
theorem c_stepD11 (hD : OwnD h n D dv) (hok : StepOkD i D Y.length P.length) (eop : i.op = 11) : HCalls Tryz.prog 107 [.agg [.ptr g 0, .func fs [.ptr s 0]], encI i, encInD T Y P, dv] h n (fun v h' n' => v = vD (stepD T Y P i D) ∧ ∀ j, j < n → h' j = h j) := by
  obtain ⟨a1, a2⟩ := hok.reads i.a (by simp [readsI, eop])
  have hl : i.a.toNat < D.length := by omega
  have ga := get_d hl
  have la : i.a.toNat * 6 ≤ D.length * 6 := by omega
  have oa := hok.size _ (getD_mem hl)
  have n6 : ¬ i.op = 6 := by omega
  have hv : stepD T Y P i D = powD (D.getD i.a.toNat (0, 0)) i.b := by
    simp only [stepD, stepQ, dQ, if_neg n6, if_pos eop, map_fst_getD, map_snd_getD]
    unfold powO powD
    by_cases hz : i.b < 0 ∧ (D.getD i.a.toNat (0, 0)).1 = 0
    · simp only [if_pos hz]
    · simp only [if_neg hz]
  have hc := c_dpow _ i.b oa (hok.pow eop).1 (hok.pow eop).2
  generalize powD (D.getD i.a.toNat (0, 0)) i.b = o at hv hc
  cases o with
  | none =>
    rcases hD with ⟨rfl, rfl⟩ | ⟨b, rfl, hb, hbn⟩
    · simp at hl
    rw [hv]
    refine hcalls_of_AWR (pa := []) (fn := Tryz.f107) (rs := [.cell 8 114, .tmp 9]) follows_mixed Tryz.func107 rfl rfl (by kernel_rfl) (by kernel_rfl) (by rw [Tryz.ntmps107]; simp) ?_
    simp only [go_sem, ↓reduceIte, encI, encInD, encW, beq_int, dec_false n6, dec_true eop, a1, a2, hb, hbn, ga, la, len_d, upd1_old _ _ _ _ _ hbn, upd1_old0 _ _ _ _ hbn, old_ne hbn, new_ne hbn, old_ne0 hbn, new_ne0 hbn]
    simp only [vD, encD, encW] at hc
    first | refine callD_p hc ?_ | refine callS_p hc ?_
    simp only [go_sem, ↓reduceIte]
    refine .mk (vD none) (by simp only [go_sem, ↓reduceIte, resR, resAll, resA, vD] <;> rfl) ⟨rfl, fun j hj => by simp only [go_sem, ↓reduceIte, upd1_old _ _ _ _ _ hj, upd1_old0 _ _ _ _ hj]⟩
  | some q =>
    simp only [vD, encD, encW] at hc
    rcases hD with ⟨rfl, rfl⟩ | ⟨b, rfl, hb, hbn⟩
    · simp at hl
    rw [hv]
    refine hcalls_of_AWR (pa := []) (fn := Tryz.f107) (rs := [.cell 8 114, .tmp 9]) follows_mixed Tryz.func107 rfl rfl (by kernel_rfl) (by kernel_rfl) (by rw [Tryz.ntmps107]; simp) ?_
    simp only [go_sem, ↓reduceIte, encI, encInD, encW, beq_int, dec_false n6, dec_true eop, a1, a2, hb, hbn, ga, la, len_d, upd1_old _ _ _ _ _ hbn, upd1_old0 _ _ _ _ hbn, old_ne hbn, new_ne hbn, old_ne0 hbn, new_ne0 hbn]
    first | refine callD_p hc ?_ | refine callS_p hc ?_
    simp only [go_sem, ↓reduceIte, encD, encW]
    refine .mk (vD (some _)) (by simp only [go_sem, ↓reduceIte, resR, resAll, resA, vD, encD, encW] <;> rfl) ⟨rfl, fun j hj => by simp only [go_sem, ↓reduceIte, upd1_old _ _ _ _ _ hj, upd1_old0 _ _ _ _ hj]⟩

set_option maxRecDepth 20000 in
set_option maxHeartbeats 2000000 in
theorem c_stepD7 (hD : OwnD h n D dv) (hok : StepOkD i D Y.length P.length) (eop : i.op = 7) : HCalls Tryz.prog 107 [.agg [.ptr g 0, .func fs [.ptr s 0]], encI i, encInD T Y P, dv] h n (fun v h' n' => v = vD (stepD T Y P i D) ∧ ∀ j, j < n → h' j = h j) := by
  obtain ⟨a1, a2⟩ := hok.reads i.a (by simp [readsI, eop])
  have hl : i.a.toNat < D.length := by omega
  have ga := get_d hl
  have la : i.a.toNat * 6 ≤ D.length * 6 := by omega
  have oa := hok.size _ (getD_mem hl)
  obtain ⟨b1, b2⟩ := hok.reads i.b (by simp [readsI, eop])
  have hl2 : i.b.toNat < D.length := by omega
  have gb := get_d hl2
  have lb : i.b.toNat * 6 ≤ D.length * 6 := by omega
  have ob := hok.size _ (getD_mem hl2)
  have n6 : ¬ i.op = 6 := by omega
  have n11 : ¬ i.op = 11 := by omega
  have hv : stepD T Y P i D = some ((D.getD i.a.toNat (0, 0)).1 + (D.getD i.b.toNat (0, 0)).1, (D.getD i.a.toNat (0, 0)).2 + (D.getD i.b.toNat (0, 0)).2) := by
    simp only [stepD, stepQ, dQ, if_neg n6, if_neg n11, if_pos eop, map_fst_getD, map_snd_getD]
  have hc := c_dadd _ _ (oa.mono (by omega)) (ob.mono (by omega))
  simp only [encD, encW] at hc
  rcases hD with ⟨rfl, rfl⟩ | ⟨b, rfl, hb, hbn⟩
  · simp at hl
  rw [hv]
  refine hcalls_of_AWR (pa := []) (fn := Tryz.f107) (rs := [.cell 8 114, .tmp 9]) follows_mixed Tryz.func107 rfl rfl (by kernel_rfl) (by kernel_rfl) (by rw [Tryz.ntmps107]; simp) ?_
  simp only [go_sem, ↓reduceIte, encI, encInD, encW, beq_int, dec_false n6, dec_false n11, dec_true eop, a1, a2, hb, hbn, ga, la, len_d, upd1_old _ _ _ _ _ hbn, upd1_old0 _ _ _ _ hbn, old_ne hbn, new_ne hbn, old_ne0 hbn, new_ne0 hbn, b1, b2, gb, lb]
  first | refine callD_p hc ?_ | refine callS_p hc ?_
  simp only [go_sem, ↓reduceIte, encD, encW]
  refine .mk (vD (some _)) (by simp only [go_sem, ↓reduceIte, resR, resAll, resA, vD, encD, encW] <;> rfl) ⟨rfl, fun j hj => by simp only [go_sem, ↓reduceIte, upd1_old _ _ _ _ _ hj, upd1_old0 _ _ _ _ hj]⟩

set_option maxRecDepth 20000 in
set_option maxHeartbeats 2000000 in
theorem c_stepD8 (hD : OwnD h n D dv) (hok : StepOkD i D Y.length P.length) (eop : i.op = 8) : HCalls Tryz.prog 107 [.agg [.ptr g 0, .func fs [.ptr s 0]], encI i, encInD T Y P, dv] h n (fun v h' n' => v = vD (stepD T Y P i D) ∧ ∀ j, j < n → h' j = h j) := by
  obtain ⟨a1, a2⟩ := hok.reads i.a (by simp [readsI, eop])
  have hl : i.a.toNat < D.length := by omega
  have ga := get_d hl
  have la : i.a.toNat * 6 ≤ D.length * 6 := by omega
  have oa := hok.size _ (getD_mem hl)
  obtain ⟨b1, b2⟩ := hok.reads i.b (by simp [readsI, eop])
  have hl2 : i.b.toNat < D.length := by omega
  have gb := get_d hl2
  have lb : i.b.toNat * 6 ≤ D.length * 6 := by omega
  have ob := hok.size _ (getD_mem hl2)
  have n6 : ¬ i.op = 6 := by omega
  have n11 : ¬ i.op = 11 := by omega
  have n7 : ¬ i.op = 7 := by omega
  have hv : stepD T Y P i D = some ((D.getD i.a.toNat (0, 0)).1 - (D.getD i.b.toNat (0, 0)).1, (D.getD i.a.toNat (0, 0)).2 - (D.getD i.b.toNat (0, 0)).2) := by
    simp only [stepD, stepQ, dQ, if_neg n6, if_neg n11, if_neg n7, if_pos eop, map_fst_getD, map_snd_getD]
  have hc := c_dsub _ _ (oa.mono (by omega)) (ob.mono (by omega))
  simp only [encD, encW] at hc
  rcases hD with ⟨rfl, rfl⟩ | ⟨b, rfl, hb, hbn⟩
  · simp at hl
  rw [hv]
  refine hcalls_of_AWR (pa := []) (fn := Tryz.f107) (rs := [.cell 8 114, .tmp 9]) follows_mixed Tryz.func107 rfl rfl (by kernel_rfl) (by kernel_rfl) (by rw [Tryz.ntmps107]; simp) ?_
  simp only [go_sem, ↓reduceIte, encI, encInD, encW, beq_int, dec_false n6, dec_false n11, dec_false n7, dec_true eop, a1, a2, hb, hbn, ga, la, len_d, upd1_old _ _ _ _ _ hbn, upd1_old0 _ _ _ _ hbn, old_ne hbn, new_ne hbn, old_ne0 hbn, new_ne0 hbn, b1, b2, gb, lb]
  first | refine callD_p hc ?_ | refine callS_p hc ?_
  simp only [go_sem, ↓reduceIte, encD, encW]
  refine .mk (vD (some _)) (by simp only [go_sem, ↓reduceIte, resR, resAll, resA, vD, encD, encW] <;> rfl) ⟨rfl, fun j hj => by simp only [go_sem, ↓reduceIte, upd1_old _ _ _ _ _ hj, upd1_old0 _ _ _ _ hj]⟩

set_option maxRecDepth 20000 in
set_option maxHeartbeats 2000000 in
theorem c_stepD9 (hD : OwnD h n D dv) (hok : StepOkD i D Y.length P.length) (eop : i.op = 9) : HCalls Tryz.prog 107 [.agg [.ptr g 0, .func fs [.ptr s 0]], encI i, encInD T Y P, dv] h n (fun v h' n' => v = vD (stepD T Y P i D) ∧ ∀ j, j < n → h' j = h j) := by
  obtain ⟨a1, a2⟩ := hok.reads i.a (by simp [readsI, eop])
  have hl : i.a.toNat < D.length := by omega
  have ga := get_d hl
  have la : i.a.toNat * 6 ≤ D.length * 6 := by omega
  have oa := hok.size _ (getD_mem hl)
  obtain ⟨b1, b2⟩ := hok.reads i.b (by simp [readsI, eop])
  have hl2 : i.b.toNat < D.length := by omega
  have gb := get_d hl2
  have lb : i.b.toNat * 6 ≤ D.length * 6 := by omega
  have ob := hok.size _ (getD_mem hl2)
  have n6 : ¬ i.op = 6 := by omega
  have n11 : ¬ i.op = 11 := by omega
  have n7 : ¬ i.op = 7 := by omega
  have n8 : ¬ i.op = 8 := by omega
  have hv : stepD T Y P i D = some (mulD (D.getD i.a.toNat (0, 0)) (D.getD i.b.toNat (0, 0))) := by
    simp only [stepD, stepQ, dQ, if_neg n6, if_neg n11, if_neg n7, if_neg n8, if_pos eop, map_fst_getD, map_snd_getD]
    rfl
  have hc := c_dmul _ _ (oa.mono (by omega)) (ob.mono (by omega))
  simp only [encD, encW] at hc
  rcases hD with ⟨rfl, rfl⟩ | ⟨b, rfl, hb, hbn⟩
  · simp at hl
  rw [hv]
  refine hcalls_of_AWR (pa := []) (fn := Tryz.f107) (rs := [.cell 8 114, .tmp 9]) follows_mixed Tryz.func107 rfl rfl (by kernel_rfl) (by kernel_rfl) (by rw [Tryz.ntmps107]; simp) ?_
  simp only [go_sem, ↓reduceIte, encI, encInD, encW, beq_int, dec_false n6, dec_false n11, dec_false n7, dec_false n8, dec_true eop, a1, a2, hb, hbn, ga, la, len_d, upd1_old _ _ _ _ _ hbn, upd1_old0 _ _ _ _ hbn, old_ne hbn, new_ne hbn, old_ne0 hbn, new_ne0 hbn, b1, b2, gb, lb]
  first | refine callD_p hc ?_ | refine callS_p hc ?_
  simp only [go_sem, ↓reduceIte, encD, encW]
  refine .mk (vD (some _)) (by simp only [go_sem, ↓reduceIte, resR, resAll, resA, vD, encD, encW] <;> rfl) ⟨rfl, fun j hj => by simp only [go_sem, ↓reduceIte, upd1_old _ _ _ _ _ hj, upd1_old0 _ _ _ _ hj]⟩

set_option maxRecDepth 20000 in
set_option maxHeartbeats 2000000 in
theorem c_stepD10 (hD : OwnD h n D dv) (hok : StepOkD i D Y.length P.length) (eop : i.op = 10) : HCalls Tryz.prog 107 [.agg [.ptr g 0, .func fs [.ptr s 0]], encI i, encInD T Y P, dv] h n (fun v h' n' => v = vD (stepD T Y P i D) ∧ ∀ j, j < n → h' j = h j) := by
  obtain ⟨a1, a2⟩ := hok.reads i.a (by simp [readsI, eop])
  have hl : i.a.toNat < D.length := by omega
  have ga := get_d hl
  have la : i.a.toNat * 6 ≤ D.length * 6 := by omega
  have oa := hok.size _ (getD_mem hl)
  obtain ⟨b1, b2⟩ := hok.reads i.b (by simp [readsI, eop])
  have hl2 : i.b.toNat < D.length := by omega
  have gb := get_d hl2
  have lb : i.b.toNat * 6 ≤ D.length * 6 := by omega
  have ob := hok.size _ (getD_mem hl2)
  have n6 : ¬ i.op = 6 := by omega
  have n11 : ¬ i.op = 11 := by omega
  have n7 : ¬ i.op = 7 := by omega
  have n8 : ¬ i.op = 8 := by omega
  have n9 : ¬ i.op = 9 := by omega
  have hv : stepD T Y P i D = quoD (D.getD i.a.toNat (0, 0)) (D.getD i.b.toNat (0, 0)) := by
    simp only [stepD, stepQ, dQ, if_neg n6, if_neg n11, if_neg n7, if_neg n8, if_neg n9, if_pos eop, map_fst_getD, map_snd_getD]
    unfold quoO quoD
    by_cases hz : (D.getD i.b.toNat (0, 0)).1 = 0
    · simp only [if_pos hz]
    · simp only [if_neg hz]
  have hc := c_dquo _ _ (oa.mono (by omega)) (ob.mono (by omega))
  generalize quoD (D.getD i.a.toNat (0, 0)) (D.getD i.b.toNat (0, 0)) = o at hv hc
  cases o with
  | none =>
    rcases hD with ⟨rfl, rfl⟩ | ⟨b, rfl, hb, hbn⟩
    · simp at hl
    rw [hv]
    refine hcalls_of_AWR (pa := []) (fn := Tryz.f107) (rs := [.cell 8 114, .tmp 9]) follows_mixed Tryz.func107 rfl rfl (by kernel_rfl) (by kernel_rfl) (by rw [Tryz.ntmps107]; simp) ?_
    simp only [go_sem, ↓reduceIte, encI, encInD, encW, beq_int, dec_false n6, dec_false n11, dec_false n7, dec_false n8, dec_false n9, dec_true eop, a1, a2, hb, hbn, ga, la, len_d, upd1_old _ _ _ _ _ hbn, upd1_old0 _ _ _ _ hbn, old_ne hbn, new_ne hbn, old_ne0 hbn, new_ne0 hbn, b1, b2, gb, lb]
    simp only [vD, encD, encW] at hc
    first | refine callD_p hc ?_ | refine callS_p hc ?_
    simp only [go_sem, ↓reduceIte]
    refine .mk (vD none) (by simp only [go_sem, ↓reduceIte, resR, resAll, resA, vD] <;> rfl) ⟨rfl, fun j hj => by simp only [go_sem, ↓reduceIte, upd1_old _ _ _ _ _ hj, upd1_old0 _ _ _ _ hj]⟩
  | some q =>
    simp only [vD, encD, encW] at hc
    rcases hD with ⟨rfl, rfl⟩ | ⟨b, rfl, hb, hbn⟩
    · simp at hl
    rw [hv]
    refine hcalls_of_AWR (pa := []) (fn := Tryz.f107) (rs := [.cell 8 114, .tmp 9]) follows_mixed Tryz.func107 rfl rfl (by kernel_rfl) (by kernel_rfl) (by rw [Tryz.ntmps107]; simp) ?_
    simp only [go_sem, ↓reduceIte, encI, encInD, encW, beq_int, dec_false n6, dec_false n11, dec_false n7, dec_false n8, dec_false n9, dec_true eop, a1, a2, hb, hbn, ga, la, len_d, upd1_old _ _ _ _ _ hbn, upd1_old0 _ _ _ _ hbn, old_ne hbn, new_ne hbn, old_ne0 hbn, new_ne0 hbn, b1, b2, gb, lb]
    first | refine callD_p hc ?_ | refine callS_p hc ?_
    simp only [go_sem, ↓reduceIte, encD, encW]
    refine .mk (vD (some _)) (by simp only [go_sem, ↓reduceIte, resR, resAll, resA, vD, encD, encW] <;> rfl) ⟨rfl, fun j hj => by simp only [go_sem, ↓reduceIte, upd1_old _ _ _ _ _ hj, upd1_old0 _ _ _ _ hj]⟩

set_option maxRecDepth 20000 in
set_option maxHeartbeats 2000000 in
theorem c_stepD (hD : OwnD h n D dv) (hok : StepOkD i D Y.length P.length) : HCalls Tryz.prog 107 [.agg [.ptr g 0, .func fs [.ptr s 0]], encI i, encInD T Y P, dv] h n (fun v h' n' => v = vD (stepD T Y P i D) ∧ ∀ j, j < n → h' j = h j) := by
  by_cases n6 : i.op = 6
  · exact c_stepD6 T Y P i D g fs s dv h n hD hok n6
  by_cases n11 : i.op = 11
  · exact c_stepD11 T Y P i D g fs s dv h n hD hok n11
  by_cases n7 : i.op = 7
  · exact c_stepD7 T Y P i D g fs s dv h n hD hok n7
  by_cases n8 : i.op = 8
  · exact c_stepD8 T Y P i D g fs s dv h n hD hok n8
  by_cases n9 : i.op = 9
  · exact c_stepD9 T Y P i D g fs s dv h n hD hok n9
  by_cases n10 : i.op = 10
  · exact c_stepD10 T Y P i D g fs s dv h n hD hok n10
  have hv : stepD T Y P i D = some (leafD T Y P i) := by
    simp only [stepD, stepQ, dQ, if_neg n6, if_neg n11, if_neg n7, if_neg n8, if_neg n9, if_neg n10, leafQ, leafD, map_fst_getD, map_snd_getD]
    by_cases e1 : i.op = 1
    · simp only [if_pos e1]
    by_cases e3 : i.op = 3
    · simp only [if_neg e1, if_pos e3]
    by_cases e4 : i.op = 4
    · simp only [if_neg e1, if_neg e3, if_pos e4]
    · simp only [if_neg e1, if_neg e3, if_neg e4]
  have hc := c_leafD T Y P i hok.c hok.y hok.p
  simp only [encD, encW] at hc
  rw [hv]
  refine hcalls_of_AWR (pa := []) (fn := Tryz.f107) (rs := [.cell 8 114, .tmp 9]) follows_mixed Tryz.func107 rfl rfl (by kernel_rfl) (by kernel_rfl) (by rw [Tryz.ntmps107]; simp) ?_
  simp only [go_sem, ↓reduceIte, encI, encInD, encW, beq_int, dec_false n6, dec_false n11, dec_false n7, dec_false n8, dec_false n9, dec_false n10]
  refine callS_p hc ?_
  simp only [go_sem, ↓reduceIte, encD, encW]
  refine .mk (vD (some _)) (by simp only [go_sem, ↓reduceIte, resR, resAll, resA, vD, encD, encW] <;> rfl) ⟨rfl, fun j hj => by simp only [go_sem, ↓reduceIte, upd1_old _ _ _ _ _ hj, upd1_old0 _ _ _ _ hj]⟩
end
end Go.Proofs.YtopmghclhgihfaaGreatDoor
