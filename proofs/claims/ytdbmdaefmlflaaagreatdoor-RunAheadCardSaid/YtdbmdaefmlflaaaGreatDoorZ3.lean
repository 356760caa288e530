/- Parts of the proof, joined: M1, M2, M3, M4, M5, M6, N3, M7, M8, M9, M10, M11, N4, M12, M13, M14, M15, G1, G2. -/
import Derived.Test.YtdbmdaefmlflaaaGreatDoorZ2

set_option linter.unusedVariables false
set_option linter.unusedSimpArgs false
set_option maxRecDepth 10000
namespace Go.Proofs.YtdbmdaefmlflaaaGreatDoor
open Go Go.Ab Go.Num


theorem c_ladd (x y c : Nat) (hx : x < 4294967296) (hy : y < 4294967296) (hc : c < 4294967296) : PCalls Tryz.prog 101 [.int .u32 (x : Int), .int .u32 (y : Int), .int .u32 (c : Int)] (.tup [.int .u32 ((x + (y + c)) % 4294967296 : Nat), .int .u32 ((x + (y + c)) / 4294967296 : Nat)]) := by
  refine pcalls_of_AW (pa := []) (fn := Tryz.f101) (ts := [6, 7]) follows_mixed Tryz.func101 rfl rfl (by kernel_rfl) (by kernel_rfl) (by rw [Tryz.ntmps101]; simp) ?_
  simp only [go_sem, ↓reduceIte, wu32_add, dlt_nat]
  have e1 : ((x + y) % 4294967296 + c) % 4294967296 = (x + (y + c)) % 4294967296 := by omega
  by_cases h1 : (x + y) % 4294967296 < x
  · simp only [go_sem, ↓reduceIte, wu32_add, dlt_nat, dec_true h1, e1, u01]
    by_cases h2 : (x + (y + c)) % 4294967296 < c
    · have e2 : (x + (y + c)) / 4294967296 = 2 := by omega
      simp only [go_sem, ↓reduceIte, wu32_add, dlt_nat, dec_true h2, u11]
      exact .mk (by simp only [go_sem, ↓reduceIte, e2] <;> rfl)
    · have e2 : (x + (y + c)) / 4294967296 = 1 := by omega
      simp only [go_sem, ↓reduceIte, wu32_add, dlt_nat, dec_false h2]
      exact .mk (by simp only [go_sem, ↓reduceIte, e2] <;> rfl)
  · simp only [go_sem, ↓reduceIte, wu32_add, dlt_nat, dec_false h1, e1]
    by_cases h2 : (x + (y + c)) % 4294967296 < c
    · have e2 : (x + (y + c)) / 4294967296 = 1 := by omega
      simp only [go_sem, ↓reduceIte, wu32_add, dlt_nat, dec_true h2, u01]
      exact .mk (by simp only [go_sem, ↓reduceIte, e2] <;> rfl)
    · have e2 : (x + (y + c)) / 4294967296 = 0 := by omega
      simp only [go_sem, ↓reduceIte, wu32_add, dlt_nat, dec_false h2]
      exact .mk (by simp only [go_sem, ↓reduceIte, e2] <;> rfl)

/-- A word less two: the word, and how often 2^32 is owed. -/
def subW (x y b : Nat) : Nat := (x + 8589934592 - y - b) % 4294967296
def subO (x y b : Nat) : Nat := 2 - (x + 8589934592 - y - b) / 4294967296
theorem subW_eq {x y b : Nat} (hx : x < 4294967296) (hy : y < 4294967296) (hb : b < 4294967296) : subW x y b + y + b = x + 4294967296 * subO x y b ∧ subW x y b < 4294967296 := by unfold subW subO; omega
theorem subO_le {x y b : Nat} (hx : x < 4294967296) (hy : y < 4294967296) (hb : b < 4294967296) : subO x y b ≤ 2 := by unfold subO; omega
theorem subO_le1 {x y b : Nat} (hx : x < 4294967296) (hy : y < 4294967296) (hb : b ≤ 1) : subO x y b ≤ 1 := by unfold subO; omega

theorem c_lsub (x y b : Nat) (hx : x < 4294967296) (hy : y < 4294967296) (hb : b < 4294967296) : PCalls Tryz.prog 102 [.int .u32 (x : Int), .int .u32 (y : Int), .int .u32 (b : Int)] (.tup [.int .u32 (subW x y b : Nat), .int .u32 (subO x y b : Nat)]) := by
  refine pcalls_of_AW (pa := []) (fn := Tryz.f102) (ts := [6, 7]) follows_mixed Tryz.func102 rfl rfl (by kernel_rfl) (by kernel_rfl) (by rw [Tryz.ntmps102]; simp) ?_
  simp only [go_sem, ↓reduceIte, dlt_nat]
  have hd : ∃ d : Nat, IntKind.u32.wrap ((x : Int) - (y : Int)) = (d : Int) ∧ d < 4294967296 ∧ (y ≤ x → d = x - y) ∧ (x < y → d = x + 4294967296 - y) := by
    by_cases h : y ≤ x
    · exact ⟨x - y, by rw [wu32_sub h, Nat.mod_eq_of_lt (by omega)], by omega, fun _ => rfl, fun _ => by omega⟩
    · exact ⟨x + 4294967296 - y, wu32_sub' (by omega) hx hy, by omega, fun _ => by omega, fun _ => rfl⟩
  obtain ⟨d, hd, hd1, hd2, hd3⟩ := hd
  have he : ∃ e : Nat, IntKind.u32.wrap ((d : Int) - (b : Int)) = (e : Int) ∧ e = subW x y b := by
    by_cases h : b ≤ d
    · exact ⟨d - b, by rw [wu32_sub h, Nat.mod_eq_of_lt (by omega)], by unfold subW; omega⟩
    · exact ⟨d + 4294967296 - b, wu32_sub' (by omega) hd1 hb, by unfold subW; omega⟩
  obtain ⟨e, he, rfl⟩ := he
  by_cases h1 : x < y
  · simp only [go_sem, ↓reduceIte, dec_true h1, hd, dlt_nat, u01]
    by_cases h2 : d < b
    · have e2 : subO x y b = 2 := by unfold subO; omega
      simp only [go_sem, ↓reduceIte, dec_true h2, hd, he, dlt_nat, u11]
      exact .mk (by simp only [go_sem, ↓reduceIte, e2] <;> rfl)
    · have e2 : subO x y b = 1 := by unfold subO; omega
      simp only [go_sem, ↓reduceIte, dec_false h2, hd, he, dlt_nat]
      exact .mk (by simp only [go_sem, ↓reduceIte, e2] <;> rfl)
  · simp only [go_sem, ↓reduceIte, dec_false h1, hd, dlt_nat]
    by_cases h2 : d < b
    · have e2 : subO x y b = 1 := by unfold subO; omega
      simp only [go_sem, ↓reduceIte, dec_true h2, hd, he, dlt_nat, u01]
      exact .mk (by simp only [go_sem, ↓reduceIte, e2] <;> rfl)
    · have e2 : subO x y b = 0 := by unfold subO; omega
      simp only [go_sem, ↓reduceIte, dec_false h2, hd, he, dlt_nat]
      exact .mk (by simp only [go_sem, ↓reduceIte, e2] <;> rfl)

theorem c_lmul (x y c d : Nat) (hx : x < 4294967296) (hy : y < 4294967296) (hc : c < 4294967296) (hd : d < 4294967296) :
    PCalls Tryz.prog 96 [.int .u32 (x : Int), .int .u32 (y : Int), .int .u32 (c : Int), .int .u32 (d : Int)] (.tup [.int .u32 ((x * y + (c + d)) / 4294967296 : Nat), .int .u32 ((x * y + (c + d)) % 4294967296 : Nat)]) := by
  refine pcalls_of_AW (pa := []) (fn := Tryz.f96) (ts := [8, 9]) follows_mixed Tryz.func96 rfl rfl (by kernel_rfl) (by kernel_rfl) (by rw [Tryz.ntmps96]; simp) ?_
  have hm : x * y ≤ 4294967295 * 4294967295 := Nat.mul_le_mul (by omega) (by omega)
  have m1 : x % 18446744073709551616 = x := Nat.mod_eq_of_lt (by omega)
  have m2 : y % 18446744073709551616 = y := Nat.mod_eq_of_lt (by omega)
  have m3 : c % 18446744073709551616 = c := Nat.mod_eq_of_lt (by omega)
  have m4 : d % 18446744073709551616 = d := Nat.mod_eq_of_lt (by omega)
  have m5 : x * y % 18446744073709551616 = x * y := Nat.mod_eq_of_lt (by omega)
  have m6 : (x * y + c) % 18446744073709551616 = x * y + c := Nat.mod_eq_of_lt (by omega)
  have m7 : (x * y + (c + d)) % 18446744073709551616 = x * y + (c + d) := Nat.mod_eq_of_lt (by omega)
  have m8 : (x * y + (c + d)) / 4294967296 % 4294967296 = (x * y + (c + d)) / 4294967296 := Nat.mod_eq_of_lt (by omega)
  simp only [go_sem, ↓reduceIte, wu64, wu64_mul, wu64_add, m1, m2, m3, m4, m5, m6, m7, toNat32, min32_64, shr32, wu32, m8]
  exact .mk (by simp only [go_sem, ↓reduceIte])

theorem c_ldiv (hi lo y : Nat) (hh : hi < y) (hl : lo < 4294967296) (hy : y < 4294967296) :
    PCalls Tryz.prog 58 [.int .u32 (hi : Int), .int .u32 (lo : Int), .int .u32 (y : Int)] (.tup [.int .u32 ((hi * 4294967296 + lo) / y : Nat), .int .u32 ((hi * 4294967296 + lo) % y : Nat), .bool true]) := by
  refine pcalls_of_AW (pa := []) (fn := Tryz.f58) (ts := [6, 7, 8]) follows_mixed Tryz.func58 rfl rfl (by kernel_rfl) (by kernel_rfl) (by rw [Tryz.ntmps58]; simp) ?_
  have m1 : hi % 18446744073709551616 = hi := Nat.mod_eq_of_lt (by omega)
  have m2 : y % 18446744073709551616 = y := Nat.mod_eq_of_lt (by omega)
  have m3 : lo % 18446744073709551616 = lo := Nat.mod_eq_of_lt (by omega)
  have m4 : hi * 4294967296 % 18446744073709551616 = hi * 4294967296 := Nat.mod_eq_of_lt (by omega)
  have m5 : (hi * 4294967296 ||| lo) = hi * 4294967296 + lo := or_hi hi 32 hl
  have m9 : (hi * 4294967296 + lo) % 18446744073709551616 = hi * 4294967296 + lo := Nat.mod_eq_of_lt (by omega)
  have hq : (hi * 4294967296 + lo) / y < 4294967296 := by
    rw [Nat.div_lt_iff_lt_mul (by omega)]
    have : hi * 4294967296 + 4294967296 ≤ y * 4294967296 := by omega
    omega
  have hr : (hi * 4294967296 + lo) % y < 4294967296 := Nat.lt_trans (Nat.mod_lt _ (by omega)) hy
  have m6 : (hi * 4294967296 + lo) / y % 18446744073709551616 = (hi * 4294967296 + lo) / y := Nat.mod_eq_of_lt (by omega)
  have m7 : (hi * 4294967296 + lo) / y % 4294967296 = (hi * 4294967296 + lo) / y := Nat.mod_eq_of_lt hq
  have m8 : (hi * 4294967296 + lo) % y % 4294967296 = (hi * 4294967296 + lo) % y := Nat.mod_eq_of_lt hr
  have h0 := dec_false (show ¬ y ≤ hi by omega)
  have hz : ((y : Nat) : Int) ≠ 0 := by omega
  have hz' : (((y : Nat) : Int) = 0) = False := eq_false hz
  simp only [go_sem, ↓reduceIte, dle_nat, h0, wu64, m1, m2, m3, toNat32, min32_64, mul32, m4, or_u64 (show hi * 4294967296 < 18446744073709551616 by omega) (show lo < 18446744073709551616 by omega), m5, m9, tdiv_nat, tmod_nat, hz', m6, wu32, m7, m8]
  exact .mk (by simp only [go_sem, ↓reduceIte])

theorem c_ldiv0 (hi lo y : Nat) (hh : y ≤ hi) :
    PCalls Tryz.prog 58 [.int .u32 (hi : Int), .int .u32 (lo : Int), .int .u32 (y : Int)] (.tup [.int .u32 0, .int .u32 0, .bool false]) := by
  refine pcalls_of_AW (pa := []) (fn := Tryz.f58) (ts := [6, 7, 8]) follows_mixed Tryz.func58 rfl rfl (by kernel_rfl) (by kernel_rfl) (by rw [Tryz.ntmps58]; simp) ?_
  simp only [go_sem, ↓reduceIte, dle_nat, dec_true hh]
  exact .mk (by simp only [go_sem, ↓reduceIte])

theorem blen_div {y s : Nat} (h : y / 2 ^ s ≠ 0) : blen y = blen (y / 2 ^ s) + s := by
  have := blen_shift h s (y % 2 ^ s) (Nat.mod_lt _ (Nat.pow_pos (by omega)))
  rw [Nat.mul_comm, Nat.div_add_mod] at this; exact this
theorem blen_small {y : Nat} (h : y < 2) : blen y = y := by
  have : y = 0 ∨ y = 1 := by omega
  rcases this with rfl | rfl <;> rfl
theorem sh16 (x : Nat) : (x : Int).fdiv 65536 = ((x / 65536 : Nat) : Int) := shr_nat x 16
theorem mn16 : min (16 : Nat) 32 = 16 := rfl
theorem sh8 (x : Nat) : (x : Int).fdiv 256 = ((x / 256 : Nat) : Int) := shr_nat x 8
theorem mn8 : min (8 : Nat) 32 = 8 := rfl
theorem sh4 (x : Nat) : (x : Int).fdiv 16 = ((x / 16 : Nat) : Int) := shr_nat x 4
theorem mn4 : min (4 : Nat) 32 = 4 := rfl
theorem sh2 (x : Nat) : (x : Int).fdiv 4 = ((x / 4 : Nat) : Int) := shr_nat x 2
theorem mn2 : min (2 : Nat) 32 = 2 := rfl
theorem sh1 (x : Nat) : (x : Int).fdiv 2 = ((x / 2 : Nat) : Int) := shr_nat x 1
theorem mn1 : min (1 : Nat) 32 = 1 := rfl

set_option maxHeartbeats 1000000 in
theorem c_llen (x : Nat) (hx : x < 4294967296) : PCalls Tryz.prog 82 [.int .u32 (x : Int)] (.int .i64 (blen x : Nat)) := by
  refine pcalls_of_AW (pa := []) (fn := Tryz.f82) (ts := [2]) follows_mixed Tryz.func82 rfl rfl (by kernel_rfl) (by kernel_rfl) (by rw [Tryz.ntmps82]; simp) ?_
  have hb : blen x ≤ 32 := blen_le.2 hx
  simp only [go_sem, ↓reduceIte]
  refine AW_while (fun m st => ∃ y c : Nat, (m = 16 ∧ y < 4294967296 ∨ m = 8 ∧ y < 65536 ∨ m = 4 ∧ y < 256 ∨ m = 2 ∧ y < 16 ∨ m = 1 ∧ y < 4 ∨ m = 0 ∧ y < 2) ∧ c + blen y = blen x ∧ st.τ 0 = .int .u32 (y : Int) ∧ st.τ 3 = .int .i64 (c : Int) ∧ st.τ 4 = .int .i64 (m : Int)) 16 ?_ ?_
  · exact ⟨x, 0, .inl ⟨rfl, hx⟩, by omega, by simp only [go_sem, ↓reduceIte], by simp only [go_sem, ↓reduceIte] <;> rfl, by simp only [go_sem, ↓reduceIte] <;> rfl⟩
  · rintro m st ⟨y, c, hy, hbl, h0, h3, h4⟩ next
    rcases hy with ⟨rfl, hy⟩ | ⟨rfl, hy⟩ | ⟨rfl, hy⟩ | ⟨rfl, hy⟩ | ⟨rfl, hy⟩ | ⟨rfl, hy⟩
    · have ht : (16 : Int).tdiv 2 = 8 := rfl
      have w : IntKind.i64.wrap 8 = 8 := wrap64_id (by omega) (by omega)
      by_cases hz : y / 65536 = 0
      · simp only [go_sem, ↓reduceIte, h0, h3, h4, show ((16 : Nat) : Int) = 16 from rfl, mn16, sh16, hz, show ((0 : Nat) : Int) = 0 from rfl, ht, w]
        refine next 8 _ (by omega) ⟨y, c, .inr (.inl ⟨rfl, by omega⟩), hbl, by simp only [go_sem, ↓reduceIte, h0], by simp only [go_sem, ↓reduceIte, h3], by simp only [go_sem, ↓reduceIte] <;> rfl⟩
      · have hz' : ((((y / 65536 : Nat) : Int)) != 0) = true := by simp; omega
        have hd := blen_div (y := y) (s := 16) hz
        rw [show (2 : Nat) ^ 16 = 65536 from rfl] at hd
        have w2 : IntKind.i64.wrap ((c : Int) + 16) = ((c + 16 : Nat) : Int) := by rw [wrap64_id (by omega) (by omega)]; rfl
        simp only [go_sem, ↓reduceIte, h0, h3, h4, show ((16 : Nat) : Int) = 16 from rfl, mn16, sh16, hz', ht, w, w2]
        refine next 8 _ (by omega) ⟨y / 65536, c + 16, .inr (.inl ⟨rfl, by omega⟩), by omega, by simp only [go_sem, ↓reduceIte, h0], by simp only [go_sem, ↓reduceIte, h3], by simp only [go_sem, ↓reduceIte] <;> rfl⟩
    · have ht : (8 : Int).tdiv 2 = 4 := rfl
      have w : IntKind.i64.wrap 4 = 4 := wrap64_id (by omega) (by omega)
      by_cases hz : y / 256 = 0
      · simp only [go_sem, ↓reduceIte, h0, h3, h4, show ((8 : Nat) : Int) = 8 from rfl, mn8, sh8, hz, show ((0 : Nat) : Int) = 0 from rfl, ht, w]
        refine next 4 _ (by omega) ⟨y, c, .inr (.inr (.inl ⟨rfl, by omega⟩)), hbl, by simp only [go_sem, ↓reduceIte, h0], by simp only [go_sem, ↓reduceIte, h3], by simp only [go_sem, ↓reduceIte] <;> rfl⟩
      · have hz' : ((((y / 256 : Nat) : Int)) != 0) = true := by simp; omega
        have hd := blen_div (y := y) (s := 8) hz
        rw [show (2 : Nat) ^ 8 = 256 from rfl] at hd
        have w2 : IntKind.i64.wrap ((c : Int) + 8) = ((c + 8 : Nat) : Int) := by rw [wrap64_id (by omega) (by omega)]; rfl
        simp only [go_sem, ↓reduceIte, h0, h3, h4, show ((8 : Nat) : Int) = 8 from rfl, mn8, sh8, hz', ht, w, w2]
        refine next 4 _ (by omega) ⟨y / 256, c + 8, .inr (.inr (.inl ⟨rfl, by omega⟩)), by omega, by simp only [go_sem, ↓reduceIte, h0], by simp only [go_sem, ↓reduceIte, h3], by simp only [go_sem, ↓reduceIte] <;> rfl⟩
    · have ht : (4 : Int).tdiv 2 = 2 := rfl
      have w : IntKind.i64.wrap 2 = 2 := wrap64_id (by omega) (by omega)
      by_cases hz : y / 16 = 0
      · simp only [go_sem, ↓reduceIte, h0, h3, h4, show ((4 : Nat) : Int) = 4 from rfl, mn4, sh4, hz, show ((0 : Nat) : Int) = 0 from rfl, ht, w]
        refine next 2 _ (by omega) ⟨y, c, .inr (.inr (.inr (.inl ⟨rfl, by omega⟩))), hbl, by simp only [go_sem, ↓reduceIte, h0], by simp only [go_sem, ↓reduceIte, h3], by simp only [go_sem, ↓reduceIte] <;> rfl⟩
      · have hz' : ((((y / 16 : Nat) : Int)) != 0) = true := by simp; omega
        have hd := blen_div (y := y) (s := 4) hz
        rw [show (2 : Nat) ^ 4 = 16 from rfl] at hd
        have w2 : IntKind.i64.wrap ((c : Int) + 4) = ((c + 4 : Nat) : Int) := by rw [wrap64_id (by omega) (by omega)]; rfl
        simp only [go_sem, ↓reduceIte, h0, h3, h4, show ((4 : Nat) : Int) = 4 from rfl, mn4, sh4, hz', ht, w, w2]
        refine next 2 _ (by omega) ⟨y / 16, c + 4, .inr (.inr (.inr (.inl ⟨rfl, by omega⟩))), by omega, by simp only [go_sem, ↓reduceIte, h0], by simp only [go_sem, ↓reduceIte, h3], by simp only [go_sem, ↓reduceIte] <;> rfl⟩
    · have ht : (2 : Int).tdiv 2 = 1 := rfl
      have w : IntKind.i64.wrap 1 = 1 := wrap64_id (by omega) (by omega)
      by_cases hz : y / 4 = 0
      · simp only [go_sem, ↓reduceIte, h0, h3, h4, show ((2 : Nat) : Int) = 2 from rfl, mn2, sh2, hz, show ((0 : Nat) : Int) = 0 from rfl, ht, w]
        refine next 1 _ (by omega) ⟨y, c, .inr (.inr (.inr (.inr (.inl ⟨rfl, by omega⟩)))), hbl, by simp only [go_sem, ↓reduceIte, h0], by simp only [go_sem, ↓reduceIte, h3], by simp only [go_sem, ↓reduceIte] <;> rfl⟩
      · have hz' : ((((y / 4 : Nat) : Int)) != 0) = true := by simp; omega
        have hd := blen_div (y := y) (s := 2) hz
        rw [show (2 : Nat) ^ 2 = 4 from rfl] at hd
        have w2 : IntKind.i64.wrap ((c : Int) + 2) = ((c + 2 : Nat) : Int) := by rw [wrap64_id (by omega) (by omega)]; rfl
        simp only [go_sem, ↓reduceIte, h0, h3, h4, show ((2 : Nat) : Int) = 2 from rfl, mn2, sh2, hz', ht, w, w2]
        refine next 1 _ (by omega) ⟨y / 4, c + 2, .inr (.inr (.inr (.inr (.inl ⟨rfl, by omega⟩)))), by omega, by simp only [go_sem, ↓reduceIte, h0], by simp only [go_sem, ↓reduceIte, h3], by simp only [go_sem, ↓reduceIte] <;> rfl⟩
    · have ht : (1 : Int).tdiv 2 = 0 := rfl
      have w : IntKind.i64.wrap 0 = 0 := wrap64_id (by omega) (by omega)
      by_cases hz : y / 2 = 0
      · simp only [go_sem, ↓reduceIte, h0, h3, h4, show ((1 : Nat) : Int) = 1 from rfl, mn1, sh1, hz, show ((0 : Nat) : Int) = 0 from rfl, ht, w]
        refine next 0 _ (by omega) ⟨y, c, .inr (.inr (.inr (.inr (.inr (⟨rfl, by omega⟩))))), hbl, by simp only [go_sem, ↓reduceIte, h0], by simp only [go_sem, ↓reduceIte, h3], by simp only [go_sem, ↓reduceIte] <;> rfl⟩
      · have hz' : ((((y / 2 : Nat) : Int)) != 0) = true := by simp; omega
        have hd := blen_div (y := y) (s := 1) hz
        rw [show (2 : Nat) ^ 1 = 2 from rfl] at hd
        have w2 : IntKind.i64.wrap ((c : Int) + 1) = ((c + 1 : Nat) : Int) := by rw [wrap64_id (by omega) (by omega)]; rfl
        simp only [go_sem, ↓reduceIte, h0, h3, h4, show ((1 : Nat) : Int) = 1 from rfl, mn1, sh1, hz', ht, w, w2]
        refine next 0 _ (by omega) ⟨y / 2, c + 1, .inr (.inr (.inr (.inr (.inr (⟨rfl, by omega⟩))))), by omega, by simp only [go_sem, ↓reduceIte, h0], by simp only [go_sem, ↓reduceIte, h3], by simp only [go_sem, ↓reduceIte] <;> rfl⟩
    · have w2 : IntKind.i64.wrap ((c : Int) + (y : Int)) = ((blen x : Nat) : Int) := by rw [wrap64_id (by omega) (by omega)]; rw [blen_small hy] at hbl; omega
      have w3 : IntKind.i64.wrap (y : Int) = (y : Int) := wrap64_id (by omega) (by omega)
      simp only [go_sem, ↓reduceIte, h0, h3, h4, show ((0 : Nat) : Int) = 0 from rfl, w3, w2]
      exact .mk (by simp only [go_sem, ↓reduceIte])

end Go.Proofs.YtdbmdaefmlflaaaGreatDoor

set_option linter.unusedVariables false
set_option linter.unusedSimpArgs false
set_option maxRecDepth 10000
namespace Go.Proofs.YtdbmdaefmlflaaaGreatDoor
open Go Go.Ab Go.Num

theorem trim_take_of {a : List Nat} {n : Nat} (hn : n ≤ a.length) (hz : ∀ k, n ≤ k → a.getD k 0 = 0) (h0 : 0 < n → a.getD (n - 1) 0 ≠ 0) : trim a = a.take n := by
  obtain ⟨m, h1, h2, h3, h4⟩ := trim_take a
  have : m = n := by
    rcases Nat.lt_trichotomy m n with h | h | h
    · exact absurd (h3 (n - 1) (by omega)) (h0 (by omega))
    · exact h
    · exact absurd (hz (m - 1) (by omega)) (h4 (by omega))
  rw [h2, this]

set_option maxHeartbeats 1000000 in
theorem c_trim (a : List Nat) (hl : a.length < 1000000) : PCalls Tryz.prog 31 [encW a] (encW (trim a)) := by
  refine pcalls_of_AW (pa := []) (fn := Tryz.f31) (ts := [2]) follows_mixed Tryz.func31 rfl rfl (by kernel_rfl) (by kernel_rfl) (by rw [Tryz.ntmps31]; simp) ?_
  simp only [go_sem, ↓reduceIte, encW]
  refine AW_while (fun m st => m ≤ a.length ∧ (∀ k, m ≤ k → a.getD k 0 = 0) ∧ st.τ 0 = encW a ∧ st.τ 3 = .int .i64 m) a.length ?_ ?_
  · exact ⟨by omega, fun k hk => by simp [List.getD, List.getElem?_eq_none hk], by simp only [go_sem, ↓reduceIte, encW], by simp only [go_sem, ↓reduceIte]⟩
  · rintro m st ⟨hm, hz, h0, h3⟩ next
    by_cases hp : 0 < m
    · have hp' : ((0 : Int) < (m : Int)) := by omega
      have w1 : IntKind.i64.wrap ((m : Int) - 1) = ((m - 1 : Nat) : Int) := by rw [wrap64_id (by omega) (by omega)]; omega
      have hlt : ((m - 1 : Nat) : Int) < (a.length : Nat) := by omega
      have hg := getD_w (a := a) (i := m - 1) (by omega) .undef
      by_cases hw : a.getD (m - 1) 0 = 0
      · rw [hw] at hg
        simp only [go_sem, ↓reduceIte, h0, h3, hp', encW, w1, hlt, hg, cast0]
        refine next (m - 1) _ (by omega) ⟨by omega, fun k hk => ?_, by simp only [go_sem, ↓reduceIte, h0, encW], by simp only [go_sem, ↓reduceIte, w1]⟩
        by_cases hkm : k = m - 1
        · rw [hkm]; exact hw
        · exact hz k (by omega)
      · have hne := beq_false_of (show ((a.getD (m - 1) 0 : Nat) : Int) ≠ 0 by omega)
        have hle : ((m : Nat) : Int) ≤ (a.length : Nat) := by omega
        simp only [go_sem, ↓reduceIte, h0, h3, hp', encW, w1, hlt, hg, hne, hle]
        exact .mk (by simp only [go_sem, ↓reduceIte, trim_take_of hm hz (fun _ => hw), List.map_take])
    · have hm0 : m = 0 := by omega
      subst hm0
      simp only [go_sem, ↓reduceIte, h0, h3, cast0, encW, Int.natCast_nonneg]
      exact .mk (by simp only [go_sem, ↓reduceIte, trim_take_of hm hz (fun h => absurd h hp), List.map_take])

set_option maxHeartbeats 1000000 in
theorem c_ncmp (a b : List Nat) (ha : Wd a) (hb : Wd b) (hla : a.length < 1000000) (hlb : b.length < 1000000) : PCalls Tryz.prog 33 [encW a, encW b] (.int .i64 (cmpN (val a) (val b))) := by
  rw [← val_trim a, ← val_trim b]
  refine pcalls_of_AW (pa := []) (fn := Tryz.f33) (ts := [4]) follows_mixed Tryz.func33 rfl rfl (by kernel_rfl) (by kernel_rfl) (by rw [Tryz.ntmps33]; simp) ?_
  simp only [go_sem, ↓reduceIte]
  refine callS_p (c_trim a hla) ?_
  simp only [go_sem, ↓reduceIte]
  refine callS_p (c_trim b hlb) ?_
  have hxa : (trim a).length < 1000000 := by obtain ⟨n, h1, h2, _⟩ := trim_take a; rw [h2]; simp; omega
  have hxb : (trim b).length < 1000000 := by obtain ⟨n, h1, h2, _⟩ := trim_take b; rw [h2]; simp; omega
  have na := nrm_trim ha
  have nb := nrm_trim hb
  generalize trim a = x at *
  generalize trim b = y at *
  rcases Nat.lt_trichotomy x.length y.length with hl | hl | hl
  · have h1 := dec_true (show ((x.length : Nat) : Int) < (y.length : Nat) by omega)
    simp only [go_sem, ↓reduceIte, encW, h1]
    exact .mk (by simp only [go_sem, ↓reduceIte, cmpN_lt (nrm_lt na nb hl)])
  · have h1 := dec_false (show ¬ ((x.length : Nat) : Int) < (y.length : Nat) by omega)
    have h2 := dec_false (show ¬ ((y.length : Nat) : Int) < (x.length : Nat) by omega)
    have w1 : IntKind.i64.wrap ((x.length : Int) - 1) = (x.length : Int) - 1 := wrap64_id (by omega) (by omega)
    simp only [go_sem, ↓reduceIte, encW, h1, h2, w1]
    refine AW_while (fun m st => m ≤ x.length ∧ (∀ k, m ≤ k → x.getD k 0 = y.getD k 0) ∧ st.τ 0 = encW x ∧ st.τ 1 = encW y ∧ st.τ 5 = .int .i64 ((m : Int) - 1)) x.length ?_ ?_
    · refine ⟨by omega, fun k hk => ?_, by simp only [go_sem, ↓reduceIte, encW], by simp only [go_sem, ↓reduceIte, encW], by simp only [go_sem, ↓reduceIte]⟩
      simp [List.getD, List.getElem?_eq_none hk, List.getElem?_eq_none (show y.length ≤ k by omega)]
    · rintro m st ⟨hm, hz, h0, h1, h5⟩ next
      by_cases hp : 0 < m
      · have hp' : ((0 : Int) ≤ (m : Int) - 1) := by omega
        have e1 : ((m : Int) - 1) = ((m - 1 : Nat) : Int) := by omega
        have hltx : ((m - 1 : Nat) : Int) < (x.length : Nat) := by omega
        have hlty : ((m - 1 : Nat) : Int) < (y.length : Nat) := by omega
        have hgx := getD_w (a := x) (i := m - 1) (by omega) .undef
        have hgy := getD_w (a := y) (i := m - 1) (by omega) .undef
        have tail : ∀ k, m - 1 < k → x.getD k 0 = y.getD k 0 := fun k hk => hz k (by omega)
        rw [e1] at h5
        rcases Nat.lt_trichotomy (x.getD (m - 1) 0) (y.getD (m - 1) 0) with hc | hc | hc
        · have g1 := dec_true (show ((x.getD (m - 1) 0 : Nat) : Int) < (y.getD (m - 1) 0 : Nat) by omega)
          have hlt := val_lt_of na.1 (m - 1) hc x.length (by omega) fun k hk _ => tail k hk
          rw [List.take_length, List.take_of_length_le (by omega)] at hlt
          simp only [go_sem, ↓reduceIte, h0, h1, h5, encW, hltx, hlty, hgx, hgy, g1]
          exact .mk (by simp only [go_sem, ↓reduceIte, cmpN_lt hlt])
        · have g1 := dec_false (show ¬ ((x.getD (m - 1) 0 : Nat) : Int) < (y.getD (m - 1) 0 : Nat) by omega)
          have g2 := dec_false (show ¬ ((y.getD (m - 1) 0 : Nat) : Int) < (x.getD (m - 1) 0 : Nat) by omega)
          simp only [go_sem, ↓reduceIte, h0, h1, h5, encW, hltx, hlty, hgx, hgy, g1, g2]
          refine next (m - 1) _ (by omega) ⟨by omega, fun k hk => ?_, by simp only [go_sem, ↓reduceIte, h0, encW], by simp only [go_sem, ↓reduceIte, h1, encW], by simp only [go_sem, ↓reduceIte]; rw [wrap64_id (by omega) (by omega)]⟩
          by_cases hk2 : k = m - 1
          · rw [hk2]; exact hc
          · exact tail k (by omega)
        · have g1 := dec_false (show ¬ ((x.getD (m - 1) 0 : Nat) : Int) < (y.getD (m - 1) 0 : Nat) by omega)
          have g2 := dec_true (show ((y.getD (m - 1) 0 : Nat) : Int) < (x.getD (m - 1) 0 : Nat) by omega)
          have hlt := val_lt_of nb.1 (m - 1) hc x.length (by omega) fun k hk _ => (tail k hk).symm
          rw [List.take_length, List.take_of_length_le (by omega)] at hlt
          simp only [go_sem, ↓reduceIte, h0, h1, h5, encW, hltx, hlty, hgx, hgy, g1, g2]
          exact .mk (by simp only [go_sem, ↓reduceIte, cmpN_gt hlt])
      · have hm0 : m = 0 := by omega
        subst hm0
        have g0 := dec_false (show ¬ (0 : Int) ≤ ((0 : Nat) : Int) - 1 by omega)
        have hv := val_eq_of (a := x) (b := y) x.length fun k _ => hz k (by omega)
        rw [List.take_length, List.take_of_length_le (by omega)] at hv
        simp only [go_sem, ↓reduceIte, h0, h1, h5, g0]
        exact .mk (by simp only [go_sem, ↓reduceIte, cmpN_eq hv])
  · have h1 := dec_false (show ¬ ((x.length : Nat) : Int) < (y.length : Nat) by omega)
    have h2 := dec_true (show ((y.length : Nat) : Int) < (x.length : Nat) by omega)
    simp only [go_sem, ↓reduceIte, encW, h1, h2]
    exact .mk (by simp only [go_sem, ↓reduceIte, cmpN_gt (nrm_lt nb na hl)])

end Go.Proofs.YtdbmdaefmlflaaaGreatDoor

set_option linter.unusedVariables false
set_option linter.unusedSimpArgs false
set_option maxRecDepth 10000
namespace Go.Proofs.YtdbmdaefmlflaaaGreatDoor
open Go Go.Ab Go.Num

/-- What a call gives that makes a list of words of its own. -/
def NewW (h : Heap) (n : Nat) (a : List Nat) (v : AV) (h' : Heap) (n' : Nat) : Prop :=
  ∃ b, v = .own b 0 a.length 1 ∧ n ≤ b ∧ b < n' ∧ h' b = some (wv a) ∧ ∀ j, j < n → h' j = h j

theorem c_fresh (a : List Nat) (more : Nat) (h : Heap) (n : Nat) (hl : a.length + more < 1000000) : HCalls Tryz.prog 76 [encW a, .int .i64 (more : Int)] h n (NewW h n (a ++ List.replicate more 0)) := by
  refine hcalls_of_AWR (pa := []) (fn := Tryz.f76) (rs := [.tmp 4]) follows_mixed Tryz.func76 rfl rfl (by kernel_rfl) (by kernel_rfl) (by rw [Tryz.ntmps76]; simp) ?_
  have w1 : IntKind.i64.wrap ((a.length : Int) + (more : Int)) = ((a.length + more : Nat) : Int) := by rw [wrap64_id (by omega) (by omega)]; rfl
  have hle : ((a.length + more : Nat) : Int) ≤ 1099511627776 := by omega
  have hmin : min a.length (a.length + more) = a.length := by omega
  have hrep : (List.replicate (a.length + more) 0).drop a.length = List.replicate more (0 : Nat) := by rw [List.drop_replicate]; congr 1; omega
  simp only [go_sem, ↓reduceIte, encW, w1, hle, wv_rep, wv_cells, wv_length, wv_take, wv_drop, hmin, List.take_length, List.length_replicate, hrep]
  exact .mk (.own (n + 5) 0 (a.length + more) 1) (by simp only [go_sem, ↓reduceIte]) ⟨n + 5, by rw [List.length_append, List.length_replicate], by omega, by simp only [go_sem, ↓reduceIte] <;> omega, by simp only [go_sem, ↓reduceIte, wv_append] <;> rfl, fun j hj => by simp only [go_sem, ↓reduceIte, upd1_old _ _ _ _ _ hj]⟩

theorem encW_dig {a : List Nat} (h : Wd a) : encW (trim a) = encW (dig (val a)) := by rw [trim_dig h]

theorem NewW.ex {h h' : Heap} {n n' : Nat} {a : List Nat} {v : AV} (H : NewW h n a v h' n') : ∃ b, v = .own b 0 a.length 1 ∧ n ≤ b ∧ b < n' ∧ h' b = some (wv a) ∧ ∀ j, j < n → h' j = h j := H
theorem NewW.frz {h h' : Heap} {n n' : Nat} {a : List Nat} {v : AV} (H : NewW h n a v h' n') : (frz h' v).le (encW a) := by
  obtain ⟨b, rfl, _, _, hb, _⟩ := H
  exact AV.le_of_eq (by rw [frz_own]; exact frz1_wv0 hb rfl)

theorem c_norm_h (a : List Nat) (h : Heap) (n : Nat) (ha : Wd a) (hl : a.length < 1000000) : HCalls Tryz.prog 59 [encW a] h n (NewW h n (dig (val a))) := by
  have hlt := dig_len_val ha
  refine hcalls_of_AWR (pa := []) (fn := Tryz.f59) (rs := [.tmp 2]) follows_mixed Tryz.func59 rfl rfl (by kernel_rfl) (by kernel_rfl) (by rw [Tryz.ntmps59]; simp) ?_
  simp only [go_sem, ↓reduceIte]
  refine callS_p (c_trim a hl) ?_
  rw [encW_dig ha]
  simp only [go_sem, ↓reduceIte, encW]
  refine callS_h (c_fresh (dig (val a)) 0 _ _ (by omega)) ?_
  rintro v h' n' hn ⟨b, rfl, hb1, hb2, hb, hkeep⟩
  rw [List.replicate_zero, List.append_nil] at hb ⊢
  simp only at hn hb1 hkeep
  simp only [go_sem, ↓reduceIte]
  exact .mk (.own b 0 (dig (val a)).length 1) (by simp only [go_sem, ↓reduceIte]) ⟨b, rfl, by omega, by simp only [go_sem, ↓reduceIte] <;> omega, by simp only [go_sem, ↓reduceIte, hb], fun j hj => by simp only [go_sem, ↓reduceIte]; rw [hkeep j (by omega)]⟩
theorem c_norm (a : List Nat) (ha : Wd a) (hl : a.length < 1000000) : PCalls Tryz.prog 59 [encW a] (encW (dig (val a))) := .of_h (c_norm_h a _ _ ha hl) fun _ _ _ => NewW.frz

/-- Likewise, of a list of the caller's, which is no more read. -/
theorem c_norm_own (a : List Nat) (b : Nat) (h : Heap) (n : Nat) (ha : Wd a) (hl : a.length < 1000000) (hb : h b = some (wv a)) (hbn : b < n) : HCalls Tryz.prog 59 [.own b 0 a.length 1] h n (fun v h' n' => ∃ b', v = .own b' 0 (dig (val a)).length 1 ∧ n ≤ b' ∧ b' < n' ∧ h' b' = some (wv (dig (val a))) ∧ ∀ j, j < n → j ≠ b → h' j = h j) := by
  have hlt := dig_len_val ha
  refine hcalls_of_AWR (pa := []) (fn := Tryz.f59) (rs := [.tmp 2]) follows_mixed Tryz.func59 rfl rfl (by kernel_rfl) (by kernel_rfl) (by rw [Tryz.ntmps59]; simp) ?_
  simp only [go_sem, ↓reduceIte]
  refine callS_q (c_trim a hl) (args_words hb rfl) rfl ?_
  rw [encW_dig ha]
  simp only [go_sem, ↓reduceIte, encW]
  refine callS_h (c_fresh (dig (val a)) 0 _ _ (by omega)) ?_
  rintro v h' n' hn ⟨b1, rfl, hb1, hb2, hb', hkeep⟩
  rw [List.replicate_zero, List.append_nil] at hb' ⊢
  simp only at hn hb1 hkeep
  simp only [go_sem, ↓reduceIte]
  exact .mk (.own b1 0 (dig (val a)).length 1) (by simp only [go_sem, ↓reduceIte]) ⟨b1, rfl, by omega, by simp only [go_sem, ↓reduceIte] <;> omega, by simp only [go_sem, ↓reduceIte, hb'], fun j hj hjb => by simp only [go_sem, ↓reduceIte]; rw [hkeep j (by omega)]; simp only [go_sem, ↓reduceIte, hjb]⟩

theorem c_of (x : Nat) (hx : x < 18446744073709551616) : PCalls Tryz.prog 22 [.int .u64 (x : Int)] (encW (dig x)) := by
  refine pcalls_of_AW (pa := []) (fn := Tryz.f22) (ts := [2]) follows_mixed Tryz.func22 rfl rfl (by kernel_rfl) (by kernel_rfl) (by rw [Tryz.ntmps22]; simp) ?_
  have hw : Wd [x % 4294967296, x / 4294967296] := .cons (Nat.mod_lt _ (by omega)) (.cons (by show _ < 4294967296; omega) .nil)
  have hv : val [x % 4294967296, x / 4294967296] = x := by simp only [val_cons, val_nil, B_eq]; omega
  have hm : x / 4294967296 % 4294967296 = x / 4294967296 := Nat.mod_eq_of_lt (by omega)
  simp only [go_sem, ↓reduceIte, wu32, toNat32, min32_64, shr32, hm]
  refine callS_p (c_trim [x % 4294967296, x / 4294967296] (by simp)) ?_
  rw [encW_dig hw, hv]
  simp only [go_sem, ↓reduceIte]
  exact .mk (by simp only [go_sem, ↓reduceIte, encW])

theorem c_zero (a : List Nat) (ha : Wd a) (hl : a.length < 1000000) : PCalls Tryz.prog 45 [encW a] (.bool (decide (val a = 0))) := by
  refine pcalls_of_AW (pa := []) (fn := Tryz.f45) (ts := [2]) follows_mixed Tryz.func45 rfl rfl (by kernel_rfl) (by kernel_rfl) (by rw [Tryz.ntmps45]; simp) ?_
  simp only [go_sem, ↓reduceIte]
  refine callS_p (c_trim a hl) ?_
  rw [encW_dig ha]
  have hd : (((dig (val a)).length : Nat) : Int) = 0 ↔ val a = 0 := by rw [← dig_len0 (n := val a)]; omega
  simp only [go_sem, ↓reduceIte, encW, beq_int, hd]
  exact .mk (by simp only [go_sem, ↓reduceIte])

theorem getD_le {a : List Nat} {i : Nat} (h : a.length ≤ i) : a.getD i 0 = 0 := getD_of_ge h

set_option maxHeartbeats 1000000 in
theorem c_plus (a b : List Nat) (ha : Wd a) (hb : Wd b) (hla : a.length < 100000) (hlb : b.length < 100000) : PCalls Tryz.prog 94 [encW a, encW b] (encW (dig (val a + val b))) := by
  refine pcalls_of_AW (pa := []) (fn := Tryz.f94) (ts := [4]) follows_mixed Tryz.func94 rfl rfl (by kernel_rfl) (by kernel_rfl) (by rw [Tryz.ntmps94]; simp) ?_
  simp only [go_sem, ↓reduceIte, encW]
  refine AW_cut (fun st => ∃ x y, y.length ≤ x.length ∧ x.length < 100000 ∧ Wd x ∧ Wd y ∧ val x + val y = val a + val b ∧ st.τ 0 = encW x ∧ st.τ 1 = encW y) rfl ?_ ?_
  · refine AW_ite rfl (fun hc => ?_) (fun hc => ?_)
    · simp only [decide_eq_true_eq] at hc
      simp only [go_sem, ↓reduceIte]
      exact ⟨b, a, by omega, hlb, hb, ha, by omega, by simp only [go_sem, ↓reduceIte, encW], by simp only [go_sem, ↓reduceIte, encW]⟩
    · simp only [decide_eq_false_iff_not] at hc
      simp only [go_sem, ↓reduceIte]
      exact ⟨a, b, by omega, hla, ha, hb, rfl, by simp only [go_sem, ↓reduceIte, encW], by simp only [go_sem, ↓reduceIte, encW]⟩
  · rintro st ⟨x, y, hxy, hlx, hx, hy, hval, h0, h1⟩
    rw [← hval]
    clear hval ha hb hla hlb
    clear a b
    simp only [go_sem, ↓reduceIte, h0, h1, encW]
    refine callS_h (c_fresh x 1 _ _ (by omega)) ?_
    rintro v h' n' hn ⟨b, rfl, hb1, hb2, hb, hkeep⟩
    have hlen : (x ++ List.replicate 1 0).length = x.length + 1 := by simp
    rw [hlen]
    simp only [go_sem, ↓reduceIte, h0, h1, encW]
    refine AW_while (fun m st => ∃ i o c, i + m = x.length ∧ st.τ 0 = encW x ∧ st.τ 1 = encW y ∧ st.τ 5 = .own b 0 (x.length + 1) 1 ∧ st.τ 6 = .int .u32 (c : Nat) ∧ st.τ 18 = encW x ∧ st.τ 19 = .int .i64 x.length ∧ st.τ 20 = .int .i64 (i : Nat) ∧
      st.h b = some (wv o) ∧ b < st.n ∧ o.length = x.length + 1 ∧ Wd o ∧ c ≤ 1 ∧ val (o.take i) + B ^ i * c = val (x.take i) + val (y.take i)) x.length ?_ ?_
    · exact ⟨0, x ++ List.replicate 1 0, 0, by omega, by simp only [go_sem, ↓reduceIte, h0, encW], by simp only [go_sem, ↓reduceIte, h1, encW], by simp only [go_sem, ↓reduceIte], by simp only [go_sem, ↓reduceIte] <;> rfl, by simp only [go_sem, ↓reduceIte, encW], by simp only [go_sem, ↓reduceIte], by simp only [go_sem, ↓reduceIte] <;> rfl, by simp only [go_sem, ↓reduceIte, hb], by simp only [go_sem, ↓reduceIte] <;> omega, hlen, hx.append (.replicate 1 (by decide)), by omega, by simp [val]⟩
    · clear h0 h1 hb hkeep hlen hn hb1 hb2
      clear st
      rintro m st ⟨i, o, c, hi, h0, h1, h5, h6, h18, h19, h20, hb, hbn, hlo, ho, hc, hv⟩ next
      by_cases hlt : i < x.length
      · have hlt' : ((i : Nat) : Int) < (x.length : Nat) := by omega
        have hxi := hx.getD i
        have hyi := hy.getD i
        rw [B_eq] at hxi hyi
        have hgx := getD_w (a := x) (i := i) hlt .undef
        have hio : ((i : Nat) : Int) < ((x.length + 1 : Nat) : Int) := by omega
        have hil : i < o.length := by omega
        have hil' : i + 1 ≤ o.length := hil
        have hile : i ≤ o.length := by omega
        by_cases hiy : i < y.length
        case' pos =>
          have hadd := c_ladd _ _ _ hxi hyi (show c < 4294967296 by omega)
          have hiy' : ((i : Nat) : Int) < (y.length : Nat) := by omega
          have hgy := getD_w (a := y) (i := i) hiy .undef
          simp only [go_sem, ↓reduceIte, h0, h1, h5, h6, h18, h19, h20, hb, hlt', hiy', hgx, hgy, encW]
        case' neg =>
          have hiy' := dec_false (show ¬ ((i : Nat) : Int) < (y.length : Nat) by omega)
          have hgy : (0 : Int) = ((y.getD i 0 : Nat) : Int) := by rw [getD_le (by omega)]; rfl
          simp only [go_sem, ↓reduceIte, h0, h1, h5, h6, h18, h19, h20, hb, hlt', hiy', hgx, encW]
          have hadd := c_ladd _ _ _ hxi hyi (show c < 4294967296 by omega)
          rw [← hgy] at hadd
        all_goals
          refine callS_p hadd ?_
          simp only [go_sem, ↓reduceIte, h0, h1, h5, h6, h18, h19, h20, hb, hio, hile, hil', wv_length, wv_lay hil]
          refine next (m - 1) _ (by omega) ⟨i + 1, o.set i ((x.getD i 0 + (y.getD i 0 + c)) % 4294967296), (x.getD i 0 + (y.getD i 0 + c)) / 4294967296, by omega, by simp only [go_sem, ↓reduceIte, h0], by simp only [go_sem, ↓reduceIte, h1], by simp only [go_sem, ↓reduceIte, h5], by simp only [go_sem, ↓reduceIte], by simp only [go_sem, ↓reduceIte, h18], by simp only [go_sem, ↓reduceIte, h19], by simp only [go_sem, ↓reduceIte]; rw [wrap64_id (by omega) (by omega)]; rfl, by simp only [go_sem, ↓reduceIte], by simp only [go_sem, ↓reduceIte] <;> omega, by simp [hlo], ho.set i (by show _ < 4294967296; omega), by omega, ?_⟩
          rw [val_take_set hil, val_take_succ, val_take_succ, Nat.pow_succ]
          have hm := Nat.mod_add_div (x.getD i 0 + (y.getD i 0 + c)) 4294967296
          have hm2 := congrArg (B ^ i * ·) hm
          simp only [Nat.mul_add, B_eq] at hm2 hv ⊢
          rw [Nat.mul_assoc]
          omega
      · have hlt' := dec_false (show ¬ ((i : Nat) : Int) < (x.length : Nat) by omega)
        have hie : i = x.length := by omega
        subst hie
        have hlx : ((x.length : Nat) : Int) < ((x.length + 1 : Nat) : Int) := by omega
        have hil : x.length < o.length := by omega
        have hil' : x.length + 1 ≤ o.length := hil
        have hile : x.length ≤ o.length := by omega
        simp only [go_sem, ↓reduceIte, h0, h1, h5, h6, h18, h19, h20, hb, hlt', encW, hlx, hil', hile, wv_length, wv_lay hil]
        have hlo2 : (o.set x.length c).length = x.length + 1 := by simp [hlo]
        have hw2 : Wd (o.set x.length c) := ho.set _ (by show c < 4294967296; omega)
        refine callS_q (c_trim (o.set x.length c) (by omega)) (args_words (by simp only [go_sem, ↓reduceIte]) (by omega)) rfl ?_
        rw [encW_dig hw2]
        have hvv : val (o.set x.length c) = val x + val y := by
          have := val_take_set (v := c) hil
          rw [List.take_of_length_le (by omega)] at this
          rw [this, hv, List.take_of_length_le (by omega), List.take_of_length_le (by omega)]
        rw [hvv]
        simp only [go_sem, ↓reduceIte]
        exact .mk (by simp only [go_sem, ↓reduceIte, encW])

end Go.Proofs.YtdbmdaefmlflaaaGreatDoor

set_option linter.unusedVariables false
set_option linter.unusedSimpArgs false
set_option maxRecDepth 10000
namespace Go.Proofs.YtdbmdaefmlflaaaGreatDoor
open Go Go.Ab Go.Num

def sumV (l : List (List Nat)) : Nat := l.foldl (fun s a => s + val a) 0
theorem sumV_snoc (l : List (List Nat)) (a : List Nat) : sumV (l ++ [a]) = sumV l + val a := by simp [sumV]

theorem elt_w : Elt 1 encW := ⟨by omega, fun c => ⟨[encW c], rfl, rfl, rfl, rfl⟩⟩

set_option maxHeartbeats 1000000 in
theorem c_nadd (l : List (List Nat)) (hw : ∀ a ∈ l, Wd a ∧ a.length < 90000) (hl : l.length < 1000) : PCalls Tryz.prog 86 [.sl 1 (l.map encW)] (encW (dig (sumV l))) := by
  refine pcalls_of_AW (pa := []) (fn := Tryz.f86) (ts := [2]) follows_mixed Tryz.func86 rfl rfl (by kernel_rfl) (by kernel_rfl) (by rw [Tryz.ntmps86]; simp) ?_
  simp only [go_sem, ↓reduceIte]
  have hlen : ∀ i, i ≤ l.length → (dig (sumV (l.take i))).length ≤ 90000 + i := by
    intro i
    induction i with
    | zero => intro _; simp [sumV, dig_zero]
    | succ i ih =>
      intro hi
      have h1 := ih (by omega)
      rw [take_snoc (by omega), sumV_snoc]
      have h2 := hw l[i] (List.getElem_mem _)
      have h3 := dig_len_val h2.1
      have := dig_add_len (sumV (l.take i)) (val l[i])
      omega
  refine AW_while (fun m st => ∃ i u, i + m = l.length ∧ st.τ 6 = .sl 1 (l.map encW) ∧ st.τ 7 = .int .i64 l.length ∧ st.τ 8 = .int .i64 (i : Nat) ∧ st.τ 3 = u ∧ u.le (encW (dig (sumV (l.take i)))) ∧ (u = .nilsl ∨ ∃ w, u = encW w)) l.length ?_ ?_
  · exact ⟨0, .nilsl, by omega, by simp only [go_sem, ↓reduceIte], by simp only [go_sem, ↓reduceIte], by simp only [go_sem, ↓reduceIte] <;> rfl, by simp only [go_sem, ↓reduceIte], by rw [List.take_zero, show sumV [] = 0 from rfl, dig_zero]; exact AV.le_nil 1, .inl rfl⟩
  · rintro m st ⟨i, u, hi, h6, h7, h8, h3, hu, hu2⟩ next
    by_cases hlt : i < l.length
    · have hlt' : ((i : Nat) : Int) < (l.length : Nat) := by omega
      obtain ⟨hwi, hli⟩ := hw l[i] (List.getElem_mem _)
      have hp := c_plus (dig (sumV (l.take i))) (dig (val l[i])) (wd_dig _) (wd_dig _) (by have := hlen i (by omega); omega) (by have := dig_len_val hwi; omega)
      rw [val_dig, val_dig, ← sumV_snoc, ← take_snoc hlt] at hp
      simp only [go_sem, ↓reduceIte, h6, h7, h8, h3, hlt', getD_map_lt _ _ _ _ hlt, encW]
      refine callS_p (c_trim l[i] (by omega)) ?_
      rw [encW_dig hwi]
      rcases hu2 with rfl | ⟨w, rfl⟩
      case' inl => simp only [go_sem, ↓reduceIte, h6, h7, h8, h3, encW]
      case' inr => simp only [go_sem, ↓reduceIte, h6, h7, h8, h3, encW]
      all_goals
        refine callS_p (hp.args_le (.cons hu (.cons (AV.le_refl _) .nil))) ?_
        simp only [go_sem, ↓reduceIte, h6, h7, h8, h3, encW]
        exact next (m - 1) _ (by omega) ⟨i + 1, _, by omega, by simp only [go_sem, ↓reduceIte, h6], by simp only [go_sem, ↓reduceIte, h7], by simp only [go_sem, ↓reduceIte]; rw [wrap64_id (by omega) (by omega)]; rfl, by simp only [go_sem, ↓reduceIte] <;> rfl, AV.le_refl _, .inr ⟨_, rfl⟩⟩
    · have hlt' := dec_false (show ¬ ((i : Nat) : Int) < (l.length : Nat) by omega)
      rw [List.take_of_length_le (by omega)] at hu
      simp only [go_sem, ↓reduceIte, h6, h7, h8, h3, hlt']
      rcases hu2 with rfl | ⟨w, rfl⟩
      · exact .mk_le (u := .nilsl) (by simp only [go_sem, ↓reduceIte, h3]) hu
      · exact .mk_le (u := encW w) (by simp only [go_sem, ↓reduceIte, h3, encW]) hu

set_option maxHeartbeats 1000000 in
theorem c_nsub (a b : List Nat) (ha : Wd a) (hb : Wd b) (hla : a.length < 100000) (hlb : b.length < 100000) (hle : val b ≤ val a) : PCalls Tryz.prog 95 [encW a, encW b] (.tup [encW (dig (val a - val b)), .bool true]) := by
  refine pcalls_of_AW (pa := []) (fn := Tryz.f95) (ts := [4, 5]) follows_mixed Tryz.func95 rfl rfl (by kernel_rfl) (by kernel_rfl) (by rw [Tryz.ntmps95]; simp) ?_
  simp only [go_sem, ↓reduceIte]
  refine callS_p (c_trim a (by omega)) ?_
  simp only [go_sem, ↓reduceIte]
  refine callS_p (c_trim b (by omega)) ?_
  rw [encW_dig ha, encW_dig hb]
  simp only [go_sem, ↓reduceIte, encW]
  have hx := wd_dig (val a)
  have hy := wd_dig (val b)
  have hlx := dig_len_val ha
  have hly := dig_len_val hb
  have hxy := dig_len_mono hle
  have ex : val (dig (val b)) ≤ val (dig (val a)) := by rw [val_dig, val_dig]; exact hle
  rw [show val a - val b = val (dig (val a)) - val (dig (val b)) by rw [val_dig, val_dig]]
  clear hle
  generalize hX : dig (val a) = x at *
  generalize hY : dig (val b) = y at *
  clear hX hY
  have hle := ex
  refine callS_p (c_ncmp x y hx hy (by omega) (by omega)) ?_
  have hcmp := dec_false (show ¬ cmpN (val x) (val y) < 0 by unfold cmpN; rw [if_neg (by omega)]; split <;> omega)
  simp only [go_sem, ↓reduceIte, hcmp, encW]
  have hf := c_fresh x 0
  simp only [List.replicate_zero, List.append_nil] at hf
  refine callS_h (hf _ _ (by omega)) ?_
  rintro v h' n' hn ⟨b, rfl, hb1, hb2, hb, hkeep⟩
  simp only [go_sem, ↓reduceIte, encW]
  refine AW_while (fun m st => ∃ i o c, i + m = x.length ∧ st.τ 0 = encW x ∧ st.τ 1 = encW y ∧ st.τ 6 = .own b 0 x.length 1 ∧ st.τ 7 = .int .u32 (c : Nat) ∧ st.τ 20 = encW x ∧ st.τ 21 = .int .i64 x.length ∧ st.τ 22 = .int .i64 (i : Nat) ∧
    st.h b = some (wv o) ∧ b < st.n ∧ o.length = x.length ∧ Wd o ∧ c ≤ 1 ∧ val (o.take i) + val (y.take i) = val (x.take i) + B ^ i * c) x.length ?_ ?_
  · exact ⟨0, x, 0, by omega, by simp only [go_sem, ↓reduceIte, encW], by simp only [go_sem, ↓reduceIte, encW], by simp only [go_sem, ↓reduceIte], by simp only [go_sem, ↓reduceIte] <;> rfl, by simp only [go_sem, ↓reduceIte, encW], by simp only [go_sem, ↓reduceIte], by simp only [go_sem, ↓reduceIte] <;> rfl, by simp only [go_sem, ↓reduceIte, hb], by simp only [go_sem, ↓reduceIte] <;> omega, rfl, hx, by omega, by simp [val]⟩
  · clear hb hkeep hn hb1 hb2 hf
    rintro m st ⟨i, o, c, hi, h0, h1, h5, h6, h18, h19, h20, hb, hbn, hlo, ho, hc, hv⟩ next
    by_cases hlt : i < x.length
    · have hlt' : ((i : Nat) : Int) < (x.length : Nat) := by omega
      have hxi := hx.getD i
      have hyi := hy.getD i
      rw [B_eq] at hxi hyi
      have hgx := getD_w (a := x) (i := i) hlt .undef
      have hil : i < o.length := by omega
      have hil' : i + 1 ≤ o.length := hil
      have hile : i ≤ o.length := by omega
      by_cases hiy : i < y.length
      case' pos =>
        have hadd := c_lsub _ _ _ hxi hyi (show c < 4294967296 by omega)
        have hiy' : ((i : Nat) : Int) < (y.length : Nat) := by omega
        have hgy := getD_w (a := y) (i := i) hiy .undef
        simp only [go_sem, ↓reduceIte, h0, h1, h5, h6, h18, h19, h20, hb, hlt', hiy', hgx, hgy, encW]
      case' neg =>
        have hiy' := dec_false (show ¬ ((i : Nat) : Int) < (y.length : Nat) by omega)
        have hgy : (0 : Int) = ((y.getD i 0 : Nat) : Int) := by rw [getD_le (by omega)]; rfl
        simp only [go_sem, ↓reduceIte, h0, h1, h5, h6, h18, h19, h20, hb, hlt', hiy', hgx, encW]
        have hadd := c_lsub _ _ _ hxi hyi (show c < 4294967296 by omega)
        rw [← hgy] at hadd
      all_goals
        refine callS_p hadd ?_
        simp only [go_sem, ↓reduceIte, h0, h1, h5, h6, h18, h19, h20, hb, hlt', hile, hil', wv_length, wv_lay hil]
        obtain ⟨hm, hsw⟩ := subW_eq hxi hyi (show c < 4294967296 by omega)
        refine next (m - 1) _ (by omega) ⟨i + 1, o.set i (subW (x.getD i 0) (y.getD i 0) c), subO (x.getD i 0) (y.getD i 0) c, by omega, by simp only [go_sem, ↓reduceIte, h0], by simp only [go_sem, ↓reduceIte, h1], by simp only [go_sem, ↓reduceIte, h5], by simp only [go_sem, ↓reduceIte], by simp only [go_sem, ↓reduceIte, h18], by simp only [go_sem, ↓reduceIte, h19], by simp only [go_sem, ↓reduceIte]; rw [wrap64_id (by omega) (by omega)]; rfl, by simp only [go_sem, ↓reduceIte], by simp only [go_sem, ↓reduceIte] <;> omega, by simp [hlo], ho.set i hsw, subO_le1 hxi hyi hc, ?_⟩
        rw [val_take_set hil, val_take_succ, val_take_succ, Nat.pow_succ]
        have hm2 := congrArg (B ^ i * ·) hm
        simp only [Nat.mul_add, B_eq] at hm2 hv ⊢
        rw [Nat.mul_assoc]
        omega
    · have hlt' := dec_false (show ¬ ((i : Nat) : Int) < (x.length : Nat) by omega)
      have hie : i = x.length := by omega
      subst hie
      simp only [go_sem, ↓reduceIte, h0, h1, h5, h6, h18, h19, h20, hb, hlt']
      refine callS_q (c_trim o (by omega)) (args_words hb (by omega)) rfl ?_
      rw [encW_dig ho]
      rw [List.take_of_length_le (by omega), List.take_of_length_le (by omega), List.take_of_length_le (by omega)] at hv
      have hc0 : c = 0 := by
        rcases Nat.eq_zero_or_pos c with h | h
        · exact h
        · have h1 := val_lt ho
          rw [hlo] at h1
          have : c = 1 := by omega
          subst this
          rw [Nat.mul_one] at hv
          omega
      have hvv : val o = val x - val y := by rw [hc0, Nat.mul_zero] at hv; omega
      rw [hvv]
      simp only [go_sem, ↓reduceIte]
      exact .mk (by simp only [go_sem, ↓reduceIte, encW])

/-- How far two numbers are apart. -/
def gapN (x y : Nat) : Nat := (x - y) + (y - x)
theorem gapN_of_le {x y : Nat} (h : y ≤ x) : gapN x y = x - y := by unfold gapN; omega
theorem gapN_of_lt {x y : Nat} (h : x < y) : gapN x y = y - x := by unfold gapN; omega
theorem cmpN_neg {x y : Nat} : cmpN x y < 0 ↔ x < y := by unfold cmpN; split <;> (try split) <;> omega

theorem c_ngap (a b : List Nat) (ha : Wd a) (hb : Wd b) (hla : a.length < 100000) (hlb : b.length < 100000) : PCalls Tryz.prog 87 [encW a, encW b] (.tup [encW (dig (gapN (val a) (val b))), .int .i64 (cmpN (val a) (val b))]) := by
  refine pcalls_of_AW (pa := []) (fn := Tryz.f87) (ts := [4, 5]) follows_mixed Tryz.func87 rfl rfl (by kernel_rfl) (by kernel_rfl) (by rw [Tryz.ntmps87]; simp) ?_
  simp only [go_sem, ↓reduceIte]
  refine callS_p (c_ncmp a b ha hb (by omega) (by omega)) ?_
  by_cases h : val a < val b
  · have hd := dec_true (cmpN_neg.2 h)
    simp only [go_sem, ↓reduceIte, hd]
    refine callS_p (c_nsub b a hb ha hlb hla (by omega)) ?_
    rw [← gapN_of_lt h]
    simp only [go_sem, ↓reduceIte]
    exact .mk (by simp only [go_sem, ↓reduceIte, encW])
  · have hd := dec_false (fun h' => h (cmpN_neg.1 h'))
    simp only [go_sem, ↓reduceIte, hd]
    refine callS_p (c_nsub a b ha hb hla hlb (by omega)) ?_
    rw [← gapN_of_le (by omega)]
    simp only [go_sem, ↓reduceIte]
    exact .mk (by simp only [go_sem, ↓reduceIte, encW])

end Go.Proofs.YtdbmdaefmlflaaaGreatDoor

set_option linter.unusedVariables false
set_option linter.unusedSimpArgs false
set_option maxRecDepth 10000
namespace Go.Proofs.YtdbmdaefmlflaaaGreatDoor
open Go Go.Ab Go.Num

theorem shl_nat (x k : Nat) : ((x : Nat) : Int) * 2 ^ k = ((x * 2 ^ k : Nat) : Int) := by simp
theorem ta (k : Nat) : (((k : Nat) : Int)).tdiv 32 = ((k / 32 : Nat) : Int) := tdiv_nat k 32
theorem tb (k : Nat) : (((k : Nat) : Int)).tmod 32 = ((k % 32 : Nat) : Int) := tmod_nat k 32
theorem min64 {k : Nat} (h : k ≤ 64) : min k 64 = k := Nat.min_eq_left h
theorem or32' {x y : Nat} (hx : x < 4294967296) (hy : y < 4294967296) : (BitVec.ofInt 32 (x : Int) ||| BitVec.ofInt 32 (y : Int)).toNat = (x ||| y) := by
  rw [BitVec.ofInt_natCast, BitVec.ofInt_natCast]
  simp only [BitVec.toNat_or, BitVec.toNat_ofNat]
  rw [show (2 : Nat) ^ 32 = 4294967296 from rfl, Nat.mod_eq_of_lt hx, Nat.mod_eq_of_lt hy]
theorem or_u32 {x y : Nat} (hx : x < 4294967296) (hy : y < 4294967296) : orI .u32 (x : Int) (y : Int) = ((x ||| y : Nat) : Int) := by
  show IntKind.u32.wrap ((BitVec.ofInt 32 (x : Int) ||| BitVec.ofInt 32 (y : Int)).toNat : Int) = _
  rw [or32' hx hy, wu32, Nat.mod_eq_of_lt (Nat.or_lt_two_pow (n := 32) hx hy)]

/-- The highest word tells how many bits there are. -/
theorem blen_top {a : List Nat} (ha : Nrm a) (hne : a ≠ []) : blen (val a) = 32 * (a.length - 1) + blen (a.getD (a.length - 1) 0) := by
  have hl : 0 < a.length := List.length_pos_iff.2 hne
  have h1 := val_take_succ a (a.length - 1)
  rw [show a.length - 1 + 1 = a.length by omega, List.take_length] at h1
  have h2 := val_take_lt ha.1 (a.length - 1)
  rw [Bpow] at h1 h2
  have h3 := blen_shift (ha.2 hne) (32 * (a.length - 1)) _ h2
  rw [h1, Nat.add_comm, Nat.mul_comm, h3]; omega

theorem c_tlen (a : List Nat) (ha : Wd a) (hl : a.length < 1000000) : PCalls Tryz.prog 140 [encW a] (.int .i64 (blen (val a) : Nat)) := by
  refine pcalls_of_AW (pa := []) (fn := Tryz.f140) (ts := [2]) follows_mixed Tryz.func140 rfl rfl (by kernel_rfl) (by kernel_rfl) (by rw [Tryz.ntmps140]; simp) ?_
  simp only [go_sem, ↓reduceIte]
  refine callS_p (c_norm a ha hl) ?_
  have hlx := dig_len_val ha
  have nx := nrm_dig (val a)
  rw [← val_dig (val a)]
  rw [val_dig (val a)]
  generalize hX : dig (val a) = x at *
  have hv : val a = val x := by rw [← hX, val_dig]
  rw [hv]
  clear hX hv
  simp only [go_sem, ↓reduceIte, encW, beq_int]
  by_cases h : x.length = 0
  · have h' := dec_true (show ((x.length : Nat) : Int) = 0 by omega)
    have : x = [] := List.length_eq_zero_iff.1 h
    subst this
    simp only [go_sem, ↓reduceIte, cast0]
    exact .mk (by simp only [go_sem, ↓reduceIte] <;> rfl)
  · have h' := dec_false (show ¬ ((x.length : Nat) : Int) = 0 by omega)
    have w1 : IntKind.i64.wrap ((x.length : Int) - 1) = ((x.length - 1 : Nat) : Int) := by rw [wrap64_id (by omega) (by omega)]; omega
    have w2 : IntKind.i64.wrap (32 * ((x.length - 1 : Nat) : Int)) = ((32 * (x.length - 1) : Nat) : Int) := by rw [wrap64_id (by omega) (by omega)]; omega
    have hlt : ((x.length - 1 : Nat) : Int) < (x.length : Nat) := by omega
    have hg := getD_w (a := x) (i := x.length - 1) (by omega) .undef
    have hxi := nx.1.getD (x.length - 1)
    rw [B_eq] at hxi
    simp only [go_sem, ↓reduceIte, encW, h', w1, w2, hlt, hg]
    refine callS_p (c_llen _ hxi) ?_
    have hbt := blen_top nx (fun e => h (by rw [e]; rfl))
    have hb32 : blen (x.getD (x.length - 1) 0) ≤ 32 := blen_le.2 hxi
    have w3 : IntKind.i64.wrap (((32 * (x.length - 1) : Nat) : Int) + (blen (x.getD (x.length - 1) 0) : Nat)) = (blen (val x) : Nat) := by rw [wrap64_id (by omega) (by omega), hbt]; rfl
    simp only [go_sem, ↓reduceIte, w3]
    exact .mk (by simp only [go_sem, ↓reduceIte])

theorem pow_mod_mul (x k : Nat) (hk : k ≤ 32) : ∃ q, x * 2 ^ k % 4294967296 = q * 2 ^ k := by
  refine ⟨x % 2 ^ (32 - k), ?_⟩
  have e : 4294967296 = 2 ^ (32 - k) * 2 ^ k := by rw [← Nat.pow_add, show 32 - k + k = 32 by omega]
  rw [e, Nat.mul_mod_mul_right]

set_option maxHeartbeats 2000000 in
theorem c_up_h (a : List Nat) (n : Nat) (h : Heap) (k0 : Nat) (ha : Wd a) (hl : a.length < 900000) (hn : n ≤ 4096) : HCalls Tryz.prog 83 [encW a, .int .i64 (n : Nat)] h k0 (NewW h k0 (dig (val a * 2 ^ n))) := by
  refine hcalls_of_AWR (pa := []) (fn := Tryz.f83) (rs := [.tmp 4]) follows_mixed Tryz.func83 rfl rfl (by kernel_rfl) (by kernel_rfl) (by rw [Tryz.ntmps83]; simp) ?_
  have hmax : (if (n : Int) < 0 then (0 : Int) else (n : Int)) = n := if_neg (by omega)
  have hmin : (if (4096 : Int) < (n : Int) then (4096 : Int) else (n : Int)) = n := if_neg (by omega)
  obtain ⟨W, hW⟩ : ∃ W, W = n / 32 := ⟨_, rfl⟩
  obtain ⟨K, hK⟩ : ∃ K, K = n % 32 := ⟨_, rfl⟩
  have hKl : K < 32 := by omega
  have hnWK : n = 32 * W + K := by omega
  have w0 : IntKind.i64.wrap (W : Int) = (W : Int) := wrap64_id (by omega) (by omega)
  have w1 : IntKind.i64.wrap ((W : Int) + (a.length : Nat)) = ((W + a.length : Nat) : Int) := by rw [wrap64_id (by omega) (by omega)]; rfl
  have w2 : IntKind.i64.wrap (((W + a.length : Nat) : Int) + 1) = ((W + (a.length + 1) : Nat) : Int) := by rw [wrap64_id (by omega) (by omega)]; omega
  have hle : ((W + (a.length + 1) : Nat) : Int) ≤ 1099511627776 := by omega
  have hK0 : ((K : Int) < 0) = False := eq_false (by omega)
  have hKm : min K 64 = K := Nat.min_eq_left (by omega)
  simp only [go_sem, ↓reduceIte, encW, hmax, hmin, ta, tb, ← hW, ← hK, w0, w1, w2, hle, wv_rep]
  refine AW_while (fun m st => ∃ i o, i + m = a.length ∧ st.τ 5 = .int .i64 (W : Nat) ∧ st.τ 6 = .int .i64 (K : Nat) ∧ st.τ 7 = .own (k0 + 16) 0 (W + (a.length + 1)) 1 ∧ k0 + 17 ≤ st.n ∧ (∀ j, j < k0 → st.h j = h j) ∧ st.τ 24 = encW a ∧ st.τ 25 = .int .i64 a.length ∧ st.τ 26 = .int .i64 (i : Nat) ∧
    st.h (k0 + 16) = some (wv o) ∧ o.length = W + (a.length + 1) ∧ Wd o ∧ val o = B ^ W * (val (a.take i) * 2 ^ K) ∧ (∀ k, W + i < k → o.getD k 0 = 0) ∧ o.getD (W + i) 0 < 2 ^ K) a.length ?_ ?_
  · exact ⟨0, List.replicate (W + (a.length + 1)) 0, by omega, by simp only [go_sem, ↓reduceIte], by simp only [go_sem, ↓reduceIte], by simp only [go_sem, ↓reduceIte], by simp only [go_sem, ↓reduceIte] <;> omega, fun j hj => by simp only [go_sem, ↓reduceIte, upd1_old _ _ _ _ _ hj], by simp only [go_sem, ↓reduceIte, encW], by simp only [go_sem, ↓reduceIte], by simp only [go_sem, ↓reduceIte] <;> rfl, by simp only [go_sem, ↓reduceIte], by simp, .replicate _ (by decide), by simp [val, val_replicate], fun k _ => rep0 _ k, by rw [rep0]; exact Nat.pow_pos (by omega)⟩
  · rintro m st ⟨i, o, hi, h5, h6, h7, hn0, hfr, h24, h25, h26, hb, hlo, ho, hv, hz, hlow⟩ next
    by_cases hlt : i < a.length
    · have hlt' : ((i : Nat) : Int) < (a.length : Nat) := by omega
      have hxi := ha.getD i
      rw [B_eq] at hxi
      have hgx := getD_w (a := a) (i := i) hlt .undef
      have w3 : IntKind.i64.wrap ((W : Int) + (i : Int)) = ((W + i : Nat) : Int) := by rw [wrap64_id (by omega) (by omega)]; rfl
      have w4 : IntKind.i64.wrap (((W + i : Nat) : Int) + 1) = ((W + (i + 1) : Nat) : Int) := by rw [wrap64_id (by omega) (by omega)]; omega
      have w5 : IntKind.i64.wrap ((i : Int) + 1) = ((i + 1 : Nat) : Int) := by rw [wrap64_id (by omega) (by omega)]; rfl
      have hWi : ((W + i : Nat) : Int) < ((W + (a.length + 1) : Nat) : Int) := by omega
      have hWi1 : ((W + (i + 1) : Nat) : Int) < ((W + (a.length + 1) : Nat) : Int) := by omega
      generalize hx : a.getD i 0 = x at *
      have hoi := ho.getD (W + i)
      rw [B_eq] at hoi
      have hpk : 2 ^ K ≤ 2 ^ 31 := Nat.pow_le_pow_right (by omega) (by omega)
      have hwide : x * 2 ^ K < 18446744073709551616 := by
        have : x * 2 ^ K ≤ 4294967295 * 2 ^ 31 := Nat.mul_le_mul (by omega) hpk
        omega
      have hxm : x % 18446744073709551616 = x := Nat.mod_eq_of_lt (by omega)
      have hwm : x * 2 ^ K % 18446744073709551616 = x * 2 ^ K := Nat.mod_eq_of_lt hwide
      have hhi : x * 2 ^ K / 4294967296 < 2 ^ K := by
        rw [Nat.div_lt_iff_lt_mul (by omega), Nat.mul_comm (2 ^ K)]
        exact Nat.mul_lt_mul_of_pos_right (by omega) (Nat.pow_pos (by omega))
      have hhm : x * 2 ^ K / 4294967296 % 4294967296 = x * 2 ^ K / 4294967296 := Nat.mod_eq_of_lt (by omega)
      have hil : W + i < o.length := by omega
      have hil' : W + (i + 1) ≤ o.length := by omega
      have hile : W + i ≤ o.length := by omega
      have hil1 : W + (i + 1) < o.length := by omega
      have hil2 : W + (i + (1 + 1)) ≤ o.length := by omega
      have hor : (o.getD (W + i) 0 ||| x * 2 ^ K % 4294967296) = o.getD (W + i) 0 + x * 2 ^ K % 4294967296 := by
        obtain ⟨q, hq⟩ := pow_mod_mul x K (by omega)
        rw [hq, Nat.or_comm, or_hi q K hlow, Nat.add_comm]
      have hsum : o.getD (W + i) 0 + x * 2 ^ K % 4294967296 < 4294967296 := by
        rw [← hor]; exact Nat.or_lt_two_pow (n := 32) hoi (Nat.mod_lt _ (by omega))
      have hlay1 := wv_lay (v := o.getD (W + i) 0 + x * 2 ^ K % 4294967296) hil
      have hlay2 := wv_lay (a := o.set (W + i) (o.getD (W + i) 0 + x * 2 ^ K % 4294967296)) (i := W + (i + 1)) (v := x * 2 ^ K / 4294967296) (by simpa using hil1)
      simp only [Nat.add_assoc] at hlay1 hlay2
      simp only [go_sem, ↓reduceIte, h5, h6, h7, h24, h25, h26, hb, hlt', hgx, encW, wu64, hxm, hK0, hKm, shl_nat, hwm, w3, hWi, hile, wv_head hil, wu32, or_u32 hoi (show x * 2 ^ K % 4294967296 < 4294967296 by omega), hor, wv_length, hil', hlay1, List.length_set, w4, hWi1, hil2, toNat32, min32_64, shr32, hhm, hlay2]
      refine next (m - 1) _ (by omega) ⟨i + 1, (o.set (W + i) (o.getD (W + i) 0 + x * 2 ^ K % 4294967296)).set (W + (i + 1)) (x * 2 ^ K / 4294967296), by omega, by simp only [go_sem, ↓reduceIte, h5], by simp only [go_sem, ↓reduceIte, h6], by simp only [go_sem, ↓reduceIte, h7], by simp only [go_sem, ↓reduceIte] <;> omega, (fun j hj => by simp only [go_sem, ↓reduceIte, upd1_old _ _ _ _ _ hj, hfr j hj]), by simp only [go_sem, ↓reduceIte, h24], by simp only [go_sem, ↓reduceIte, h25], by simp only [go_sem, ↓reduceIte, w5], by simp only [go_sem, ↓reduceIte], by simp [hlo], (ho.set _ hsum).set _ (by show _ < 4294967296; omega), ?_, ?_, ?_⟩
      · have e1 := val_set o (v := o.getD (W + i) 0 + x * 2 ^ K % 4294967296) hil
        have e2 := val_set (o.set (W + i) (o.getD (W + i) 0 + x * 2 ^ K % 4294967296)) (i := W + (i + 1)) (v := x * 2 ^ K / 4294967296) (by simpa using hil1)
        have e3 : (o.set (W + i) (o.getD (W + i) 0 + x * 2 ^ K % 4294967296))[W + (i + 1)]'(by simpa using hil1) = 0 := by
          rw [List.getElem_set_ne (by omega)]
          have := hz (W + (i + 1)) (by omega)
          rw [getD_of_lt hil1] at this; exact this
        rw [e3, Nat.mul_zero, Nat.add_zero] at e2
        rw [← getD_of_lt hil, Nat.mul_add] at e1
        rw [e2, val_take_succ, hx]
        have e4 : val (o.set (W + i) (o.getD (W + i) 0 + x * 2 ^ K % 4294967296)) = val o + B ^ (W + i) * (x * 2 ^ K % 4294967296) := by omega
        rw [e4, hv, show W + (i + 1) = W + i + 1 from rfl, Nat.pow_succ, Nat.mul_assoc (B ^ (W + i)), Nat.add_assoc, ← Nat.mul_add, B_eq, Nat.mod_add_div, ← B_eq, Nat.pow_add, Nat.mul_assoc, ← Nat.mul_add, Nat.add_mul]
        rw [Nat.mul_assoc (B ^ i)]
      · intro k hk
        have := hz k (by omega)
        simp only [List.getD] at this ⊢
        rw [List.getElem?_set_ne (by omega), List.getElem?_set_ne (by omega)]; exact this
      · simp only [List.getD]
        rw [List.getElem?_set_self (by simpa using hil1)]; exact hhi
    · have hlt' := dec_false (show ¬ ((i : Nat) : Int) < (a.length : Nat) by omega)
      simp only [go_sem, ↓reduceIte, h5, h6, h7, h24, h25, h26, hb, hlt']
      rw [← hlo]
      refine callS_h (c_norm_own o (k0 + 16) _ _ ho (by omega) (by simp only [go_sem, ↓reduceIte, hb]) (by simp only [go_sem, ↓reduceIte] <;> omega)) ?_
      rw [hv, List.take_of_length_le (by omega), show B ^ W * (val a * 2 ^ K) = val a * 2 ^ n by rw [hnWK, Bpow, Nat.pow_add, Nat.mul_left_comm]]
      rintro v h' n' hn' ⟨b', rfl, hb1, hb2, hb', hkeep⟩
      simp only at hn' hb1 hkeep
      simp only [go_sem, ↓reduceIte]
      exact .mk (.own b' 0 (dig (val a * 2 ^ n)).length 1) (by simp only [go_sem, ↓reduceIte]) ⟨b', rfl, by omega, by simp only [go_sem, ↓reduceIte] <;> omega, by simp only [go_sem, ↓reduceIte, hb'], fun j hj => by simp only [go_sem, ↓reduceIte]; rw [hkeep j (by omega) (by omega), hfr j hj]⟩
theorem c_up (a : List Nat) (n : Nat) (ha : Wd a) (hl : a.length < 900000) (hn : n ≤ 4096) : PCalls Tryz.prog 83 [encW a, .int .i64 (n : Nat)] (encW (dig (val a * 2 ^ n))) := .of_h (c_up_h a n _ _ ha hl hn) fun _ _ _ => NewW.frz

/-- The words of a number over a power of two. -/
theorem down_step (u w V K : Nat) (hK : K ≤ 32) (hu : u < 4294967296) : (u + 4294967296 * (w + 4294967296 * V)) / 2 ^ K = (u + w * 4294967296) / 2 ^ K % 4294967296 + 4294967296 * ((w + 4294967296 * V) / 2 ^ K) := by
  have e : (4294967296 : Nat) = 2 ^ (32 - K) * 2 ^ K := by rw [← Nat.pow_add, show 32 - K + K = 32 by omega]
  have hp : 0 < 2 ^ K := Nat.pow_pos (by omega)
  have e1 : (u + 4294967296 * (w + 4294967296 * V)) / 2 ^ K = (u + w * 4294967296) / 2 ^ K + 4294967296 * (2 ^ (32 - K) * V) := by
    have : u + 4294967296 * (w + 4294967296 * V) = (u + w * 4294967296) + 2 ^ K * (4294967296 * (2 ^ (32 - K) * V)) := by
      have : 2 ^ K * (4294967296 * (2 ^ (32 - K) * V)) = 4294967296 * ((2 ^ (32 - K) * 2 ^ K) * V) := by
        rw [Nat.mul_left_comm, ← Nat.mul_assoc (2 ^ K), Nat.mul_comm (2 ^ K)]
      rw [this, ← e]; omega
    rw [this, Nat.add_mul_div_left _ _ hp]
  have e2 : (w + 4294967296 * V) / 2 ^ K = w / 2 ^ K + 2 ^ (32 - K) * V := by
    have : w + 4294967296 * V = w + 2 ^ K * (2 ^ (32 - K) * V) := by
      rw [← Nat.mul_assoc, Nat.mul_comm (2 ^ K), ← e]
    rw [this, Nat.add_mul_div_left _ _ hp]
  have e3 : (u + w * 4294967296) / 2 ^ K / 4294967296 = w / 2 ^ K := by
    rw [Nat.div_div_eq_div_mul, Nat.mul_comm (2 ^ K), ← Nat.div_div_eq_div_mul]; congr 1; omega
  rw [e1, e2, Nat.mul_add]
  have := Nat.mod_add_div ((u + w * 4294967296) / 2 ^ K) 4294967296
  rw [e3] at this
  omega

set_option maxHeartbeats 2000000 in
theorem c_down (a : List Nat) (n : Nat) (ha : Wd a) (hl : a.length < 900000) (hn : n ≤ 1000000) : PCalls Tryz.prog 85 [encW a, .int .i64 (n : Nat)] (encW (dig (val a / 2 ^ n))) := by
  refine pcalls_of_AW (pa := []) (fn := Tryz.f85) (ts := [4]) follows_mixed Tryz.func85 rfl rfl (by kernel_rfl) (by kernel_rfl) (by rw [Tryz.ntmps85]; simp) ?_
  have hmax : (if (n : Int) < 0 then (0 : Int) else (n : Int)) = n := if_neg (by omega)
  obtain ⟨W, hW⟩ : ∃ W, W = n / 32 := ⟨_, rfl⟩
  obtain ⟨K, hK⟩ : ∃ K, K = n % 32 := ⟨_, rfl⟩
  have hKl : K < 32 := by omega
  have hnWK : n = 32 * W + K := by omega
  have w0 : IntKind.i64.wrap (W : Int) = (W : Int) := wrap64_id (by omega) (by omega)
  have hdiv : val a / 2 ^ n = val (a.drop W) / 2 ^ K := by rw [hnWK, Nat.pow_add, ← Bpow, ← Nat.div_div_eq_div_mul, val_drop_div ha]
  rw [hdiv]
  by_cases hWa : a.length ≤ W
  · have hd := dec_true (show ((a.length : Nat) : Int) ≤ (W : Nat) by omega)
    simp only [go_sem, ↓reduceIte, encW, hmax, ta, tb, ← hW, ← hK, w0, hd]
    rw [List.drop_eq_nil_of_le hWa]
    exact .mk_le (u := .nilsl) (by simp only [go_sem, ↓reduceIte]) (by rw [val_nil, Nat.zero_div, dig_zero]; exact AV.le_nil 1)
  · have hd := dec_false (show ¬ ((a.length : Nat) : Int) ≤ (W : Nat) by omega)
    have w1 : IntKind.i64.wrap ((a.length : Int) - (W : Int)) = ((a.length - W : Nat) : Int) := by rw [wrap64_id (by omega) (by omega)]; omega
    have hle : ((a.length - W : Nat) : Int) ≤ 1099511627776 := by omega
    have hK0 : ((K : Int) < 0) = False := eq_false (by omega)
    have hKm : min K 64 = K := Nat.min_eq_left (by omega)
    simp only [go_sem, ↓reduceIte, encW, hmax, ta, tb, ← hW, ← hK, w0, hd, w1, hle, wv_rep]
    refine AW_while (fun m st => ∃ i o, i + m = a.length - W ∧ st.τ 0 = encW a ∧ st.τ 5 = .int .i64 (W : Nat) ∧ st.τ 6 = .int .i64 (K : Nat) ∧ (∃ b, st.τ 7 = .own b 0 (a.length - W) 1 ∧ st.h b = some (wv o)) ∧ st.τ 26 = .int .i64 (a.length - W : Nat) ∧ st.τ 27 = .int .i64 (i : Nat) ∧
      o.length = a.length - W ∧ Wd o ∧ val (o.take i) + B ^ i * (val (a.drop (W + i)) / 2 ^ K) = val (a.drop W) / 2 ^ K) (a.length - W) ?_ ?_
    · exact ⟨0, List.replicate (a.length - W) 0, by omega, by simp only [go_sem, ↓reduceIte, encW], by simp only [go_sem, ↓reduceIte], by simp only [go_sem, ↓reduceIte], ⟨_, by simp only [go_sem, ↓reduceIte] <;> rfl, by simp only [go_sem, ↓reduceIte]⟩, by simp only [go_sem, ↓reduceIte], by simp only [go_sem, ↓reduceIte] <;> rfl, by simp, .replicate _ (by decide), by simp [val]⟩
    · rintro m st ⟨i, o, hi, h0, h5, h6, ⟨b, h7, hb⟩, h26, h27, hlo, ho, hv⟩ next
      by_cases hlt : i < a.length - W
      · have hlt' : ((i : Nat) : Int) < (a.length - W : Nat) := by omega
        have hxi := ha.getD (W + i)
        have hyi := ha.getD (W + (i + 1))
        rw [B_eq] at hxi hyi
        have hgx := getD_w (a := a) (i := W + i) (by omega) .undef
        have w3 : IntKind.i64.wrap ((W : Int) + (i : Int)) = ((W + i : Nat) : Int) := by rw [wrap64_id (by omega) (by omega)]; rfl
        have w4 : IntKind.i64.wrap (((W + i : Nat) : Int) + 1) = ((W + (i + 1) : Nat) : Int) := by rw [wrap64_id (by omega) (by omega)]; omega
        have w5 : IntKind.i64.wrap ((i : Int) + 1) = ((i + 1 : Nat) : Int) := by rw [wrap64_id (by omega) (by omega)]; rfl
        have hWi : ((W + i : Nat) : Int) < ((a.length : Nat) : Int) := by omega
        have hstep := down_step (a.getD (W + i) 0) (a.getD (W + (i + 1)) 0) (val (a.drop (W + (i + 1) + 1))) K (by omega) hxi
        have hd1 := val_drop a (W + i)
        have hd2 := val_drop a (W + (i + 1))
        rw [show W + i + 1 = W + (i + 1) from rfl, hd2, B_eq] at hd1
        rw [B_eq] at hd2
        generalize hx : a.getD (W + i) 0 = x at *
        generalize hy : a.getD (W + (i + 1)) 0 = y at *
        have hxm : x % 18446744073709551616 = x := Nat.mod_eq_of_lt (by omega)
        have hym : y % 18446744073709551616 = y := Nat.mod_eq_of_lt (by omega)
        have hy2 : y * 4294967296 % 18446744073709551616 = y * 4294967296 := Nat.mod_eq_of_lt (by omega)
        have hor : (x ||| y * 4294967296) = x + y * 4294967296 := by rw [Nat.or_comm, or_hi y 32 hxi, Nat.add_comm]
        have hil : i < o.length := by omega
        have hil' : i + 1 ≤ o.length := hil
        have hile : i ≤ o.length := by omega
        have hlay := wv_lay (v := (x + y * 4294967296) / 2 ^ K % 4294967296) hil
        by_cases hy1 : W + (i + 1) < a.length
        case' pos =>
          have hy1' : ((W + (i + 1) : Nat) : Int) < (a.length : Nat) := by omega
          have hgy := getD_w (a := a) (i := W + (i + 1)) hy1 .undef
          rw [hy] at hgy
          simp only [go_sem, ↓reduceIte, h0, h5, h6, h7, h26, h27, hb, hlt', encW, w3, w4, hWi, hgx, wu64, hxm, hy1', hgy, hym, toNat32, min32_64, mul32, hy2, or_u64 (show x < 18446744073709551616 by omega) (show y * 4294967296 < 18446744073709551616 by omega), hor, hK0, hKm, shr_nat, wu32, wv_length, hil', hlay]
        case' neg =>
          have hy1' := dec_false (show ¬ ((W + (i + 1) : Nat) : Int) < (a.length : Nat) by omega)
          have hy0 : y = 0 := by rw [← hy]; exact getD_of_ge (by omega)
          subst hy0
          rw [Nat.zero_mul, Nat.add_zero] at hlay
          simp only [go_sem, ↓reduceIte, h0, h5, h6, h7, h26, h27, hb, hlt', encW, w3, w4, hWi, hgx, wu64, hxm, hy1', hK0, hKm, shr_nat, wu32, wv_length, hil', hlay]
        all_goals
          refine next (m - 1) _ (by omega) ⟨i + 1, o.set i _, by omega, by simp only [go_sem, ↓reduceIte, h0, encW], by simp only [go_sem, ↓reduceIte, h5], by simp only [go_sem, ↓reduceIte, h6], ⟨b, by simp only [go_sem, ↓reduceIte, h7], by simp only [go_sem, ↓reduceIte] <;> rfl⟩, by simp only [go_sem, ↓reduceIte, h26], by simp only [go_sem, ↓reduceIte, w5], by simp [hlo], ho.set _ (by show _ < 4294967296; exact Nat.mod_lt _ (by omega)), ?_⟩
          rw [val_take_set hil, hd2, ← hv, hd1, Nat.pow_succ, Nat.mul_assoc, B_eq, hstep, Nat.mul_add, Nat.add_assoc]
          try simp only [Nat.zero_mul, Nat.add_zero]
      · have hlt' := dec_false (show ¬ ((i : Nat) : Int) < (a.length - W : Nat) by omega)
        simp only [go_sem, ↓reduceIte, h0, h5, h6, h7, h26, h27, hb, hlt']
        refine callS_q (c_norm o ho (by omega)) (args_words hb (by omega)) rfl ?_
        rw [List.take_of_length_le (by omega), List.drop_eq_nil_of_le (by omega), val_nil, Nat.zero_div, Nat.mul_zero, Nat.add_zero] at hv
        rw [hv]
        simp only [go_sem, ↓reduceIte]
        exact .mk (by simp only [go_sem, ↓reduceIte, encW])

end Go.Proofs.YtdbmdaefmlflaaaGreatDoor

set_option linter.unusedVariables false
set_option linter.unusedSimpArgs false
set_option maxRecDepth 10000
namespace Go.Proofs.YtdbmdaefmlflaaaGreatDoor
open Go Go.Ab Go.Num

/-- What a call does that changes one list of words of the caller's. -/
def ChgW (h : Heap) (n b : Nat) (R : List Nat → Prop) (h' : Heap) : Prop := (∃ o, h' b = some (wv o) ∧ R o) ∧ ∀ j, j < n → j ≠ b → h' j = h j

/-- What 'row' makes of a list. -/
def RowR (o : List Nat) (at' : Nat) (a : List Nat) (x c : Nat) (o' : List Nat) : Prop :=
  o'.length = o.length ∧ Wd o' ∧ (∀ k, at' + a.length < k → o'.getD k 0 = o.getD k 0) ∧ val o' + B ^ (at' + a.length) * o.getD (at' + a.length) 0 = val o + B ^ at' * (x * val a + c)

set_option maxHeartbeats 2000000 in
theorem c_row (o : List Nat) (b at' : Nat) (a : List Nat) (x c : Nat) (h : Heap) (n : Nat) (hb : h b = some (wv o)) (hbn : b < n) (ho : Wd o) (ha : Wd a) (hx : x < 4294967296) (hc : c < 4294967296) (hl : at' + a.length < o.length) (hlo : o.length < 1000000) :
    HCalls Tryz.prog 88 [.own b 0 o.length 1, .int .i64 (at' : Nat), encW a, .int .u32 (x : Nat), .int .u32 (c : Nat)] h n (fun v h' n' => v = .tup [] ∧ ChgW h n b (RowR o at' a x c) h') := by
  refine hcalls_of_AWR (pa := []) (fn := Tryz.f88) (rs := []) follows_mixed Tryz.func88 rfl rfl (by kernel_rfl) (by kernel_rfl) (by rw [Tryz.ntmps88]; simp) ?_
  simp only [go_sem, ↓reduceIte, encW]
  refine AW_while (fun m st => ∃ i p d, i + m = a.length ∧ st.τ 0 = .own b 0 o.length 1 ∧ st.τ 1 = .int .i64 (at' : Nat) ∧ st.τ 2 = encW a ∧ st.τ 3 = .int .u32 (x : Nat) ∧ st.τ 4 = .int .u32 (d : Nat) ∧ st.τ 12 = encW a ∧ st.τ 13 = .int .i64 a.length ∧ st.τ 14 = .int .i64 (i : Nat) ∧
    n ≤ st.n ∧ st.h b = some (wv p) ∧ (∀ j, j < n → j ≠ b → st.h j = h j) ∧ p.length = o.length ∧ Wd p ∧ d < 4294967296 ∧ (∀ k, at' + i ≤ k → p.getD k 0 = o.getD k 0) ∧ val p + B ^ (at' + i) * d = val o + B ^ at' * (x * val (a.take i) + c)) a.length ?_ ?_
  · exact ⟨0, o, c, by omega, by simp only [go_sem, ↓reduceIte], by simp only [go_sem, ↓reduceIte], by simp only [go_sem, ↓reduceIte, encW], by simp only [go_sem, ↓reduceIte], by simp only [go_sem, ↓reduceIte], by simp only [go_sem, ↓reduceIte, encW], by simp only [go_sem, ↓reduceIte], by simp only [go_sem, ↓reduceIte] <;> rfl, by simp only [go_sem, ↓reduceIte] <;> omega, by simp only [go_sem, ↓reduceIte, hb], fun j _ _ => by simp only [go_sem, ↓reduceIte], rfl, ho, hc, fun k _ => rfl, by simp [val]⟩
  · rintro m st ⟨i, p, d, hi, h0, h1, h2, h3, h4, h12, h13, h14, hn, hpb, hfr, hlp, hp, hd, hsame, hv⟩ next
    by_cases hlt : i < a.length
    · have hlt' : ((i : Nat) : Int) < (a.length : Nat) := by omega
      have hxi := ha.getD i
      have hpi := hp.getD (at' + i)
      rw [B_eq] at hxi hpi
      have hgx := getD_w (a := a) (i := i) hlt .undef
      have w3 : IntKind.i64.wrap ((at' : Int) + (i : Int)) = ((at' + i : Nat) : Int) := by rw [wrap64_id (by omega) (by omega)]; rfl
      have w5 : IntKind.i64.wrap ((i : Int) + 1) = ((i + 1 : Nat) : Int) := by rw [wrap64_id (by omega) (by omega)]; rfl
      have hai : ((at' + i : Nat) : Int) < ((o.length : Nat) : Int) := by omega
      have hil : at' + i < p.length := by omega
      have hil' : at' + (i + 1) ≤ p.length := by omega
      have hile : at' + i ≤ p.length := by omega
      have hlay := fun v => wv_lay (v := v) hil
      simp only [Nat.add_assoc] at hlay
      simp only [go_sem, ↓reduceIte, h0, h1, h2, h3, h4, h12, h13, h14, hpb, hlt', hgx, encW, w3, hai, hile, wv_length, wv_head hil]
      refine callS_p (c_lmul x (a.getD i 0) (p.getD (at' + i) 0) d hx hxi hpi hd) ?_
      simp only [go_sem, ↓reduceIte, h0, h1, h2, h3, h4, h12, h13, h14, hpb, hlt', hai, wv_length, hil', hlay]
      have hmul : x * a.getD i 0 + (p.getD (at' + i) 0 + d) < 4294967296 * 4294967296 := by
        have : x * a.getD i 0 ≤ 4294967295 * 4294967295 := Nat.mul_le_mul (by omega) (by omega)
        omega
      refine next (m - 1) _ (by omega) ⟨i + 1, p.set (at' + i) _, (x * a.getD i 0 + (p.getD (at' + i) 0 + d)) / 4294967296, by omega, by simp only [go_sem, ↓reduceIte, h0], by simp only [go_sem, ↓reduceIte, h1], by simp only [go_sem, ↓reduceIte, h2], by simp only [go_sem, ↓reduceIte, h3], by simp only [go_sem, ↓reduceIte], by simp only [go_sem, ↓reduceIte, h12], by simp only [go_sem, ↓reduceIte, h13], by simp only [go_sem, ↓reduceIte, w5], by simp only [go_sem, ↓reduceIte] <;> omega, by simp only [go_sem, ↓reduceIte] <;> rfl, fun j hj hjb => by simp only [go_sem, ↓reduceIte, hjb, hfr j hj hjb], by simp [hlp], hp.set _ (by show _ < 4294967296; exact Nat.mod_lt _ (by omega)), (Nat.div_lt_iff_lt_mul (by omega)).2 hmul, fun k hk => ?_, ?_⟩
      · have := hsame k (by omega)
        simp only [List.getD] at this ⊢
        rw [List.getElem?_set_ne (by omega)]; exact this
      · have e1 := val_set p (v := (x * a.getD i 0 + (p.getD (at' + i) 0 + d)) % 4294967296) hil
        rw [← getD_of_lt hil] at e1
        have e2 := Nat.mod_add_div (x * a.getD i 0 + (p.getD (at' + i) 0 + d)) 4294967296
        rw [Nat.pow_add] at e1 hv
        rw [val_take_succ, show at' + (i + 1) = at' + i + 1 from rfl, Nat.pow_succ, Nat.pow_add]
        exact row_step hv e1 e2
    · have hlt' := dec_false (show ¬ ((i : Nat) : Int) < (a.length : Nat) by omega)
      have hie : i = a.length := by omega
      subst hie
      have w3 : IntKind.i64.wrap ((at' : Int) + (a.length : Nat)) = ((at' + a.length : Nat) : Int) := by rw [wrap64_id (by omega) (by omega)]; rfl
      have hai : ((at' + a.length : Nat) : Int) < ((o.length : Nat) : Int) := by omega
      have hil : at' + a.length < p.length := by omega
      have hil' : at' + (a.length + 1) ≤ p.length := by omega
      have hlay := wv_lay (v := d) hil
      simp only [Nat.add_assoc] at hlay
      simp only [go_sem, ↓reduceIte, h0, h1, h2, h3, h4, h12, h13, h14, hpb, hlt', encW, w3, hai, wv_length, hil', hlay]
      refine .mk (.tup []) (by simp only [go_sem, ↓reduceIte]) ⟨rfl, ⟨p.set (at' + a.length) d, by simp only [go_sem, ↓reduceIte], by simp [hlp], hp.set _ hd, fun k hk => ?_, ?_⟩, fun j hj hjb => by simp only [go_sem, ↓reduceIte, hjb, hfr j hj hjb]⟩
      · have := hsame k (by omega)
        simp only [List.getD] at this ⊢
        rw [List.getElem?_set_ne (by omega)]; exact this
      · have e1 := val_set p (v := d) hil
        rw [← getD_of_lt hil, hsame _ (by omega)] at e1
        rw [List.take_of_length_le (by omega)] at hv
        omega

set_option maxHeartbeats 2000000 in
theorem c_mul (a b : List Nat) (ha : Wd a) (hb : Wd b) (hla : a.length < 400000) (hlb : b.length < 400000) : PCalls Tryz.prog 75 [encW a, encW b] (encW (dig (val a * val b))) := by
  refine pcalls_of_AW (pa := []) (fn := Tryz.f75) (ts := [4]) follows_mixed Tryz.func75 rfl rfl (by kernel_rfl) (by kernel_rfl) (by rw [Tryz.ntmps75]; simp) ?_
  have w1 : IntKind.i64.wrap ((a.length : Int) + (b.length : Nat)) = ((a.length + b.length : Nat) : Int) := by rw [wrap64_id (by omega) (by omega)]; rfl
  have w2 : IntKind.i64.wrap (((a.length + b.length : Nat) : Int) + 1) = ((a.length + (b.length + 1) : Nat) : Int) := by rw [wrap64_id (by omega) (by omega)]; omega
  have hle : ((a.length + (b.length + 1) : Nat) : Int) ≤ 1099511627776 := by omega
  simp only [go_sem, ↓reduceIte, encW, w1, w2, hle, wv_rep]
  refine AW_while (fun m st => ∃ i o k, i + m = b.length ∧ st.τ 0 = encW a ∧ st.τ 5 = .own k 0 (a.length + (b.length + 1)) 1 ∧ st.τ 15 = encW b ∧ st.τ 16 = .int .i64 b.length ∧ st.τ 17 = .int .i64 (i : Nat) ∧
    st.h k = some (wv o) ∧ k < st.n ∧ o.length = a.length + (b.length + 1) ∧ Wd o ∧ (∀ j, i + a.length ≤ j → o.getD j 0 = 0) ∧ val o = val (b.take i) * val a) b.length ?_ ?_
  · exact ⟨0, List.replicate (a.length + (b.length + 1)) 0, _, by omega, by simp only [go_sem, ↓reduceIte, encW], by simp only [go_sem, ↓reduceIte] <;> rfl, by simp only [go_sem, ↓reduceIte, encW], by simp only [go_sem, ↓reduceIte], by simp only [go_sem, ↓reduceIte] <;> rfl, by simp only [go_sem, ↓reduceIte], by simp only [go_sem, ↓reduceIte] <;> omega, by simp, .replicate _ (by decide), fun j _ => rep0 _ j, by simp [val, val_replicate]⟩
  · rintro m st ⟨i, o, k, hi, h0, h5, h15, h16, h17, hk, hkn, hlo, ho, hz, hv⟩ next
    by_cases hlt : i < b.length
    · have hlt' : ((i : Nat) : Int) < (b.length : Nat) := by omega
      have hxi := hb.getD i
      rw [B_eq] at hxi
      have hgx := getD_w (a := b) (i := i) hlt .undef
      have w5 : IntKind.i64.wrap ((i : Int) + 1) = ((i + 1 : Nat) : Int) := by rw [wrap64_id (by omega) (by omega)]; rfl
      simp only [go_sem, ↓reduceIte, h0, h5, h15, h16, h17, hlt', hgx, encW]
      rw [← hlo]
      refine callS_h (c_row o k i a (b.getD i 0) 0 _ _ (by simp only [go_sem, ↓reduceIte, hk]) (by simp only [go_sem, ↓reduceIte] <;> omega) ho ha hxi (by omega) (by omega) (by omega)) ?_
      rintro v h' n' hn ⟨rfl, ⟨p, hp, hlp, hwp, hsame, hval⟩, hfr⟩
      simp only [go_sem, ↓reduceIte, h0, h5, h15, h16, h17]
      refine next (m - 1) _ (by omega) ⟨i + 1, p, k, by omega, by simp only [go_sem, ↓reduceIte, h0], by simp only [go_sem, ↓reduceIte, h5], by simp only [go_sem, ↓reduceIte, h15], by simp only [go_sem, ↓reduceIte, h16], by simp only [go_sem, ↓reduceIte, w5], by simp only [go_sem, ↓reduceIte, hp], by simp only [go_sem, ↓reduceIte] at hn ⊢ <;> omega, by omega, hwp, fun j hj => by rw [hsame j (by omega)]; exact hz j (by omega), ?_⟩
      rw [hz (i + a.length) (by omega), Nat.mul_zero, Nat.add_zero, Nat.add_zero] at hval
      rw [hval, hv, val_take_succ, Nat.add_mul, Nat.mul_assoc]
    · have hlt' := dec_false (show ¬ ((i : Nat) : Int) < (b.length : Nat) by omega)
      simp only [go_sem, ↓reduceIte, h0, h5, h15, h16, h17, hk, hlt']
      refine callS_q (c_norm o ho (by omega)) (args_words hk (by omega)) rfl ?_
      rw [hv, List.take_of_length_le (by omega), Nat.mul_comm]
      simp only [go_sem, ↓reduceIte]
      exact .mk (by simp only [go_sem, ↓reduceIte, encW])

end Go.Proofs.YtdbmdaefmlflaaaGreatDoor

set_option linter.unusedVariables false
set_option linter.unusedSimpArgs false
set_option maxRecDepth 10000
namespace Go.Num

theorem val_zeros {a : List Nat} {j : Nat} (h : Wd a) (hz : ∀ k, j ≤ k → a.getD k 0 = 0) : val a = val (a.take j) := by
  rw [val_split a j]
  have : val (a.drop j) = 0 := by
    have gen : ∀ (l : List Nat), (∀ k, l.getD k 0 = 0) → val l = 0 := by
      intro l
      induction l with
      | nil => intro _; rfl
      | cons w l ih =>
        intro h
        have h0 := h 0
        simp at h0
        rw [val_cons, h0, ih fun k => by have := h (k + 1); simpa using this]; rfl
    refine gen _ fun k => ?_
    have := hz (j + k) (by omega)
    simpa [List.getD, List.getElem?_drop] using this
  rw [this]; omega
theorem val_lt_zeros {a : List Nat} {j : Nat} (h : Wd a) (hz : ∀ k, j ≤ k → a.getD k 0 = 0) : val a < B ^ j := by
  rw [val_zeros h hz]; exact val_take_lt h j
theorem getD_drop (a : List Nat) (i k : Nat) : (a.drop i).getD k 0 = a.getD (i + k) 0 := by simp [List.getD, List.getElem?_drop]
theorem take_eq {a b : List Nat} {i : Nat} (hl : a.length = b.length) (h : ∀ k, k < i → a.getD k 0 = b.getD k 0) : a.take i = b.take i := by
  apply List.ext_getElem?
  intro k
  by_cases hk : k < i
  · rw [List.getElem?_take_of_lt hk, List.getElem?_take_of_lt hk]
    by_cases hka : k < a.length
    · have := h k hk
      rw [getD_of_lt hka, getD_of_lt (by omega)] at this
      rw [List.getElem?_eq_getElem hka, List.getElem?_eq_getElem (by omega), this]
    · rw [List.getElem?_eq_none (by omega), List.getElem?_eq_none (by omega)]
  · rw [List.getElem?_eq_none (by simp; omega), List.getElem?_eq_none (by simp; omega)]
theorem high_zero {a : List Nat} {j : Nat} (h : Wd a) (hv : val a < B ^ j) {k : Nat} (hk : j ≤ k) : a.getD k 0 = 0 := by
  rcases Nat.eq_zero_or_pos (a.getD k 0) with h0 | h0
  · exact h0
  · have h1 := val_split a k
    have h2 := val_drop a k
    have h3 : B ^ j ≤ B ^ k := Nat.pow_le_pow_right B_pos hk
    have h4 : B ^ k * 1 ≤ B ^ k * val (a.drop k) := Nat.mul_le_mul_left _ (by omega)
    omega

/-- The guess at a word of the quotient, by the three highest words and the two of the divisor. -/
def guessN (a3 d2 : Nat) : Nat := min 4294967295 (a3 / d2)
theorem guessN_le (a d : Nat) : guessN a d ≤ 4294967295 := Nat.min_le_left _ _
theorem guessN_mul {d : Nat} (h : 0 < d) (a : Nat) : guessN a d * d ≤ a := (Nat.le_div_iff_mul_le h).1 (Nat.min_le_right _ _)
theorem le_guessN {a d x : Nat} (h : 0 < d) (hx : x ≤ 4294967295) (hm : x * d ≤ a) : x ≤ guessN a d := Nat.le_min.2 ⟨hx, (Nat.le_div_iff_mul_le h).2 hm⟩
theorem guess_bd {A D P d2 ld a3 la : Nat} (hD : D = d2 * P + ld) (hld : ld < P) (hA : A = a3 * P + la) (hla : la < P) (hd2 : B ≤ d2) (hAD : A < B * D) : A / D ≤ guessN a3 d2 ∧ guessN a3 d2 ≤ A / D + 1 := by
  have hB := B_pos
  have hd0 : 0 < d2 := by omega
  have hP : 0 < P := by omega
  have hDP : d2 * P ≤ D := by omega
  have hD0 : 0 < D := Nat.lt_of_lt_of_le (Nat.mul_pos hd0 hP) hDP
  unfold guessN
  constructor
  · apply Nat.le_min.2
    constructor
    · have : A / D < B := (Nat.div_lt_iff_lt_mul hD0).2 hAD
      rw [B_eq] at this; omega
    · rw [Nat.le_div_iff_mul_le hd0]
      have h1 : A / D * D ≤ A := Nat.div_mul_le_self A D
      have h2 : A / D * (d2 * P) ≤ A / D * D := Nat.mul_le_mul_left _ hDP
      have h3 : A / D * d2 * P < (a3 + 1) * P := by rw [Nat.mul_assoc, Nat.add_mul, Nat.one_mul]; omega
      have := Nat.lt_of_mul_lt_mul_right h3
      omega
  · generalize hx : min 4294967295 (a3 / d2) = x
    have hx1 : x ≤ 4294967295 := by omega
    have hx2 : x ≤ a3 / d2 := by omega
    have h1 : x * d2 ≤ a3 := (Nat.le_div_iff_mul_le hd0).1 hx2
    rcases Nat.eq_zero_or_pos x with h0 | h0
    · rw [h0]; exact Nat.zero_le _
    · have h2 : (x - 1) * D ≤ A := by
        have e1 : x * d2 * P ≤ a3 * P := Nat.mul_le_mul_right _ h1
        have e2 : x * ld ≤ B * P := Nat.mul_le_mul (by rw [B_eq]; omega) (by omega)
        have e3 : B * P ≤ d2 * P := Nat.mul_le_mul_right _ hd2
        have e4 : x * D = x * d2 * P + x * ld := by rw [hD, Nat.mul_add, Nat.mul_assoc]
        have e5 : (x - 1) * D = x * D - D := by rw [Nat.sub_mul, Nat.one_mul]
        omega
      have h3 := (Nat.le_div_iff_mul_le hD0).2 h2
      generalize A / D = z at h3 ⊢
      omega

/-- The highest words of a number. -/
theorem top_words {a : List Nat} (h : Wd a) {k : Nat} (hz : ∀ j, k + 3 ≤ j → a.getD j 0 = 0) :
    val a = ((a.getD (k + 2) 0 * B + a.getD (k + 1) 0) * B + a.getD k 0) * B ^ k + val (a.take k) ∧ val (a.take k) < B ^ k := by
  refine ⟨?_, val_take_lt h k⟩
  rw [val_zeros h hz, val_take_succ, val_take_succ, val_take_succ, Nat.pow_succ, Nat.pow_succ]
  have e1 : a.getD (k + 2) 0 * B * B * B ^ k = B ^ k * B * B * a.getD (k + 2) 0 := by ac_rfl
  have e2 : a.getD (k + 1) 0 * B * B ^ k = B ^ k * B * a.getD (k + 1) 0 := by ac_rfl
  have e3 : a.getD k 0 * B ^ k = B ^ k * a.getD k 0 := by ac_rfl
  rw [Nat.add_mul, Nat.add_mul, Nat.add_mul, e1, e2, e3, Nat.pow_succ]
  omega

/-- What is left when a word of the quotient is found. -/
theorem quot_step {A D n x S w : Nat} (hD : D < B ^ n) (hD0 : 0 < D) (hAD : A < B * D) (hx1 : A / D ≤ x) (hx2 : x ≤ A / D + 1) (hS : S < B ^ (n + 1)) (hw : w ≤ 1) (he : S + x * D = A + B ^ (n + 1) * w) :
    (w = 0 → x = A / D ∧ S = A % D) ∧ (w = 1 → x = A / D + 1 ∧ ∀ T c, T < B ^ (n + 1) → T + B ^ (n + 1) * c = S + D → T = A % D) := by
  have hdm := Nat.div_add_mod A D
  rw [Nat.mul_comm] at hdm
  have hm := Nat.mod_lt A hD0
  refine ⟨fun h0 => ?_, fun h1 => ?_⟩
  · subst h0
    have : x ≤ A / D := by
      rcases Nat.lt_or_ge (A / D) x with h | h
      · have hx : x = A / D + 1 := by omega
        rw [hx, Nat.add_mul, Nat.one_mul] at he
        omega
      · exact h
    have hx : x = A / D := by omega
    subst hx
    exact ⟨rfl, by omega⟩
  · subst h1
    have hx : x = A / D + 1 := by
      rcases Nat.lt_or_ge (A / D) x with h | h
      · omega
      · have hx : x = A / D := by omega
        subst hx
        omega
    refine ⟨hx, fun T c hT hTc => ?_⟩
    rw [hx, Nat.add_mul, Nat.one_mul] at he
    have hBn : B ^ n * 1 ≤ B ^ n * B := Nat.mul_le_mul_left _ B_pos
    rw [Nat.pow_succ] at *
    have e1 : T + B ^ n * B * c = B ^ n * B + A % D := by omega
    have hc : c = 1 := by
      rcases Nat.lt_trichotomy c 1 with h | h | h
      · have : c = 0 := by omega
        subst this
        omega
      · exact h
      · have : B ^ n * B * 2 ≤ B ^ n * B * c := Nat.mul_le_mul_left _ h
        omega
    subst hc
    omega

theorem val_pos_top {d : List Nat} {k : Nat} (h : 0 < d.getD k 0) : B ^ k ≤ val d := by
  have h1 := val_split d k
  have h2 := val_drop d k
  have : B ^ k * 1 ≤ B ^ k * val (d.drop k) := Nat.mul_le_mul_left _ (by omega)
  omega
theorem long_guess {p d : List Nat} {i : Nat} (hp : Wd p) (hd : Wd d) (h2 : 2 ≤ d.length) (htop : 0 < d.getD (d.length - 1) 0) (hlt : val (p.drop (i + 1)) < val d) :
    val (p.drop i) < B * val d ∧ (∀ j, d.length + 1 ≤ j → (p.drop i).getD j 0 = 0) ∧
    val (p.drop i) / val d ≤ guessN ((p.getD (i + d.length) 0 * 4294967296 + p.getD (i + (d.length - 1)) 0) * 4294967296 + p.getD (i + (d.length - 2)) 0) (d.getD (d.length - 1) 0 * 4294967296 + d.getD (d.length - 2) 0) ∧
    guessN ((p.getD (i + d.length) 0 * 4294967296 + p.getD (i + (d.length - 1)) 0) * 4294967296 + p.getD (i + (d.length - 2)) 0) (d.getD (d.length - 1) 0 * 4294967296 + d.getD (d.length - 2) 0) ≤ val (p.drop i) / val d + 1 := by
  obtain ⟨k, hk⟩ : ∃ k, d.length = k + 2 := ⟨d.length - 2, by omega⟩
  have hz : ∀ j, d.length + 1 ≤ j → (p.drop i).getD j 0 = 0 := fun j hj => by
    have := high_zero (hp.drop (i + 1)) (Nat.lt_trans hlt (val_lt hd)) (k := j - 1) (by omega)
    rw [getD_drop] at this ⊢
    rw [← this]; congr 1; omega
  have hA : val (p.drop i) < B * val d := by
    rw [val_drop]
    have h1 := hp.getD i
    have h2 : B * (val (p.drop (i + 1)) + 1) ≤ B * val d := Nat.mul_le_mul_left _ hlt
    rw [Nat.mul_add] at h2
    omega
  refine ⟨hA, hz, ?_⟩
  have ht := top_words (hp.drop i) (k := k) (fun j hj => hz j (by omega))
  rw [getD_drop, getD_drop, getD_drop] at ht
  have hdv : val d = (d.getD (k + 1) 0 * B + d.getD k 0) * B ^ k + val (d.take k) := by
    have h1 := val_take_succ d (k + 1)
    have h2 := val_take_succ d k
    rw [show k + 1 + 1 = d.length by omega, List.take_length, h2, Nat.pow_succ] at h1
    have e1 : d.getD (k + 1) 0 * B * B ^ k = B ^ k * B * d.getD (k + 1) 0 := by ac_rfl
    have e2 : d.getD k 0 * B ^ k = B ^ k * d.getD k 0 := by ac_rfl
    rw [Nat.add_mul, e1, e2]
    omega
  have hb : B ≤ d.getD (k + 1) 0 * B + d.getD k 0 := by
    rw [show d.length - 1 = k + 1 by omega] at htop
    have : 1 * B ≤ d.getD (k + 1) 0 * B := Nat.mul_le_mul_right _ htop
    omega
  have := guess_bd hdv (val_take_lt hd k) ht.1 ht.2 hb hA
  rw [show d.length - 1 = k + 1 by omega, show d.length - 2 = k by omega, hk]
  exact this
end Go.Num

set_option linter.unusedVariables false
set_option linter.unusedSimpArgs false
set_option maxRecDepth 10000
namespace Go.Proofs.YtdbmdaefmlflaaaGreatDoor
open Go Go.Ab Go.Num

set_option maxHeartbeats 2000000 in
theorem c_qword (a : List Nat) (x : Nat) (ha : Wd a) (hl : a.length < 900000) (hx : x < 4294967296) (hx0 : x ≠ 0) :
    PCalls Tryz.prog 46 [encW a, .int .u32 (x : Nat)] (.tup [encW (dig (val a / x)), .int .u32 (val a % x : Nat), .bool true]) := by
  refine pcalls_of_AW (pa := []) (fn := Tryz.f46) (ts := [4, 5, 6]) follows_mixed Tryz.func46 rfl rfl (by kernel_rfl) (by kernel_rfl) (by rw [Tryz.ntmps46]; simp) ?_
  have hz := beq_false_of (show ((x : Nat) : Int) ≠ 0 by omega)
  have hle : ((a.length : Nat) : Int) ≤ 1099511627776 := by omega
  have w1 : IntKind.i64.wrap ((a.length : Int) - 1) = (a.length : Int) - 1 := wrap64_id (by omega) (by omega)
  simp only [go_sem, ↓reduceIte, encW, hz, hle, wv_rep, w1]
  refine AW_while (fun m st => ∃ o r b, m ≤ a.length ∧ st.τ 0 = encW a ∧ st.τ 1 = .int .u32 (x : Nat) ∧ st.τ 4 = .own b 0 a.length 1 ∧ st.τ 5 = .int .u32 (r : Nat) ∧ st.τ 7 = .int .i64 ((m : Int) - 1) ∧ st.h b = some (wv o) ∧ b < st.n ∧ o.length = a.length ∧ Wd o ∧ r < x ∧
    val (a.drop m) = val (o.drop m) * x + r) a.length ?_ ?_
  · exact ⟨List.replicate a.length 0, 0, _, by omega, by simp only [go_sem, ↓reduceIte, encW], by simp only [go_sem, ↓reduceIte], by simp only [go_sem, ↓reduceIte] <;> rfl, by simp only [go_sem, ↓reduceIte] <;> rfl, by simp only [go_sem, ↓reduceIte], by simp only [go_sem, ↓reduceIte], by simp only [go_sem, ↓reduceIte] <;> omega, by simp, .replicate _ (by decide), by omega, by simp [val]⟩
  · rintro m st ⟨o, r, b, hm, h0, h1, h4, h5, h7, hb, hbn, hlo, ho, hr, hv⟩ next
    rcases Nat.eq_zero_or_pos m with hm0 | hm0
    · subst hm0
      simp only [go_sem, ↓reduceIte, h0, h1, h4, h5, h7, hb, show ((0 : Nat) : Int) - 1 = -1 from rfl, show decide ((0 : Int) ≤ -1) = false from rfl]
      refine callS_q (c_norm o ho (by omega)) (args_words hb (by omega)) rfl ?_
      rw [List.drop_zero, List.drop_zero] at hv
      have e1 : val a / x = val o := by rw [hv, Nat.mul_comm, Nat.mul_add_div (by omega), Nat.div_eq_of_lt hr, Nat.add_zero]
      have e2 : val a % x = r := by rw [hv, Nat.mul_comm, Nat.mul_add_mod, Nat.mod_eq_of_lt hr]
      simp only [go_sem, ↓reduceIte, h5]
      exact .mk (by simp only [go_sem, ↓reduceIte, encW, e1, e2])
    · have hd := dec_true (show (0 : Int) ≤ (m : Int) - 1 by omega)
      have e1 : (m : Int) - 1 = ((m - 1 : Nat) : Int) := by omega
      have hlt' : ((m - 1 : Nat) : Int) < (a.length : Nat) := by omega
      have hxi := ha.getD (m - 1)
      rw [B_eq] at hxi
      have hgx := getD_w (a := a) (i := m - 1) (by omega) .undef
      have w5 : IntKind.i64.wrap (((m - 1 : Nat) : Int) - 1) = ((m - 1 : Nat) : Int) - 1 := by rw [wrap64_id (by omega) (by omega)]
      have hil : m - 1 < o.length := by omega
      have hil' : m - 1 + 1 ≤ o.length := by omega
      have hlay := fun v => wv_lay (v := v) hil
      rw [e1] at h7 hd
      simp only [go_sem, ↓reduceIte, h0, h1, h4, h5, h7, hb, hd, encW, hlt', hgx]
      refine callS_p (c_ldiv r (a.getD (m - 1) 0) x hr hxi hx) ?_
      simp only [go_sem, ↓reduceIte, h0, h1, h4, h5, h7, hb, hlt', wv_length, hil', hlay, w5]
      have hq : (r * 4294967296 + a.getD (m - 1) 0) / x < 4294967296 := by
        rw [Nat.div_lt_iff_lt_mul (by omega)]
        have : r * 4294967296 + 4294967296 ≤ x * 4294967296 := by omega
        omega
      refine next (m - 1) _ (by omega) ⟨o.set (m - 1) _, _, b, by omega, by simp only [go_sem, ↓reduceIte, h0, encW], by simp only [go_sem, ↓reduceIte, h1], by simp only [go_sem, ↓reduceIte, h4], by simp only [go_sem, ↓reduceIte] <;> rfl, by simp only [go_sem, ↓reduceIte], by simp only [go_sem, ↓reduceIte] <;> rfl, by simp only [go_sem, ↓reduceIte] <;> omega, by simp [hlo], ho.set _ hq, Nat.mod_lt _ (by omega), ?_⟩
      have d1 := val_drop a (m - 1)
      have d2 := val_drop (o.set (m - 1) ((r * 4294967296 + a.getD (m - 1) 0) / x)) (m - 1)
      rw [show m - 1 + 1 = m by omega] at d1 d2
      rw [List.drop_set_of_lt (show m - 1 < m by omega)] at d2
      have d3 : (o.set (m - 1) ((r * 4294967296 + a.getD (m - 1) 0) / x)).getD (m - 1) 0 = (r * 4294967296 + a.getD (m - 1) 0) / x := by simp only [List.getD]; rw [List.getElem?_set_self hil]; rfl
      rw [d1, d2, d3, hv, B_eq]
      have dm := Nat.div_add_mod (r * 4294967296 + a.getD (m - 1) 0) x
      generalize (r * 4294967296 + a.getD (m - 1) 0) / x = q at *
      rw [Nat.add_mul, Nat.mul_comm q x, Nat.mul_add, Nat.mul_assoc 4294967296]
      omega

/-- The guess is not too small, as long as it is too great. -/
theorem mend_le {a2 a1 a0 b1 b0 q r g : Nat} (hg : g * (b1 * 4294967296 + b0) ≤ (a2 * 4294967296 + a1) * 4294967296 + a0) (hqr : a2 * 4294967296 + a1 = q * b1 + r) (h : ¬ q * b0 ≤ r * 4294967296 + a0) (hgq : g ≤ q) : g ≤ q - 1 ∧ 0 < q := by
  have h0 : 0 < q := by
    rcases Nat.eq_zero_or_pos q with h1 | h1
    · subst h1; simp at h
    · exact h1
  refine ⟨?_, h0⟩
  rcases Nat.lt_or_ge g q with h1 | h1
  · omega
  · have : g = q := by omega
    subst this
    rw [hqr, Nat.mul_add, Nat.add_mul, ← Nat.mul_assoc] at hg
    omega
theorem mend_eq {a2 a1 a0 b1 b0 q r : Nat} (hqr : a2 * 4294967296 + a1 = q * b1 + r) (h : q * b0 ≤ r * 4294967296 + a0) : q * (b1 * 4294967296 + b0) ≤ (a2 * 4294967296 + a1) * 4294967296 + a0 := by
  rw [hqr, Nat.mul_add, Nat.add_mul, ← Nat.mul_assoc]; omega

set_option maxHeartbeats 4000000 in
theorem c_guess (a2 a1 a0 b1 b0 : Nat) (h2 : a2 < 4294967296) (h1 : a1 < 4294967296) (h0 : a0 < 4294967296) (hb1 : b1 < 4294967296) (hb0 : b0 < 4294967296) (hp : 0 < b1) :
    PCalls Tryz.prog 91 [.int .u32 (a2 : Nat), .int .u32 (a1 : Nat), .int .u32 (a0 : Nat), .int .u32 (b1 : Nat), .int .u32 (b0 : Nat)] (.int .u32 (guessN ((a2 * 4294967296 + a1) * 4294967296 + a0) (b1 * 4294967296 + b0) : Nat)) := by
  refine pcalls_of_AW (pa := []) (fn := Tryz.f91) (ts := [10]) follows_mixed Tryz.func91 rfl rfl (by kernel_rfl) (by kernel_rfl) (by rw [Tryz.ntmps91]; simp) ?_
  have hd0 : 0 < b1 * 4294967296 + b0 := by omega
  have hg1 := guessN_le ((a2 * 4294967296 + a1) * 4294967296 + a0) (b1 * 4294967296 + b0)
  have hg2 := guessN_mul hd0 ((a2 * 4294967296 + a1) * 4294967296 + a0)
  have hg3 : ∀ x, x ≤ 4294967295 → x * (b1 * 4294967296 + b0) ≤ (a2 * 4294967296 + a1) * 4294967296 + a0 → x ≤ guessN ((a2 * 4294967296 + a1) * 4294967296 + a0) (b1 * 4294967296 + b0) := fun x hx h => le_guessN hd0 hx h
  generalize guessN ((a2 * 4294967296 + a1) * 4294967296 + a0) (b1 * 4294967296 + b0) = g at *
  simp only [go_sem, ↓reduceIte]
  by_cases hlt : a2 < b1
  · refine callS_p (c_ldiv a2 a1 b1 hlt h1 hb1) ?_
    have hq2 : (a2 * 4294967296 + a1) / b1 < 4294967296 := by
      rw [Nat.div_lt_iff_lt_mul hp]
      have : a2 * 4294967296 + 4294967296 ≤ b1 * 4294967296 := by omega
      omega
    have hr2 : (a2 * 4294967296 + a1) % b1 < 4294967296 := Nat.lt_trans (Nat.mod_lt _ hp) hb1
    have hqr : a2 * 4294967296 + a1 = (a2 * 4294967296 + a1) / b1 * b1 + (a2 * 4294967296 + a1) % b1 := by
      have h := Nat.div_add_mod (a2 * 4294967296 + a1) b1
      rw [Nat.mul_comm b1] at h; exact h.symm
    have hgq : g ≤ (a2 * 4294967296 + a1) / b1 := by
      rw [Nat.le_div_iff_mul_le hp]
      rw [Nat.mul_add, ← Nat.mul_assoc] at hg2
      have e := Nat.le_trans (Nat.le_add_right _ _) hg2
      omega
    generalize (a2 * 4294967296 + a1) / b1 = q at *
    generalize (a2 * 4294967296 + a1) % b1 = r at *
    have hq : (q : Int) = q := rfl
    simp only [go_sem, ↓reduceIte]
    refine AW_while (fun m st => ∃ r : Nat, st.τ 2 = .int .u32 (a0 : Nat) ∧ st.τ 3 = .int .u32 (b1 : Nat) ∧ st.τ 4 = .int .u32 (b0 : Nat) ∧ st.τ 11 = .int .u32 (m : Nat) ∧ st.τ 12 = .int .u32 (r : Nat) ∧ m < 4294967296 ∧ r < 4294967296 ∧ a2 * 4294967296 + a1 = m * b1 + r ∧ g ≤ m) q ?_ ?_
    · exact ⟨r, by simp only [go_sem, ↓reduceIte], by simp only [go_sem, ↓reduceIte], by simp only [go_sem, ↓reduceIte], by first | (simp only [go_sem, ↓reduceIte]; done) | (simp only [go_sem, ↓reduceIte]; exact congrArg (AV.int .u32) hq.symm), by simp only [go_sem, ↓reduceIte], hq2, hr2, hqr, hgq⟩
    · clear hqr hgq hq2 hr2 hq
      clear q r
      rintro q st ⟨r, t2, t3, t4, t11, t12, hq2, hr2, hqr, hgq⟩ next
      simp only [go_sem, ↓reduceIte, t2, t3, t4, t11, t12]
      refine callS_p (c_lmul q b0 0 0 hq2 hb0 (by omega) (by omega)) ?_
      rw [Nat.add_zero, Nat.add_zero]
      have hdm := Nat.div_add_mod (q * b0) 4294967296
      have hmm := Nat.mod_lt (q * b0) (show 0 < 4294967296 by omega)
      by_cases hok : q * b0 ≤ r * 4294967296 + a0
      · have hqg := hg3 q (by omega) (mend_eq hqr hok)
        have hge : g = q := by omega
        by_cases hhr : q * b0 / 4294967296 < r
        · simp only [go_sem, ↓reduceIte, t2, t3, t4, t11, t12, dlt_nat, dec_true hhr]
          exact .mk (by simp only [go_sem, ↓reduceIte, hge])
        · have he : q * b0 / 4294967296 = r := by omega
          have hle : q * b0 % 4294967296 ≤ a0 := by omega
          simp only [go_sem, ↓reduceIte, t2, t3, t4, t11, t12, dlt_nat, dec_false hhr, beq_nat, dec_true he, dle_nat, dec_true hle]
          exact .mk (by simp only [go_sem, ↓reduceIte, hge])
      · obtain ⟨hgm, hq0⟩ := mend_le hg2 hqr hok hgq
        have hhr := show ¬ q * b0 / 4294967296 < r by omega
        have wq : IntKind.u32.wrap ((q : Int) - 1) = ((q - 1 : Nat) : Int) := by rw [show ((1 : Int)) = ((1 : Nat) : Int) from rfl, wu32_sub (by omega), Nat.mod_eq_of_lt (by omega)]
        have hqr' : a2 * 4294967296 + a1 = (q - 1) * b1 + (r + b1) := by
          have : q * b1 = (q - 1) * b1 + b1 := by rw [Nat.sub_mul, Nat.one_mul]; have := Nat.le_mul_of_pos_left b1 hq0; omega
          omega
        have fin : ∀ (K : Prop), K → K := fun _ h => h
        by_cases he : q * b0 / 4294967296 = r
        · have hle : ¬ q * b0 % 4294967296 ≤ a0 := by omega
          simp only [go_sem, ↓reduceIte, t2, t3, t4, t11, t12, dlt_nat, dec_false hhr, beq_nat, dec_true he, dle_nat, dec_false hle, wq]
          refine callS_p (c_ladd r b1 0 hr2 hb1 (by omega)) ?_
          rw [Nat.add_zero]
          by_cases hcy : (r + b1) / 4294967296 = 0
          · have hmm : (r + b1) % 4294967296 = r + b1 := Nat.mod_eq_of_lt (by omega)
            simp only [go_sem, ↓reduceIte, t2, t3, t4, t11, t12, hcy, cast0, show decide ((0 : Int) < 0) = false from rfl, hmm]
            exact next (q - 1) _ (by omega) ⟨r + b1, by simp only [go_sem, ↓reduceIte, t2], by simp only [go_sem, ↓reduceIte, t3], by simp only [go_sem, ↓reduceIte, t4], by simp only [go_sem, ↓reduceIte], by simp only [go_sem, ↓reduceIte], by omega, by omega, hqr', hgm⟩
          · have hcy' := dec_true (show (0 : Int) < ((r + b1) / 4294967296 : Nat) by omega)
            have hqg := hg3 (q - 1) (by omega) (mend_eq hqr' (Nat.le_trans (Nat.mul_le_mul (show q - 1 ≤ 4294967295 by omega) (show b0 ≤ 4294967295 by omega)) (by omega)))
            have hge : g = q - 1 := by omega
            simp only [go_sem, ↓reduceIte, t2, t3, t4, t11, t12, hcy']
            exact .mk (by simp only [go_sem, ↓reduceIte, hge])
        · simp only [go_sem, ↓reduceIte, t2, t3, t4, t11, t12, dlt_nat, dec_false hhr, beq_nat, dec_false he, wq]
          refine callS_p (c_ladd r b1 0 hr2 hb1 (by omega)) ?_
          rw [Nat.add_zero]
          by_cases hcy : (r + b1) / 4294967296 = 0
          · have hmm : (r + b1) % 4294967296 = r + b1 := Nat.mod_eq_of_lt (by omega)
            simp only [go_sem, ↓reduceIte, t2, t3, t4, t11, t12, hcy, cast0, show decide ((0 : Int) < 0) = false from rfl, hmm]
            exact next (q - 1) _ (by omega) ⟨r + b1, by simp only [go_sem, ↓reduceIte, t2], by simp only [go_sem, ↓reduceIte, t3], by simp only [go_sem, ↓reduceIte, t4], by simp only [go_sem, ↓reduceIte], by simp only [go_sem, ↓reduceIte], by omega, by omega, hqr', hgm⟩
          · have hcy' := dec_true (show (0 : Int) < ((r + b1) / 4294967296 : Nat) by omega)
            have hqg := hg3 (q - 1) (by omega) (mend_eq hqr' (Nat.le_trans (Nat.mul_le_mul (show q - 1 ≤ 4294967295 by omega) (show b0 ≤ 4294967295 by omega)) (by omega)))
            have hge : g = q - 1 := by omega
            simp only [go_sem, ↓reduceIte, t2, t3, t4, t11, t12, hcy']
            exact .mk (by simp only [go_sem, ↓reduceIte, hge])
  · refine callS_p (c_ldiv0 a2 a1 b1 (by omega)) ?_
    simp only [go_sem, ↓reduceIte]
    refine callS_p (c_ladd a1 b1 0 h1 hb1 (by omega)) ?_
    rw [Nat.add_zero]
    by_cases hgt : b1 < a2
    · simp only [go_sem, ↓reduceIte, dlt_nat, dec_true hgt]
      have : 4294967295 ≤ g := hg3 _ (by omega) (by
        have : b1 * 4294967296 + 4294967296 ≤ a2 * 4294967296 := by omega
        omega)
      have hge : g = 4294967295 := by omega
      exact .mk (by simp only [go_sem, ↓reduceIte, hge] <;> rfl)
    · have hab : a2 = b1 := by omega
      by_cases hcy : (a1 + b1) / 4294967296 = 0
      · have hmm : (a1 + b1) % 4294967296 = a1 + b1 := Nat.mod_eq_of_lt (by omega)
        simp only [go_sem, ↓reduceIte, dlt_nat, dec_false hgt, hcy, cast0, show decide ((0 : Int) < 0) = false from rfl, hmm]
        obtain ⟨q, hq0⟩ : ∃ q : Nat, q = 4294967295 := ⟨_, rfl⟩
        have hq2 : q < 4294967296 := by omega
        have hr2 : a1 + b1 < 4294967296 := by omega
        have hqr : a2 * 4294967296 + a1 = q * b1 + (a1 + b1) := by rw [hq0]; omega
        have hgq : g ≤ q := by omega
        have hq : (q : Int) = 4294967295 := by rw [hq0]; rfl
        clear hq0
        generalize a1 + b1 = r at hr2 hqr ⊢
        refine AW_while (fun m st => ∃ r : Nat, st.τ 2 = .int .u32 (a0 : Nat) ∧ st.τ 3 = .int .u32 (b1 : Nat) ∧ st.τ 4 = .int .u32 (b0 : Nat) ∧ st.τ 11 = .int .u32 (m : Nat) ∧ st.τ 12 = .int .u32 (r : Nat) ∧ m < 4294967296 ∧ r < 4294967296 ∧ a2 * 4294967296 + a1 = m * b1 + r ∧ g ≤ m) q ?_ ?_
        · exact ⟨r, by simp only [go_sem, ↓reduceIte], by simp only [go_sem, ↓reduceIte], by simp only [go_sem, ↓reduceIte], by first | (simp only [go_sem, ↓reduceIte]; done) | (simp only [go_sem, ↓reduceIte]; exact congrArg (AV.int .u32) hq.symm), by simp only [go_sem, ↓reduceIte], hq2, hr2, hqr, hgq⟩
        · clear hqr hgq hq2 hr2 hq
          clear q r
          rintro q st ⟨r, t2, t3, t4, t11, t12, hq2, hr2, hqr, hgq⟩ next
          simp only [go_sem, ↓reduceIte, t2, t3, t4, t11, t12]
          refine callS_p (c_lmul q b0 0 0 hq2 hb0 (by omega) (by omega)) ?_
          rw [Nat.add_zero, Nat.add_zero]
          have hdm := Nat.div_add_mod (q * b0) 4294967296
          have hmm := Nat.mod_lt (q * b0) (show 0 < 4294967296 by omega)
          by_cases hok : q * b0 ≤ r * 4294967296 + a0
          · have hqg := hg3 q (by omega) (mend_eq hqr hok)
            have hge : g = q := by omega
            by_cases hhr : q * b0 / 4294967296 < r
            · simp only [go_sem, ↓reduceIte, t2, t3, t4, t11, t12, dlt_nat, dec_true hhr]
              exact .mk (by simp only [go_sem, ↓reduceIte, hge])
            · have he : q * b0 / 4294967296 = r := by omega
              have hle : q * b0 % 4294967296 ≤ a0 := by omega
              simp only [go_sem, ↓reduceIte, t2, t3, t4, t11, t12, dlt_nat, dec_false hhr, beq_nat, dec_true he, dle_nat, dec_true hle]
              exact .mk (by simp only [go_sem, ↓reduceIte, hge])
          · obtain ⟨hgm, hq0⟩ := mend_le hg2 hqr hok hgq
            have hhr := show ¬ q * b0 / 4294967296 < r by omega
            have wq : IntKind.u32.wrap ((q : Int) - 1) = ((q - 1 : Nat) : Int) := by rw [show ((1 : Int)) = ((1 : Nat) : Int) from rfl, wu32_sub (by omega), Nat.mod_eq_of_lt (by omega)]
            have hqr' : a2 * 4294967296 + a1 = (q - 1) * b1 + (r + b1) := by
              have : q * b1 = (q - 1) * b1 + b1 := by rw [Nat.sub_mul, Nat.one_mul]; have := Nat.le_mul_of_pos_left b1 hq0; omega
              omega
            have fin : ∀ (K : Prop), K → K := fun _ h => h
            by_cases he : q * b0 / 4294967296 = r
            · have hle : ¬ q * b0 % 4294967296 ≤ a0 := by omega
              simp only [go_sem, ↓reduceIte, t2, t3, t4, t11, t12, dlt_nat, dec_false hhr, beq_nat, dec_true he, dle_nat, dec_false hle, wq]
              refine callS_p (c_ladd r b1 0 hr2 hb1 (by omega)) ?_
              rw [Nat.add_zero]
              by_cases hcy : (r + b1) / 4294967296 = 0
              · have hmm : (r + b1) % 4294967296 = r + b1 := Nat.mod_eq_of_lt (by omega)
                simp only [go_sem, ↓reduceIte, t2, t3, t4, t11, t12, hcy, cast0, show decide ((0 : Int) < 0) = false from rfl, hmm]
                exact next (q - 1) _ (by omega) ⟨r + b1, by simp only [go_sem, ↓reduceIte, t2], by simp only [go_sem, ↓reduceIte, t3], by simp only [go_sem, ↓reduceIte, t4], by simp only [go_sem, ↓reduceIte], by simp only [go_sem, ↓reduceIte], by omega, by omega, hqr', hgm⟩
              · have hcy' := dec_true (show (0 : Int) < ((r + b1) / 4294967296 : Nat) by omega)
                have hqg := hg3 (q - 1) (by omega) (mend_eq hqr' (Nat.le_trans (Nat.mul_le_mul (show q - 1 ≤ 4294967295 by omega) (show b0 ≤ 4294967295 by omega)) (by omega)))
                have hge : g = q - 1 := by omega
                simp only [go_sem, ↓reduceIte, t2, t3, t4, t11, t12, hcy']
                exact .mk (by simp only [go_sem, ↓reduceIte, hge])
            · simp only [go_sem, ↓reduceIte, t2, t3, t4, t11, t12, dlt_nat, dec_false hhr, beq_nat, dec_false he, wq]
              refine callS_p (c_ladd r b1 0 hr2 hb1 (by omega)) ?_
              rw [Nat.add_zero]
              by_cases hcy : (r + b1) / 4294967296 = 0
              · have hmm : (r + b1) % 4294967296 = r + b1 := Nat.mod_eq_of_lt (by omega)
                simp only [go_sem, ↓reduceIte, t2, t3, t4, t11, t12, hcy, cast0, show decide ((0 : Int) < 0) = false from rfl, hmm]
                exact next (q - 1) _ (by omega) ⟨r + b1, by simp only [go_sem, ↓reduceIte, t2], by simp only [go_sem, ↓reduceIte, t3], by simp only [go_sem, ↓reduceIte, t4], by simp only [go_sem, ↓reduceIte], by simp only [go_sem, ↓reduceIte], by omega, by omega, hqr', hgm⟩
              · have hcy' := dec_true (show (0 : Int) < ((r + b1) / 4294967296 : Nat) by omega)
                have hqg := hg3 (q - 1) (by omega) (mend_eq hqr' (Nat.le_trans (Nat.mul_le_mul (show q - 1 ≤ 4294967295 by omega) (show b0 ≤ 4294967295 by omega)) (by omega)))
                have hge : g = q - 1 := by omega
                simp only [go_sem, ↓reduceIte, t2, t3, t4, t11, t12, hcy']
                exact .mk (by simp only [go_sem, ↓reduceIte, hge])
      · have hcy' := dec_true (show (0 : Int) < ((a1 + b1) / 4294967296 : Nat) by omega)
        simp only [go_sem, ↓reduceIte, dlt_nat, dec_false hgt, hcy']
        have : 4294967295 ≤ g := hg3 _ (by omega) (by omega)
        have hge : g = 4294967295 := by omega
        exact .mk (by simp only [go_sem, ↓reduceIte, hge] <;> rfl)

end Go.Proofs.YtdbmdaefmlflaaaGreatDoor

set_option linter.unusedVariables false
set_option linter.unusedSimpArgs false
set_option maxRecDepth 10000
namespace Go.Proofs.YtdbmdaefmlflaaaGreatDoor
open Go Go.Ab Go.Num

/-- What 'take' makes of a list; 'w': what is owed. -/
def TakeR (o : List Nat) (at' : Nat) (b : List Nat) (x w : Nat) (o' : List Nat) : Prop :=
  o'.length = o.length ∧ Wd o' ∧ (∀ k, k < at' ∨ at' + b.length < k → o'.getD k 0 = o.getD k 0) ∧ w ≤ 1 ∧ val o' + B ^ at' * (x * val b) = val o + B ^ (at' + b.length + 1) * w

theorem take_step {A Q x bi lo hi c w w' s q Vp Vq Vo T : Nat} (hv : Vp + A * (x * T) = Vo + A * Q * (c + w)) (e1 : Vq + A * Q * q = Vp + A * Q * s) (e2 : lo + 4294967296 * hi = x * bi + c) (e3 : s + lo + w = q + 4294967296 * w') :
    Vq + A * (x * (T + Q * bi)) = Vo + A * Q * B * (hi + w') := by
  have m2 := congrArg (A * Q * ·) e2
  have m3 := congrArg (A * Q * ·) e3
  simp only [Nat.mul_add] at m2 m3 hv ⊢
  have k1 : A * Q * B * hi = A * Q * (4294967296 * hi) := by rw [Nat.mul_assoc]; rfl
  have k2 : A * Q * B * w' = A * Q * (4294967296 * w') := by rw [Nat.mul_assoc]; rfl
  have k3 : A * (x * (Q * bi)) = A * Q * (x * bi) := by rw [Nat.mul_left_comm x Q, Nat.mul_assoc]
  omega

theorem take_end {A Q c w w' s q Vp Vq Vo X : Nat} (hv : Vp + X = Vo + A * Q * (c + w)) (e1 : Vq + A * Q * q = Vp + A * Q * s) (e3 : s + c + w = q + 4294967296 * w') : Vq + X = Vo + A * Q * B * w' := by
  have m3 := congrArg (A * Q * ·) e3
  simp only [Nat.mul_add] at m3 hv ⊢
  have k2 : A * Q * B * w' = A * Q * (4294967296 * w') := by rw [Nat.mul_assoc]; rfl
  omega
theorem give_end {A Q c c' s q Vp Vq Vo X : Nat} (hv : Vp + A * Q * c = Vo + X) (e1 : Vq + A * Q * q = Vp + A * Q * s) (e2 : s + 4294967296 * c' = q + c) : Vq + A * Q * B * c' = Vo + X := by
  have m3 := congrArg (A * Q * ·) e2
  simp only [Nat.mul_add] at m3 ⊢
  have k2 : A * Q * B * c' = A * Q * (4294967296 * c') := by rw [Nat.mul_assoc]; rfl
  omega

set_option maxHeartbeats 4000000 in
theorem c_take (o : List Nat) (b at' : Nat) (a : List Nat) (x : Nat) (h : Heap) (n : Nat) (hb : h b = some (wv o)) (hbn : b < n) (ho : Wd o) (ha : Wd a) (hx : x < 4294967296) (hl : at' + a.length < o.length) (hlo : o.length < 1000000) :
    HCalls Tryz.prog 92 [.own b 0 o.length 1, .int .i64 (at' : Nat), encW a, .int .u32 (x : Nat)] h n (fun v h' n' => ∃ w, v = .bool (decide (0 < w)) ∧ ChgW h n b (TakeR o at' a x w) h') := by
  refine hcalls_of_AWR (pa := []) (fn := Tryz.f92) (rs := [.tmp 8]) follows_mixed Tryz.func92 rfl rfl (by kernel_rfl) (by kernel_rfl) (by rw [Tryz.ntmps92]; simp) ?_
  simp only [go_sem, ↓reduceIte, encW]
  refine AW_while (fun m st => ∃ i p c w, i + m = a.length ∧ st.τ 0 = .own b 0 o.length 1 ∧ st.τ 1 = .int .i64 (at' : Nat) ∧ st.τ 2 = encW a ∧ st.τ 3 = .int .u32 (x : Nat) ∧ st.τ 9 = .int .u32 (c : Nat) ∧ st.τ 10 = .int .u32 (w : Nat) ∧ st.τ 15 = encW a ∧ st.τ 16 = .int .i64 a.length ∧ st.τ 17 = .int .i64 (i : Nat) ∧
    n ≤ st.n ∧ st.h b = some (wv p) ∧ (∀ j, j < n → j ≠ b → st.h j = h j) ∧ p.length = o.length ∧ Wd p ∧ c < 4294967296 ∧ w ≤ 1 ∧ (∀ k, k < at' ∨ at' + i ≤ k → p.getD k 0 = o.getD k 0) ∧ val p + B ^ at' * (x * val (a.take i)) = val o + B ^ at' * B ^ i * (c + w)) a.length ?_ ?_
  · exact ⟨0, o, 0, 0, by omega, by simp only [go_sem, ↓reduceIte], by simp only [go_sem, ↓reduceIte], by simp only [go_sem, ↓reduceIte, encW], by simp only [go_sem, ↓reduceIte], by simp only [go_sem, ↓reduceIte] <;> rfl, by simp only [go_sem, ↓reduceIte] <;> rfl, by simp only [go_sem, ↓reduceIte, encW], by simp only [go_sem, ↓reduceIte], by simp only [go_sem, ↓reduceIte] <;> rfl, by simp only [go_sem, ↓reduceIte] <;> omega, by simp only [go_sem, ↓reduceIte, hb], fun j _ _ => by simp only [go_sem, ↓reduceIte], rfl, ho, by omega, by omega, fun k _ => rfl, by simp [val]⟩
  · rintro m st ⟨i, p, c, w, hi, h0, h1, h2, h3, h9, h10, h15, h16, h17, hn, hpb, hfr, hlp, hp, hc, hw, hsame, hv⟩ next
    have hw' : w < 4294967296 := by omega
    by_cases hlt : i < a.length
    · have hlt' : ((i : Nat) : Int) < (a.length : Nat) := by omega
      have hxi := ha.getD i
      have hpi := hp.getD (at' + i)
      rw [B_eq] at hxi hpi
      have hgx := getD_w (a := a) (i := i) hlt .undef
      have w3 : IntKind.i64.wrap ((at' : Int) + (i : Int)) = ((at' + i : Nat) : Int) := by rw [wrap64_id (by omega) (by omega)]; rfl
      have w5 : IntKind.i64.wrap ((i : Int) + 1) = ((i + 1 : Nat) : Int) := by rw [wrap64_id (by omega) (by omega)]; rfl
      have hai : ((at' + i : Nat) : Int) < ((o.length : Nat) : Int) := by omega
      have hil : at' + i < p.length := by omega
      have hil' : at' + (i + 1) ≤ p.length := by omega
      have hile : at' + i ≤ p.length := by omega
      have hlay := fun v => wv_lay (v := v) hil
      simp only [Nat.add_assoc] at hlay
      simp only [go_sem, ↓reduceIte, h0, h1, h2, h3, h9, h10, h15, h16, h17, hpb, hlt', hgx, encW]
      refine callS_p (c_lmul x (a.getD i 0) c 0 hx hxi hc (by omega)) ?_
      rw [Nat.add_zero]
      have hmul : x * a.getD i 0 + c < 4294967296 * 4294967296 := by
        have : x * a.getD i 0 ≤ 4294967295 * 4294967295 := Nat.mul_le_mul (by omega) (by omega)
        omega
      have hhi : (x * a.getD i 0 + c) / 4294967296 < 4294967296 := (Nat.div_lt_iff_lt_mul (by omega)).2 hmul
      have hlo' : (x * a.getD i 0 + c) % 4294967296 < 4294967296 := Nat.mod_lt _ (by omega)
      have e2 := Nat.mod_add_div (x * a.getD i 0 + c) 4294967296
      generalize (x * a.getD i 0 + c) / 4294967296 = hi' at *
      generalize (x * a.getD i 0 + c) % 4294967296 = lo at *
      simp only [go_sem, ↓reduceIte, h0, h1, h2, h3, h9, h10, h15, h16, h17, hpb, w3, hai, hile, wv_length, wv_head hil]
      have hsub := c_lsub (p.getD (at' + i) 0) lo w hpi hlo' hw'
      refine callS_p hsub ?_
      have hss := subW_eq hpi hlo' hw'
      have e3 := hss.1
      have hsw := hss.2
      clear hss
      simp only [go_sem, ↓reduceIte, h0, h1, h2, h3, h9, h10, h15, h16, h17, hpb, hai, wv_length, hil', hlay]
      refine next (m - 1) _ (by omega) ⟨i + 1, p.set (at' + i) _, hi', subO (p.getD (at' + i) 0) lo w, by omega, by simp only [go_sem, ↓reduceIte, h0], by simp only [go_sem, ↓reduceIte, h1], by simp only [go_sem, ↓reduceIte, h2], by simp only [go_sem, ↓reduceIte, h3], by simp only [go_sem, ↓reduceIte], by simp only [go_sem, ↓reduceIte], by simp only [go_sem, ↓reduceIte, h15], by simp only [go_sem, ↓reduceIte, h16], by simp only [go_sem, ↓reduceIte, w5], by simp only [go_sem, ↓reduceIte] <;> omega, by simp only [go_sem, ↓reduceIte] <;> rfl, fun j hj hjb => by simp only [go_sem, ↓reduceIte, hjb, hfr j hj hjb], by simp [hlp], hp.set _ hsw, hhi, subO_le1 hpi hlo' hw, fun k hk => ?_, ?_⟩
      · have := hsame k (by omega)
        simp only [List.getD] at this ⊢
        rw [List.getElem?_set_ne (by omega)]; exact this
      · have e1 := val_set p (v := subW (p.getD (at' + i) 0) lo w) hil
        rw [← getD_of_lt hil, Nat.pow_add] at e1
        rw [val_take_succ, Nat.pow_succ, ← Nat.mul_assoc (B ^ at') (B ^ i) B]
        exact take_step hv e1 e2 e3
    · have hlt' := dec_false (show ¬ ((i : Nat) : Int) < (a.length : Nat) by omega)
      have hie : i = a.length := by omega
      subst hie
      have hpi := hp.getD (at' + a.length)
      rw [B_eq] at hpi
      have w3 : IntKind.i64.wrap ((at' : Int) + (a.length : Nat)) = ((at' + a.length : Nat) : Int) := by rw [wrap64_id (by omega) (by omega)]; rfl
      have hai : ((at' + a.length : Nat) : Int) < ((o.length : Nat) : Int) := by omega
      have hil : at' + a.length < p.length := by omega
      have hil' : at' + (a.length + 1) ≤ p.length := by omega
      have hile : at' + a.length ≤ p.length := by omega
      have hlay := fun v => wv_lay (v := v) hil
      simp only [Nat.add_assoc] at hlay
      simp only [go_sem, ↓reduceIte, h0, h1, h2, h3, h9, h10, h15, h16, h17, hpb, hlt', encW, w3, hai, hile, wv_length, wv_head hil]
      have hsub := c_lsub (p.getD (at' + a.length) 0) c w hpi hc hw'
      refine callS_p hsub ?_
      have hss := subW_eq hpi hc hw'
      have e3 := hss.1
      have hsw := hss.2
      clear hss
      simp only [go_sem, ↓reduceIte, h0, h1, h2, h3, h9, h10, hpb, hai, wv_length, hil', hlay, dlt0_nat]
      refine .mk (.bool (decide (0 < subO (p.getD (at' + a.length) 0) c w))) (by simp only [go_sem, ↓reduceIte]) ⟨_, rfl, ⟨p.set (at' + a.length) (subW (p.getD (at' + a.length) 0) c w), by simp only [go_sem, ↓reduceIte], by simp [hlp], hp.set _ hsw, fun k hk => ?_, subO_le1 hpi hc hw, ?_⟩, fun j hj hjb => by simp only [go_sem, ↓reduceIte, hjb, hfr j hj hjb]⟩
      · have := hsame k (by omega)
        simp only [List.getD] at this ⊢
        rw [List.getElem?_set_ne (by omega)]; exact this
      · have e1 := val_set p (v := subW (p.getD (at' + a.length) 0) c w) hil
        rw [← getD_of_lt hil, Nat.pow_add] at e1
        rw [List.take_of_length_le (by omega)] at hv
        rw [Nat.pow_succ, Nat.pow_add]
        exact take_end hv e1 e3

/-- What 'give' makes of a list. -/
def GiveR (o : List Nat) (at' : Nat) (b : List Nat) (o' : List Nat) : Prop :=
  o'.length = o.length ∧ Wd o' ∧ (∀ k, k < at' ∨ at' + b.length < k → o'.getD k 0 = o.getD k 0) ∧ ∃ c, val o' + B ^ (at' + b.length + 1) * c = val o + B ^ at' * val b

theorem give_step {A Q bi c c' s q Vp Vq Vo T : Nat} (hv : Vp + A * Q * c = Vo + A * T) (e1 : Vq + A * Q * q = Vp + A * Q * s) (e2 : s + 4294967296 * c' = q + (bi + c)) :
    Vq + A * Q * B * c' = Vo + A * (T + Q * bi) := by
  have m2 := congrArg (A * Q * ·) e2
  simp only [Nat.mul_add] at m2 ⊢
  have k1 : A * Q * B * c' = A * Q * (4294967296 * c') := by rw [Nat.mul_assoc]; rfl
  have k3 : A * (Q * bi) = A * Q * bi := by rw [Nat.mul_assoc]
  omega

set_option maxHeartbeats 4000000 in
theorem c_give (o : List Nat) (b at' : Nat) (a : List Nat) (h : Heap) (n : Nat) (hb : h b = some (wv o)) (hbn : b < n) (ho : Wd o) (ha : Wd a) (hl : at' + a.length < o.length) (hlo : o.length < 1000000) :
    HCalls Tryz.prog 93 [.own b 0 o.length 1, .int .i64 (at' : Nat), encW a] h n (fun v h' n' => v = .tup [] ∧ ChgW h n b (GiveR o at' a) h') := by
  refine hcalls_of_AWR (pa := []) (fn := Tryz.f93) (rs := []) follows_mixed Tryz.func93 rfl rfl (by kernel_rfl) (by kernel_rfl) (by rw [Tryz.ntmps93]; simp) ?_
  simp only [go_sem, ↓reduceIte, encW]
  refine AW_while (fun m st => ∃ i p c, i + m = a.length ∧ st.τ 0 = .own b 0 o.length 1 ∧ st.τ 1 = .int .i64 (at' : Nat) ∧ st.τ 2 = encW a ∧ st.τ 6 = .int .u32 (c : Nat) ∧ st.τ 9 = encW a ∧ st.τ 10 = .int .i64 a.length ∧ st.τ 11 = .int .i64 (i : Nat) ∧
    n ≤ st.n ∧ st.h b = some (wv p) ∧ (∀ j, j < n → j ≠ b → st.h j = h j) ∧ p.length = o.length ∧ Wd p ∧ c ≤ 1 ∧ (∀ k, k < at' ∨ at' + i ≤ k → p.getD k 0 = o.getD k 0) ∧ val p + B ^ at' * B ^ i * c = val o + B ^ at' * val (a.take i)) a.length ?_ ?_
  · exact ⟨0, o, 0, by omega, by simp only [go_sem, ↓reduceIte], by simp only [go_sem, ↓reduceIte], by simp only [go_sem, ↓reduceIte, encW], by simp only [go_sem, ↓reduceIte] <;> rfl, by simp only [go_sem, ↓reduceIte, encW], by simp only [go_sem, ↓reduceIte], by simp only [go_sem, ↓reduceIte] <;> rfl, by simp only [go_sem, ↓reduceIte] <;> omega, by simp only [go_sem, ↓reduceIte, hb], fun j _ _ => by simp only [go_sem, ↓reduceIte], rfl, ho, by omega, fun k _ => rfl, by simp [val]⟩
  · rintro m st ⟨i, p, c, hi, h0, h1, h2, h6, h9, h10, h11, hn, hpb, hfr, hlp, hp, hc, hsame, hv⟩ next
    by_cases hlt : i < a.length
    · have hlt' : ((i : Nat) : Int) < (a.length : Nat) := by omega
      have hxi := ha.getD i
      have hpi := hp.getD (at' + i)
      rw [B_eq] at hxi hpi
      have hgx := getD_w (a := a) (i := i) hlt .undef
      have w3 : IntKind.i64.wrap ((at' : Int) + (i : Int)) = ((at' + i : Nat) : Int) := by rw [wrap64_id (by omega) (by omega)]; rfl
      have w5 : IntKind.i64.wrap ((i : Int) + 1) = ((i + 1 : Nat) : Int) := by rw [wrap64_id (by omega) (by omega)]; rfl
      have hai : ((at' + i : Nat) : Int) < ((o.length : Nat) : Int) := by omega
      have hil : at' + i < p.length := by omega
      have hil' : at' + (i + 1) ≤ p.length := by omega
      have hile : at' + i ≤ p.length := by omega
      have hlay := fun v => wv_lay (v := v) hil
      simp only [Nat.add_assoc] at hlay
      simp only [go_sem, ↓reduceIte, h0, h1, h2, h6, h9, h10, h11, hpb, hlt', hgx, encW, w3, hai, hile, wv_length, wv_head hil]
      refine callS_p (c_ladd (p.getD (at' + i) 0) (a.getD i 0) c hpi hxi (by omega)) ?_
      have e2 := Nat.mod_add_div (p.getD (at' + i) 0 + (a.getD i 0 + c)) 4294967296
      have hs : (p.getD (at' + i) 0 + (a.getD i 0 + c)) % 4294967296 < 4294967296 := Nat.mod_lt _ (by omega)
      simp only [go_sem, ↓reduceIte, h0, h1, h2, h6, h9, h10, h11, hpb, hai, wv_length, hil', hlay]
      refine next (m - 1) _ (by omega) ⟨i + 1, p.set (at' + i) _, (p.getD (at' + i) 0 + (a.getD i 0 + c)) / 4294967296, by omega, by simp only [go_sem, ↓reduceIte, h0], by simp only [go_sem, ↓reduceIte, h1], by simp only [go_sem, ↓reduceIte, h2], by simp only [go_sem, ↓reduceIte], by simp only [go_sem, ↓reduceIte, h9], by simp only [go_sem, ↓reduceIte, h10], by simp only [go_sem, ↓reduceIte, w5], by simp only [go_sem, ↓reduceIte] <;> omega, by simp only [go_sem, ↓reduceIte] <;> rfl, fun j hj hjb => by simp only [go_sem, ↓reduceIte, hjb, hfr j hj hjb], by simp [hlp], hp.set _ hs, by omega, fun k hk => ?_, ?_⟩
      · have := hsame k (by omega)
        simp only [List.getD] at this ⊢
        rw [List.getElem?_set_ne (by omega)]; exact this
      · have e1 := val_set p (v := (p.getD (at' + i) 0 + (a.getD i 0 + c)) % 4294967296) hil
        rw [← getD_of_lt hil, Nat.pow_add] at e1
        rw [val_take_succ, Nat.pow_succ, ← Nat.mul_assoc (B ^ at') (B ^ i) B]
        exact give_step hv e1 e2
    · have hlt' := dec_false (show ¬ ((i : Nat) : Int) < (a.length : Nat) by omega)
      have hie : i = a.length := by omega
      subst hie
      have hpi := hp.getD (at' + a.length)
      rw [B_eq] at hpi
      have w3 : IntKind.i64.wrap ((at' : Int) + (a.length : Nat)) = ((at' + a.length : Nat) : Int) := by rw [wrap64_id (by omega) (by omega)]; rfl
      have hai : ((at' + a.length : Nat) : Int) < ((o.length : Nat) : Int) := by omega
      have hil : at' + a.length < p.length := by omega
      have hil' : at' + (a.length + 1) ≤ p.length := by omega
      have hile : at' + a.length ≤ p.length := by omega
      have hlay := fun v => wv_lay (v := v) hil
      simp only [Nat.add_assoc] at hlay
      have e2 := Nat.mod_add_div (p.getD (at' + a.length) 0 + c) 4294967296
      have hs : (p.getD (at' + a.length) 0 + c) % 4294967296 < 4294967296 := Nat.mod_lt _ (by omega)
      simp only [go_sem, ↓reduceIte, h0, h1, h2, h6, h9, h10, h11, hpb, hlt', encW, w3, hai, hile, wv_length, wv_head hil, wu32_add, hil', hlay]
      refine .mk (.tup []) (by simp only [go_sem, ↓reduceIte]) ⟨rfl, ⟨p.set (at' + a.length) ((p.getD (at' + a.length) 0 + c) % 4294967296), by simp only [go_sem, ↓reduceIte], by simp [hlp], hp.set _ hs, fun k hk => ?_, (p.getD (at' + a.length) 0 + c) / 4294967296, ?_⟩, fun j hj hjb => by simp only [go_sem, ↓reduceIte, hjb, hfr j hj hjb]⟩
      · have := hsame k (by omega)
        simp only [List.getD] at this ⊢
        rw [List.getElem?_set_ne (by omega)]; exact this
      · have e1 := val_set p (v := (p.getD (at' + a.length) 0 + c) % 4294967296) hil
        rw [← getD_of_lt hil, Nat.pow_add] at e1
        rw [List.take_of_length_le (by omega)] at hv
        rw [Nat.pow_succ, Nat.pow_add]
        exact give_end hv e1 e2

end Go.Proofs.YtdbmdaefmlflaaaGreatDoor

set_option linter.unusedVariables false
set_option linter.unusedSimpArgs false
set_option maxRecDepth 10000
namespace Go.Proofs.YtdbmdaefmlflaaaGreatDoor
open Go Go.Ab Go.Num

theorem seg_eq {p p' : List Nat} {i : Nat} {X Y : Nat} (hl : p'.length = p.length) (hsame : ∀ k, k < i → p'.getD k 0 = p.getD k 0) (he : val p' + B ^ i * X = val p + B ^ i * Y) : p'.take i = p.take i ∧ val (p'.drop i) + X = val (p.drop i) + Y := by
  have ht := take_eq hl hsame
  refine ⟨ht, ?_⟩
  have h1 := val_split p i
  have h2 := val_split p' i
  rw [ht] at h2
  have h3 : B ^ i * (val (p'.drop i) + X) = B ^ i * (val (p.drop i) + Y) := by rw [Nat.mul_add, Nat.mul_add]; omega
  exact Nat.eq_of_mul_eq_mul_left (Nat.pow_pos B_pos) h3

theorem TakeR.seg {p p' d : List Nat} {i x w : Nat} (h : TakeR p i d x w p') (hz : ∀ j, d.length + 1 ≤ j → (p.drop i).getD j 0 = 0) : p'.take i = p.take i ∧ val (p'.drop i) + x * val d = val (p.drop i) + B ^ (d.length + 1) * w ∧ val (p'.drop i) < B ^ (d.length + 1) ∧ (∀ j, d.length + 1 ≤ j → (p'.drop i).getD j 0 = 0) := by
  obtain ⟨h1, h2, h3, h4, h5⟩ := h
  rw [Nat.add_assoc, Nat.pow_add, Nat.mul_assoc] at h5
  obtain ⟨g1, g2⟩ := seg_eq h1 (fun k hk => h3 k (.inl hk)) h5
  have hz' : ∀ j, d.length + 1 ≤ j → (p'.drop i).getD j 0 = 0 := fun j hj => by
    have := hz j hj
    rw [getD_drop] at this ⊢
    rw [h3 _ (.inr (by omega))]; exact this
  exact ⟨g1, g2, val_lt_zeros (h2.drop i) hz', hz'⟩
theorem GiveR.seg {p p' d : List Nat} {i : Nat} (h : GiveR p i d p') (hz : ∀ j, d.length + 1 ≤ j → (p.drop i).getD j 0 = 0) : p'.take i = p.take i ∧ (∃ c, val (p'.drop i) + B ^ (d.length + 1) * c = val (p.drop i) + val d) ∧ val (p'.drop i) < B ^ (d.length + 1) := by
  obtain ⟨h1, h2, h3, c, h5⟩ := h
  rw [Nat.add_assoc, Nat.pow_add, Nat.mul_assoc] at h5
  obtain ⟨g1, g2⟩ := seg_eq h1 (fun k hk => h3 k (.inl hk)) h5
  exact ⟨g1, ⟨c, g2⟩, val_lt_zeros (h2.drop i) fun j hj => by
    have := hz j hj
    rw [getD_drop] at this ⊢
    rw [h3 _ (.inr (by omega))]; exact this⟩

/-- A round is done. -/
theorem long_round {V D i : Nat} {p p' q : List Nat} (hv : V = val p + D * B ^ (i + 1) * val (q.drop (i + 1))) (ht : p'.take i = p.take i) (hr : val (p'.drop i) = val (p.drop i) % D) (hi : i < q.length) :
    V = val p' + D * B ^ i * val ((q.set i (val (p.drop i) / D)).drop i) := by
  have h1 := val_split p i
  have h2 := val_split p' i
  rw [ht, hr] at h2
  have d2 := val_drop (q.set i (val (p.drop i) / D)) i
  rw [List.drop_set_of_lt (show i < i + 1 by omega)] at d2
  have d3 : (q.set i (val (p.drop i) / D)).getD i 0 = val (p.drop i) / D := by simp only [List.getD]; rw [List.getElem?_set_self hi]; rfl
  rw [d3] at d2
  have hdm := Nat.div_add_mod (val (p.drop i)) D
  have e1 := congrArg (B ^ i * ·) hdm
  simp only [Nat.mul_add] at e1
  rw [d2, h2, hv, Nat.mul_add, Nat.pow_succ]
  have e2 : D * (B ^ i * B) * val (q.drop (i + 1)) = D * B ^ i * (B * val (q.drop (i + 1))) := by ac_rfl
  have e3 : D * B ^ i * (val (p.drop i) / D) = B ^ i * (D * (val (p.drop i) / D)) := by ac_rfl
  rw [e2, e3]
  omega

set_option maxHeartbeats 4000000 in
theorem c_long (a : List Nat) (b : Nat) (d : List Nat) (h : Heap) (n : Nat) (hb : h b = some (wv a)) (hbn : b < n) (ha : Wd a) (hd : Wd d) (h2 : 2 ≤ d.length) (hla : d.length < a.length) (hlo : a.length < 1000000) (htop : 0 < d.getD (d.length - 1) 0) (hpre : val (a.drop (a.length - d.length)) < val d) :
    HCalls Tryz.prog 84 [.own b 0 a.length 1, encW d] h n (fun v h' n' => ∃ bq q r, v = .own bq 0 q.length 1 ∧ n ≤ bq ∧ bq < n' ∧ q.length = a.length - d.length ∧ Wd q ∧ Wd r ∧ r.length = a.length ∧ h' bq = some (wv q) ∧ h' b = some (wv r) ∧ val q = val a / val d ∧ val r = val a % val d ∧ ∀ j, j < n → j ≠ b → h' j = h j) := by
  refine hcalls_of_AWR (pa := []) (fn := Tryz.f84) (rs := [.tmp 4]) follows_mixed Tryz.func84 rfl rfl (by kernel_rfl) (by kernel_rfl) (by rw [Tryz.ntmps84]; simp) ?_
  have w1 : IntKind.i64.wrap ((a.length : Int) - (d.length : Int)) = ((a.length - d.length : Nat) : Int) := by rw [wrap64_id (by omega) (by omega)]; omega
  have w2 : IntKind.i64.wrap (((a.length - d.length : Nat) : Int) - 1) = ((a.length - d.length : Nat) : Int) - 1 := wrap64_id (by omega) (by omega)
  have hle : ((a.length - d.length : Nat) : Int) ≤ 1099511627776 := by omega
  simp only [go_sem, ↓reduceIte, encW, w1, w2, hle, wv_rep]
  refine AW_while (fun m st => ∃ p q bq, m ≤ a.length - d.length ∧ st.τ 0 = .own b 0 a.length 1 ∧ st.τ 1 = encW d ∧ st.τ 5 = .int .i64 (d.length : Nat) ∧ st.τ 6 = .own bq 0 (a.length - d.length) 1 ∧ st.τ 7 = .int .i64 ((m : Int) - 1) ∧ n ≤ bq ∧ bq < st.n ∧ st.h bq = some (wv q) ∧ st.h b = some (wv p) ∧ (∀ j, j < n → j ≠ b → st.h j = h j) ∧
    p.length = a.length ∧ q.length = a.length - d.length ∧ Wd p ∧ Wd q ∧ val (p.drop m) < val d ∧ val a = val p + val d * B ^ m * val (q.drop m)) (a.length - d.length) ?_ ?_
  · exact ⟨a, List.replicate (a.length - d.length) 0, n + 8, by omega, by simp only [go_sem, ↓reduceIte], by simp only [go_sem, ↓reduceIte, encW], by simp only [go_sem, ↓reduceIte], by simp only [go_sem, ↓reduceIte] <;> rfl, by simp only [go_sem, ↓reduceIte], by omega, by simp only [go_sem, ↓reduceIte] <;> omega, by simp only [go_sem, ↓reduceIte], by simp only [go_sem, ↓reduceIte, upd1_old _ _ _ _ _ hbn, hb], fun j hj _ => by simp only [go_sem, ↓reduceIte, upd1_old _ _ _ _ _ hj], rfl, by simp, ha, .replicate _ (by decide), hpre, by simp [val]⟩
  · rintro m st ⟨p, q, bq, hm, h0, h1, h5, h6, h7, hbq, hbqn, hq, hpb, hfr, hlp, hlq, hp, hwq, hlt, hv⟩ next
    have hne : b ≠ bq := by omega
    rcases Nat.eq_zero_or_pos m with hm0 | hm0
    · subst hm0
      simp only [go_sem, ↓reduceIte, h0, h1, h5, h6, h7, show ((0 : Nat) : Int) - 1 = -1 from rfl, show decide ((0 : Int) ≤ -1) = false from rfl]
      rw [List.drop_zero] at hlt
      rw [List.drop_zero, Nat.pow_zero, Nat.mul_one] at hv
      refine .mk (.own bq 0 q.length 1) (by simp only [go_sem, ↓reduceIte, hlq]) ⟨bq, q, p, rfl, hbq, by simp only [go_sem, ↓reduceIte] <;> omega, hlq, hwq, hp, hlp, by simp only [go_sem, ↓reduceIte, hq], by simp only [go_sem, ↓reduceIte, hpb], ?_, ?_, fun j hj hjb => by simp only [go_sem, ↓reduceIte, hfr j hj hjb]⟩
      · rw [hv, Nat.add_mul_div_left _ _ (by omega), Nat.div_eq_of_lt hlt, Nat.zero_add]
      · rw [hv, Nat.add_mul_mod_self_left, Nat.mod_eq_of_lt hlt]
    · obtain ⟨i, rfl⟩ : ∃ i, m = i + 1 := ⟨m - 1, by omega⟩
      have e1 : ((i + 1 : Nat) : Int) - 1 = (i : Nat) := by omega
      rw [e1] at h7
      have hd0 := dec_true (show (0 : Int) ≤ (i : Nat) by omega)
      obtain ⟨g1, g2, g3, g4⟩ := long_guess (i := i) hp hd h2 htop hlt
      have w3 : IntKind.i64.wrap ((i : Int) + (d.length : Int)) = ((i + d.length : Nat) : Int) := by rw [wrap64_id (by omega) (by omega)]; rfl
      have w4 : IntKind.i64.wrap (((i + d.length : Nat) : Int) - 1) = ((i + (d.length - 1) : Nat) : Int) := by rw [wrap64_id (by omega) (by omega)]; omega
      have w5 : IntKind.i64.wrap (((i + d.length : Nat) : Int) - 2) = ((i + (d.length - 2) : Nat) : Int) := by rw [wrap64_id (by omega) (by omega)]; omega
      have w6 : IntKind.i64.wrap ((d.length : Int) - 1) = ((d.length - 1 : Nat) : Int) := by rw [wrap64_id (by omega) (by omega)]; omega
      have w7 : IntKind.i64.wrap ((d.length : Int) - 2) = ((d.length - 2 : Nat) : Int) := by rw [wrap64_id (by omega) (by omega)]; omega
      have w8 : IntKind.i64.wrap ((i : Int) - 1) = (i : Int) - 1 := wrap64_id (by omega) (by omega)
      have l1 : ((i + d.length : Nat) : Int) < (a.length : Nat) := by omega
      have l2 : ((i + (d.length - 1) : Nat) : Int) < (a.length : Nat) := by omega
      have l3 : ((i + (d.length - 2) : Nat) : Int) < (a.length : Nat) := by omega
      have l4 : ((d.length - 1 : Nat) : Int) < (d.length : Nat) := by omega
      have l5 : ((d.length - 2 : Nat) : Int) < (d.length : Nat) := by omega
      have k1 : i + d.length ≤ p.length := by omega
      have k2 : i + (d.length - 1) ≤ p.length := by omega
      have k3 : i + (d.length - 2) ≤ p.length := by omega
      have v1 := wv_head (a := p) (i := i + d.length) (by omega)
      have v2 := wv_head (a := p) (i := i + (d.length - 1)) (by omega)
      have v3 := wv_head (a := p) (i := i + (d.length - 2)) (by omega)
      have v4 := getD_w (a := d) (i := d.length - 1) (by omega) .undef
      have v5 := getD_w (a := d) (i := d.length - 2) (by omega) .undef
      have b1 := hp.getD (i + d.length)
      have b2 := hp.getD (i + (d.length - 1))
      have b3 := hp.getD (i + (d.length - 2))
      have b4 := hd.getD (d.length - 1)
      have b5 := hd.getD (d.length - 2)
      rw [B_eq] at b1 b2 b3 b4 b5
      have hgs := c_guess _ _ _ _ _ b1 b2 b3 b4 b5 htop
      have hx3 := guessN_le ((p.getD (i + d.length) 0 * 4294967296 + p.getD (i + (d.length - 1)) 0) * 4294967296 + p.getD (i + (d.length - 2)) 0) (d.getD (d.length - 1) 0 * 4294967296 + d.getD (d.length - 2) 0)
      simp only [go_sem, ↓reduceIte, h0, h1, h5, h6, h7, hpb, hd0, encW, w3, w4, w5, w6, w7, l1, l2, l3, l4, l5, k1, k2, k3, v1, v2, v3, v4, v5, wv_length]
      refine callD_p hgs ?_
      generalize guessN ((p.getD (i + d.length) 0 * 4294967296 + p.getD (i + (d.length - 1)) 0) * 4294967296 + p.getD (i + (d.length - 2)) 0) (d.getD (d.length - 1) 0 * 4294967296 + d.getD (d.length - 2) 0) = x at *
      clear hgs v1 v2 v3 v4 v5 b1 b2 b3 b4 b5
      simp only [go_sem, ↓reduceIte, h0, h1, h5, h6, h7, hpb]
      have htk : ∀ H N, H b = some (wv p) → b < N → HCalls Tryz.prog 92 [.own b 0 a.length 1, .int .i64 (i : Nat), encW d, .int .u32 (x : Nat)] H N (fun v h' n' => ∃ w, v = .bool (decide (0 < w)) ∧ ChgW H N b (TakeR p i d x w) h') := fun H N e1 e2 => by
        rw [← hlp]; exact c_take p b i d x H N e1 e2 hp hd (by omega) (by omega) (by omega)
      refine callS_h (htk _ _ (by simp only [go_sem, ↓reduceIte, hpb]) (by simp only [go_sem, ↓reduceIte] <;> omega)) ?_
      rintro v h' n' hn ⟨w, rfl, ⟨p', hp', hR⟩, hfr'⟩
      simp only [go_sem, ↓reduceIte] at hn hfr'
      obtain ⟨t1, t2, t3, t4⟩ := hR.seg g2
      have hst := quot_step (val_lt hd) (by omega) g1 g3 g4 t3 hR.2.2.2.1 t2
      have hlp' : p'.length = a.length := by rw [hR.1, hlp]
      have hq' : h' bq = some (wv q) := by rw [hfr' bq (by omega) (Ne.symm hne), hq]
      have hil : i < q.length := by omega
      have hil' : i + 1 ≤ q.length := hil
      have hiq : ((i : Nat) : Int) < ((a.length - d.length : Nat) : Int) := by omega
      by_cases hw0 : 0 < w
      · have hw1 : w = 1 := by have := hR.2.2.2.1; omega
        obtain ⟨hxe, hT⟩ := hst.2 hw1
        have hx1 : 1 ≤ x := by rw [hxe]; exact Nat.le_add_left 1 _
        have hgv : ∀ H N, H b = some (wv p') → b < N → HCalls Tryz.prog 93 [.own b 0 a.length 1, .int .i64 (i : Nat), encW d] H N (fun v h' n' => v = .tup [] ∧ ChgW H N b (GiveR p' i d) h') := fun H N e1 e2 => by
          rw [← hlp']; exact c_give p' b i d H N e1 e2 hR.2.1 hd (by omega) (by omega)
        have wx : IntKind.u32.wrap ((x : Int) - 1) = ((x - 1 : Nat) : Int) := by rw [show ((1 : Int)) = ((1 : Nat) : Int) from rfl, wu32_sub hx1, Nat.mod_eq_of_lt (Nat.lt_of_le_of_lt (Nat.sub_le x 1) (Nat.lt_of_le_of_lt hx3 (by decide)))]
        simp only [go_sem, ↓reduceIte, h0, h1, h5, h6, h7, dec_true hw0, wx, encW]
        refine callS_h (hgv _ _ (by simp only [go_sem, ↓reduceIte, hp']) (by simp only [go_sem, ↓reduceIte] <;> omega)) ?_
        rintro v h2' n2' hn2 ⟨rfl, ⟨p2, hp2, hG⟩, hfr2⟩
        simp only [go_sem, ↓reduceIte] at hn2 hfr2
        obtain ⟨u1, ⟨c, u2⟩, u3⟩ := hG.seg t4
        have hrr := hT _ c u3 u2
        have hx' : x - 1 = val (p.drop i) / val d := by rw [hxe, Nat.add_sub_cancel]
        have hq2 : h2' bq = some (wv q) := by rw [hfr2 bq (by omega) (Ne.symm hne), hq']
        have hlay := wv_lay (v := x - 1) hil
        simp only [go_sem, ↓reduceIte, h0, h1, h5, h6, h7, hq2, hiq, wv_length, hil', hlay, w8]
        refine next i _ (by omega) ⟨p2, q.set i (x - 1), bq, by omega, by simp only [go_sem, ↓reduceIte, h0], by simp only [go_sem, ↓reduceIte, h1, encW], by simp only [go_sem, ↓reduceIte, h5], by simp only [go_sem, ↓reduceIte, h6], by simp only [go_sem, ↓reduceIte], hbq, by simp only [go_sem, ↓reduceIte] <;> omega, by simp only [go_sem, ↓reduceIte], by simp only [go_sem, ↓reduceIte, hne, hp2], fun j hj hjb => ?_, by rw [hG.1, hlp'], by simp [hlq], hG.2.1, hwq.set _ (by show _ < 4294967296; omega), by rw [hrr]; exact Nat.mod_lt _ (by omega), ?_⟩
        · have : j ≠ bq := by omega
          simp only [go_sem, ↓reduceIte, this]
          rw [hfr2 j (by omega) hjb, hfr' j (by omega) hjb, hfr j hj hjb]
        · rw [hx']
          exact long_round hv (by rw [u1, t1]) hrr hil
      · have hw1 : w = 0 := by omega
        obtain ⟨hxe, hrr⟩ := hst.1 hw1
        have hlay := wv_lay (v := x) hil
        simp only [go_sem, ↓reduceIte, h0, h1, h5, h6, h7, dec_false hw0, hq', hiq, wv_length, hil', hlay, w8]
        refine next i _ (by omega) ⟨p', q.set i x, bq, by omega, by simp only [go_sem, ↓reduceIte, h0], by simp only [go_sem, ↓reduceIte, h1, encW], by simp only [go_sem, ↓reduceIte, h5], by simp only [go_sem, ↓reduceIte, h6], by simp only [go_sem, ↓reduceIte], hbq, by simp only [go_sem, ↓reduceIte] <;> omega, by simp only [go_sem, ↓reduceIte], by simp only [go_sem, ↓reduceIte, hne, hp'], fun j hj hjb => ?_, hlp', by simp [hlq], hR.2.1, hwq.set _ (by show _ < 4294967296; omega), by rw [hrr]; exact Nat.mod_lt _ (by omega), ?_⟩
        · have : j ≠ bq := by omega
          simp only [go_sem, ↓reduceIte, this]
          rw [hfr' j (by omega) hjb, hfr j hj hjb]
        · rw [hxe]
          exact long_round hv t1 hrr hil

end Go.Proofs.YtdbmdaefmlflaaaGreatDoor

set_option linter.unusedVariables false
set_option linter.unusedSimpArgs false
set_option maxRecDepth 10000
namespace Go.Proofs.YtdbmdaefmlflaaaGreatDoor
open Go Go.Ab Go.Num

theorem c_div0 (a b : List Nat) (hb : Wd b) (hlb : b.length < 100000) (h0 : val b = 0) : PCalls Tryz.prog 68 [encW a, encW b] (.tup [.nilsl, .nilsl, .bool false]) := by
  refine pcalls_of_AW (pa := []) (fn := Tryz.f68) (ts := [4, 5, 6]) follows_mixed Tryz.func68 rfl rfl (by kernel_rfl) (by kernel_rfl) (by rw [Tryz.ntmps68]; simp) ?_
  simp only [go_sem, ↓reduceIte]
  refine callS_p (c_norm b hb (by omega)) ?_
  rw [h0, dig_zero]
  simp only [go_sem, ↓reduceIte, encW, cast0]
  exact .mk (by simp only [go_sem, ↓reduceIte])

set_option maxHeartbeats 4000000 in
set_option maxRecDepth 10000 in
theorem c_div (a b : List Nat) (ha : Wd a) (hb : Wd b) (hla : a.length < 100000) (hlb : b.length < 100000) (h0 : val b ≠ 0) : PCalls Tryz.prog 68 [encW a, encW b] (.tup [encW (dig (val a / val b)), encW (dig (val a % val b)), .bool true]) := by
  refine pcalls_of_AW (pa := []) (fn := Tryz.f68) (ts := [4, 5, 6]) follows_mixed Tryz.func68 rfl rfl (by kernel_rfl) (by kernel_rfl) (by rw [Tryz.ntmps68]; simp) ?_
  simp only [go_sem, ↓reduceIte]
  refine callS_p (c_norm b hb (by omega)) ?_
  have hlx := dig_len_val hb
  have nx := nrm_dig (val b)
  have hv : val b = val (dig (val b)) := (val_dig _).symm
  have hne : (dig (val b)).length ≠ 0 := fun h => h0 (dig_len0.1 h)
  rw [hv]
  rw [← hv]
  generalize hX : dig (val b) = x at *
  rw [hv] at h0 ⊢
  clear hX hv
  have hl0 := dec_false (show ¬ ((x.length : Nat) : Int) = 0 by omega)
  simp only [go_sem, ↓reduceIte, encW, beq_int, hl0]
  refine callS_p (c_ncmp a x ha nx.1 (by omega) (by omega)) ?_
  by_cases hlt : val a < val x
  · have hc := dec_true (cmpN_neg.2 hlt)
    simp only [go_sem, ↓reduceIte, encW, hc]
    refine callS_p (c_norm a ha (by omega)) ?_
    simp only [go_sem, ↓reduceIte, encW]
    exact .mk_le (u := .tup [.nilsl, encW (dig (val a)), .bool true]) (by simp only [go_sem, ↓reduceIte, encW]) (by
      rw [Nat.div_eq_of_lt hlt, Nat.mod_eq_of_lt hlt, dig_zero]
      exact AV.le_tup' (.cons (AV.le_nil 1) (.cons (AV.le_refl _) (.cons (AV.le_refl _) .nil))))
  · have hc := dec_false (fun h => hlt (cmpN_neg.1 h))
    by_cases h1 : x.length = 1
    · have h1' := dec_true (show ((x.length : Nat) : Int) = 1 by omega)
      have hl1 : ((0 : Int)) < (x.length : Nat) := by omega
      have hg := getD_w (a := x) (i := 0) (by omega) .undef
      have hx0 := nx.1.getD 0
      rw [B_eq] at hx0
      have hvx : val x = x.getD 0 0 := by
        match x, h1 with
        | [w], _ => simp [val]
      rw [hvx] at h0 hc ⊢
      simp only [go_sem, ↓reduceIte, encW, hc, beq_int, h1', hl1, hg, show (0 : Int).toNat = 0 from rfl]
      refine callS_p (c_qword a _ ha (by omega) hx0 h0) ?_
      have hr : val a % x.getD 0 0 < 18446744073709551616 := Nat.lt_trans (Nat.mod_lt _ (by omega)) (by omega)
      simp only [go_sem, ↓reduceIte, encW, wu64, Nat.mod_eq_of_lt hr]
      refine callS_p (c_of _ hr) ?_
      simp only [go_sem, ↓reduceIte, encW]
      exact .mk (by simp only [go_sem, ↓reduceIte, encW])
    · have h1' := dec_false (show ¬ ((x.length : Nat) : Int) = 1 by omega)
      have hxi := nx.1.getD (x.length - 1)
      rw [B_eq] at hxi
      have htop := nx.2 (fun e => hne (by rw [e]; rfl))
      have w1 : IntKind.i64.wrap ((x.length : Int) - 1) = ((x.length - 1 : Nat) : Int) := by rw [wrap64_id (by omega) (by omega)]; omega
      have hl1 : ((x.length - 1 : Nat) : Int) < (x.length : Nat) := by omega
      have hg := getD_w (a := x) (i := x.length - 1) (by omega) .undef
      have hb32 : blen (x.getD (x.length - 1) 0) ≤ 32 := blen_le.2 hxi
      simp only [go_sem, ↓reduceIte, encW, hc, beq_int, h1', w1, hl1, hg]
      refine callS_p (c_llen _ hxi) ?_
      obtain ⟨s, hs⟩ : ∃ s, s = 32 - blen (x.getD (x.length - 1) 0) := ⟨_, rfl⟩
      have w2 : IntKind.i64.wrap (32 - ((blen (x.getD (x.length - 1) 0) : Nat) : Int)) = (s : Nat) := by rw [wrap64_id (by omega) (by omega)]; omega
      have hs32 : s ≤ 32 := by omega
      clear hs
      have hB32 : (2 : Nat) ^ s < B ^ 2 := by rw [Bpow]; exact Nat.pow_lt_pow_right (by omega) (by omega)
      have hal : (dig (val a * 2 ^ s)).length ≤ a.length + 2 := by
        apply dig_len_le.2
        rw [Nat.pow_add]
        exact Nat.mul_lt_mul'' (val_lt ha) hB32
      have hxl : (dig (val x * 2 ^ s)).length ≤ x.length + 2 := by
        apply dig_len_le.2
        rw [Nat.pow_add]
        exact Nat.mul_lt_mul'' (val_lt nx.1) hB32
      have hps : 0 < 2 ^ s := Nat.pow_pos (show 0 < 2 by decide)
      have hle : val x * 2 ^ s ≤ val a * 2 ^ s := Nat.mul_le_mul_right _ (by omega)
      have hlen := dig_len_mono hle
      have hxge : x.length ≤ (dig (val x * 2 ^ s)).length := by
        have h1 : val x ≤ val x * 2 ^ s := Nat.le_mul_of_pos_right _ hps
        have h2 := dig_len_mono h1
        rw [dig_val nx] at h2; exact h2
      have hal2 : (dig (val a * 2 ^ s)).length ≤ 100002 := by omega
      clear hB32 hal hxl
      have hup1 := fun H N => c_up_h a s H N ha (show a.length < 900000 by omega) (show s ≤ 4096 by omega)
      have hup2 := c_up x s nx.1 (show x.length < 900000 by omega) (show s ≤ 4096 by omega)
      have hy := nrm_dig (val x * 2 ^ s)
      have hyv := val_dig (val x * 2 ^ s)
      have hzv := val_dig (val a * 2 ^ s)
      have hzw := wd_dig (val a * 2 ^ s)
      generalize dig (val x * 2 ^ s) = y at *
      generalize dig (val a * 2 ^ s) = z at *
      simp only [go_sem, ↓reduceIte, encW, w2]
      refine callS_h (hup1 _ _) ?_
      intro v h' n' hn hnew
      obtain ⟨bl, hv', hbl1, hbl2, hbl, hkeep⟩ := hnew.ex
      subst hv'
      clear hnew
      simp only [go_sem, ↓reduceIte] at hbl1 hn
      have e31 : bl ≠ 31 := by omega
      have e32 : bl ≠ 32 := by omega
      have h38 : z.length ≤ 274877906944 := by omega
      have hll : (wv z).length = z.length := wv_length _
      simp only [go_sem, ↓reduceIte, encW, hbl, h38, hll, e31, e32, e31.symm, e32.symm, List.take_of_length_le (Nat.le_of_eq hll)]
      refine callS_p hup2 ?_
      simp only [go_sem, ↓reduceIte, encW]
      have hyne : y ≠ [] := fun e => by have := hxge; rw [e, List.length_nil] at this; omega
      have hw0 : Wd (z ++ [0]) := hzw.append (.cons (by decide) .nil)
      have hv0 : val (z ++ [0]) = val a * 2 ^ s := by rw [val_append, hzv]; simp [val]
      have hl0' : (z ++ [0]).length = z.length + 1 := by simp
      have hlg : ∀ b H N, H b = some (wv (z ++ [0])) → b < N → HCalls Tryz.prog 84 [.own b 0 (z.length + 1) 1, encW y] H N (fun v h' n' => ∃ bq q r, v = .own bq 0 q.length 1 ∧ N ≤ bq ∧ bq < n' ∧ q.length = (z ++ [0]).length - y.length ∧ Wd q ∧ Wd r ∧ r.length = (z ++ [0]).length ∧ h' bq = some (wv q) ∧ h' b = some (wv r) ∧ val q = val (z ++ [0]) / val y ∧ val r = val (z ++ [0]) % val y ∧ ∀ j, j < N → j ≠ b → h' j = H j) := fun b H N e1 e2 => by
        rw [← hl0']
        refine c_long (z ++ [0]) b y H N e1 e2 hw0 hy.1 (by omega) (by omega) (by omega) (Nat.pos_of_ne_zero (hy.2 hyne)) ?_
        refine Nat.lt_of_lt_of_le (val_lt_zeros (j := y.length - 1) (hw0.drop _) fun k hk => ?_) (nrm_ge hy hyne)
        rw [getD_drop, hl0']
        by_cases hkz : z.length + 1 - y.length + k = z.length
        · rw [hkz]; simp [List.getD]
        · exact getD_of_ge (by rw [hl0']; omega)
      refine callS_h (hlg _ _ _ (by simp only [go_sem, ↓reduceIte, wv_append] <;> rfl) (by simp only [go_sem, ↓reduceIte] <;> omega)) ?_
      rintro v h2 n2 hn2 ⟨bq, q, r, rfl, hbq1, hbq2, hql, hqw, hrw, hrl, hbqv, hbrv, hqe, hre, hfr⟩
      rw [hv0, hyv] at hqe hre
      rw [Nat.mul_div_mul_right _ _ hps] at hqe
      rw [Nat.mul_mod_mul_right] at hre
      simp only [go_sem, ↓reduceIte] at hbq1 hn2
      have f32 : bq ≠ 32 := by omega
      simp only [go_sem, ↓reduceIte]
      refine callS_q (c_norm q hqw (by omega)) (args_words hbqv rfl) rfl ?_
      rw [hqe]
      simp only [go_sem, ↓reduceIte, encW]
      refine callS_q (c_down r s hrw (by omega) (by omega)) (args_wi (by simp only [go_sem, ↓reduceIte, f32, f32.symm, hbrv]) (by omega)) rfl ?_
      rw [hre, Nat.mul_div_cancel _ hps]
      simp only [go_sem, ↓reduceIte, encW]
      exact .mk (by simp only [go_sem, ↓reduceIte, encW])

end Go.Proofs.YtdbmdaefmlflaaaGreatDoor

set_option linter.unusedVariables false
set_option linter.unusedSimpArgs false
set_option maxRecDepth 10000
namespace Go.Proofs.YtdbmdaefmlflaaaGreatDoor
open Go Go.Ab Go.Num

set_option maxHeartbeats 1000000 in
theorem c_nsmall (a : List Nat) (ha : Wd a) (hl : a.length < 1000000) (hv : val a < 18446744073709551616) : PCalls Tryz.prog 80 [encW a] (.tup [.int .u64 (val a : Nat), .bool true]) := by
  refine pcalls_of_AW (pa := []) (fn := Tryz.f80) (ts := [2, 3]) follows_mixed Tryz.func80 rfl rfl (by kernel_rfl) (by kernel_rfl) (by rw [Tryz.ntmps80]; simp) ?_
  simp only [go_sem, ↓reduceIte]
  refine callS_p (c_trim a hl) ?_
  rw [encW_dig ha]
  have hlen : (dig (val a)).length ≤ 2 := dig_len_le.2 (by rw [Bpow]; exact hv)
  have hw := wd_dig (val a)
  have hvv := val_dig (val a)
  generalize dig (val a) = x at *
  rw [← hvv]
  have h2 := dec_false (show ¬ (2 : Int) < (x.length : Nat) by omega)
  simp only [go_sem, ↓reduceIte, encW, h2, AW_loop]
  match x, hlen, hw with
  | [], _, _ =>
    simp only [go_sem, ↓reduceIte, cast0]
    exact .mk (by simp only [go_sem, ↓reduceIte, val_nil] <;> rfl)
  | [w], _, hw =>
    have hw0 := hw w (by simp)
    rw [B_eq] at hw0
    have hm : w % 18446744073709551616 = w := Nat.mod_eq_of_lt (by omega)
    have ho : orI .u64 0 (w : Nat) = (w : Nat) := by rw [show (0 : Int) = ((0 : Nat) : Int) from rfl, or_u64 (by omega) (by omega), Nat.zero_or]
    simp only [go_sem, ↓reduceIte, cast1, wu64, hm, show (32 : Int) * 0 = 0 from rfl, show IntKind.i64.wrap 0 = 0 from wrap64_id (by omega) (by omega), show min (0 : Nat) 64 = 0 from rfl, show (2 : Int) ^ 0 = 1 from rfl, Int.mul_one, ho, show (0 : Int).toNat = 0 from rfl]
    rw [AW_inLoop]
    simp only [go_sem, ↓reduceIte, cast1, w01]
    exact .mk (by simp only [go_sem, ↓reduceIte, val_cons, val_nil] <;> rfl)
  | [w, z], _, hw =>
    have hw0 := hw w (by simp)
    have hz0 := hw z (by simp)
    rw [B_eq] at hw0 hz0
    have hm : w % 18446744073709551616 = w := Nat.mod_eq_of_lt (by omega)
    have hmz : z % 18446744073709551616 = z := Nat.mod_eq_of_lt (by omega)
    have hmz2 : z * 4294967296 % 18446744073709551616 = z * 4294967296 := Nat.mod_eq_of_lt (by omega)
    have ho : orI .u64 0 (w : Nat) = (w : Nat) := by rw [show (0 : Int) = ((0 : Nat) : Int) from rfl, or_u64 (by omega) (by omega), Nat.zero_or]
    have ho2 : orI .u64 (w : Nat) ((z * 4294967296 : Nat) : Int) = (w + z * 4294967296 : Nat) := by rw [or_u64 (by omega) (by omega), Nat.or_comm, or_hi z 32 hw0, Nat.add_comm]
    simp only [go_sem, ↓reduceIte, cast2, wu64, hm, show (32 : Int) * 0 = 0 from rfl, show IntKind.i64.wrap 0 = 0 from wrap64_id (by omega) (by omega), show min (0 : Nat) 64 = 0 from rfl, show (2 : Int) ^ 0 = 1 from rfl, Int.mul_one, ho, show (0 : Int).toNat = 0 from rfl]
    rw [AW_inLoop]
    simp only [go_sem, ↓reduceIte, cast2, w01, wu64, hmz, show (32 : Int) * 1 = 32 from rfl, show IntKind.i64.wrap 32 = 32 from wrap64_id (by omega) (by omega), toNat32, min32_64, mul32, hmz2, ho2, show (1 : Int).toNat = 1 from rfl]
    rw [AW_inLoop]
    simp only [go_sem, ↓reduceIte, cast2, w12]
    exact .mk (by simp only [go_sem, ↓reduceIte, val_cons, val_nil, B_eq, Nat.mul_zero, Nat.add_zero, Nat.mul_comm])

theorem c_small (x y : Nat) (hx : x < 18446744073709551616) (hy : y < 18446744073709551616) : PCalls Tryz.prog 81 [.int .u64 (x : Nat), .int .u64 (y : Nat)] (.int .u64 (Nat.gcd x y : Nat)) := by
  refine pcalls_of_AW (pa := []) (fn := Tryz.f81) (ts := [4]) follows_mixed Tryz.func81 rfl rfl (by kernel_rfl) (by kernel_rfl) (by rw [Tryz.ntmps81]; simp) ?_
  simp only [go_sem, ↓reduceIte]
  refine AW_while (fun m st => ∃ a, m < 18446744073709551616 ∧ a < 18446744073709551616 ∧ Nat.gcd a m = Nat.gcd x y ∧ st.τ 0 = .int .u64 (a : Nat) ∧ st.τ 1 = .int .u64 (m : Nat)) y ?_ ?_
  · exact ⟨x, hy, hx, rfl, by simp only [go_sem, ↓reduceIte], by simp only [go_sem, ↓reduceIte]⟩
  · rintro m st ⟨a, hm, ha, hg, h0, h1⟩ next
    rcases Nat.eq_zero_or_pos m with hm0 | hm0
    · subst hm0
      rw [Nat.gcd_zero_right] at hg
      simp only [go_sem, ↓reduceIte, h0, h1, cast0]
      exact .mk (by simp only [go_sem, ↓reduceIte, hg])
    · have hne : (((m : Nat) : Int) != 0) = true := by simp; omega
      have hne' : (((m : Nat) : Int) = 0) = False := eq_false (by omega)
      have hlt := Nat.mod_lt a hm0
      simp only [go_sem, ↓reduceIte, h0, h1, hne, hne', tmod_nat]
      exact next (a % m) _ hlt ⟨m, by omega, hm, by rw [Nat.gcd_comm m, ← Nat.gcd_rec, Nat.gcd_comm]; exact hg, by simp only [go_sem, ↓reduceIte], by simp only [go_sem, ↓reduceIte]⟩

set_option maxHeartbeats 2000000 in
theorem c_gcd (a b : List Nat) (ha : Wd a) (hb : Wd b) (hla : a.length < 100000) (hlb : b.length < 100000) : PCalls Tryz.prog 66 [encW a, encW b] (encW (dig (Nat.gcd (val a) (val b)))) := by
  refine pcalls_of_AW (pa := []) (fn := Tryz.f66) (ts := [4]) follows_mixed Tryz.func66 rfl rfl (by kernel_rfl) (by kernel_rfl) (by rw [Tryz.ntmps66]; simp) ?_
  simp only [go_sem, ↓reduceIte]
  refine callS_p (c_norm a ha (by omega)) ?_
  simp only [go_sem, ↓reduceIte]
  refine callS_p (c_norm b hb (by omega)) ?_
  simp only [go_sem, ↓reduceIte, encW]
  have hlx := dig_len_val ha
  have hly := dig_len_val hb
  refine AW_while (fun m st => ∃ x, (dig x).length < 100000 ∧ (dig m).length < 100000 ∧ Nat.gcd x m = Nat.gcd (val a) (val b) ∧ st.τ 0 = encW (dig x) ∧ st.τ 1 = encW (dig m)) (val b) ?_ ?_
  · exact ⟨val a, by omega, by omega, rfl, by simp only [go_sem, ↓reduceIte, encW], by simp only [go_sem, ↓reduceIte, encW]⟩
  · rintro m st ⟨x, hx, hm, hg, h0, h1⟩ next
    by_cases hl2 : 2 < (dig m).length
    · have hl2' := dec_true (show (2 : Int) < ((dig m).length : Nat) by omega)
      have hm0 : m ≠ 0 := fun e => by rw [e, dig_zero] at hl2; simp at hl2
      simp only [go_sem, ↓reduceIte, h0, h1, encW, hl2']
      have hd := c_div (dig x) (dig m) (wd_dig _) (wd_dig _) hx hm (by rw [val_dig]; exact hm0)
      rw [val_dig, val_dig] at hd
      refine callS_p hd ?_
      simp only [go_sem, ↓reduceIte, h0, h1, encW]
      have hlt := Nat.mod_lt x (Nat.pos_of_ne_zero hm0)
      exact next (x % m) _ hlt ⟨m, hm, by have := dig_len_mono (Nat.le_of_lt hlt); omega, by rw [Nat.gcd_comm m, ← Nat.gcd_rec, Nat.gcd_comm]; exact hg, by simp only [go_sem, ↓reduceIte, encW], by simp only [go_sem, ↓reduceIte, encW]⟩
    · have hl2' := dec_false (show ¬ (2 : Int) < ((dig m).length : Nat) by omega)
      by_cases hm0 : m = 0
      · subst hm0
        rw [Nat.gcd_zero_right] at hg
        rw [dig_zero] at h1 hl2'
        simp only [go_sem, ↓reduceIte, h0, h1, encW, cast0, show decide ((2 : Int) < 0) = false from rfl]
        exact .mk (by simp only [go_sem, ↓reduceIte, encW, hg])
      · have hz := dec_false (show ¬ (((dig m).length : Nat) : Int) = 0 from fun e => hm0 (dig_len0.1 (by omega)))
        have hm64 : m < 18446744073709551616 := by
          have := lt_dig m
          have h2 : B ^ (dig m).length ≤ B ^ 2 := Nat.pow_le_pow_right B_pos (by omega)
          rw [Bpow 2] at h2
          exact Nat.lt_of_lt_of_le this h2
        simp only [go_sem, ↓reduceIte, h0, h1, encW, hl2', beq_int, hz]
        have hd := c_div (dig x) (dig m) (wd_dig _) (wd_dig _) hx hm (by rw [val_dig]; exact hm0)
        rw [val_dig, val_dig] at hd
        refine callS_p hd ?_
        have hlt := Nat.mod_lt x (Nat.pos_of_ne_zero hm0)
        have hs1 := c_nsmall (dig m) (wd_dig _) (by omega) (by rw [val_dig]; exact hm64)
        have hs2 := c_nsmall (dig (x % m)) (wd_dig _) (by have := dig_len_mono (Nat.le_of_lt hlt); omega) (by rw [val_dig]; omega)
        rw [val_dig] at hs1 hs2
        simp only [go_sem, ↓reduceIte, h0, h1, encW]
        refine callS_p hs1 ?_
        simp only [go_sem, ↓reduceIte, h0, h1, encW]
        refine callS_p hs2 ?_
        simp only [go_sem, ↓reduceIte, h0, h1, encW]
        refine callS_p (c_small m (x % m) hm64 (by omega)) ?_
        have hgg : Nat.gcd m (x % m) = Nat.gcd (val a) (val b) := by rw [Nat.gcd_comm m, ← Nat.gcd_rec, Nat.gcd_comm]; exact hg
        have hg64 : Nat.gcd m (x % m) < 18446744073709551616 := Nat.lt_of_le_of_lt (Nat.gcd_le_left _ (Nat.pos_of_ne_zero hm0)) hm64
        simp only [go_sem, ↓reduceIte, h0, h1, encW]
        refine callS_p (c_of _ hg64) ?_
        rw [hgg]
        simp only [go_sem, ↓reduceIte, encW]
        exact .mk (by simp only [go_sem, ↓reduceIte, encW])

theorem c_one (n : Nat) (hl : (dig n).length < 1000000) : PCalls Tryz.prog 67 [encW (dig n)] (.bool (decide (n = 1))) := by
  refine pcalls_of_AW (pa := []) (fn := Tryz.f67) (ts := [2]) follows_mixed Tryz.func67 rfl rfl (by kernel_rfl) (by kernel_rfl) (by rw [Tryz.ntmps67]; simp) ?_
  by_cases h : (dig n).length = 1
  · have h' := dec_true (show (((dig n).length : Nat) : Int) = 1 by omega)
    have hl0 : (0 : Int) < ((dig n).length : Nat) := by omega
    have hg := getD_w (a := dig n) (i := 0) (by omega) .undef
    have hv : (dig n).getD 0 0 = n := by
      have := val_dig n
      match hd : dig n, h with
      | [w], _ => rw [hd] at this; simp [val] at this; simpa using this
    rw [hv] at hg
    have he : (((n : Nat) : Int) = 1) = (n = 1) := propext (by omega)
    simp only [go_sem, ↓reduceIte, encW, beq_int, h', hl0, show (0 : Int).toNat = 0 from rfl, hg, he]
    exact .mk (by simp only [go_sem, ↓reduceIte])
  · have h' := dec_false (show ¬ (((dig n).length : Nat) : Int) = 1 by omega)
    have hn : ¬ n = 1 := fun e => h (by rw [e, dig_one (by omega) (by decide)]; rfl)
    simp only [go_sem, ↓reduceIte, encW, beq_int, h']
    exact .mk (by simp only [go_sem, ↓reduceIte, dec_false hn])

set_option maxHeartbeats 2000000 in
theorem c_cancel2 (a b : List Nat) (ha : Wd a) (hb : Wd b) (hla : a.length < 100000) (hlb : b.length < 100000) (h0 : val b ≠ 0) :
    PCalls Tryz.prog 51 [encW a, encW b] (.tup [encW (dig (val a / Nat.gcd (val a) (val b))), encW (dig (val b / Nat.gcd (val a) (val b)))]) := by
  refine pcalls_of_AW (pa := []) (fn := Tryz.f51) (ts := [4, 5]) follows_mixed Tryz.func51 rfl rfl (by kernel_rfl) (by kernel_rfl) (by rw [Tryz.ntmps51]; simp) ?_
  simp only [go_sem, ↓reduceIte]
  refine callS_p (c_gcd a b ha hb hla hlb) ?_
  have hg0 : Nat.gcd (val a) (val b) ≠ 0 := fun e => h0 (Nat.gcd_eq_zero_iff.1 e).2
  have hgl : (dig (Nat.gcd (val a) (val b))).length < 100000 := by
    have := dig_len_mono (Nat.gcd_le_right (val a) (Nat.pos_of_ne_zero h0))
    have := dig_len_val hb
    omega
  generalize hg : Nat.gcd (val a) (val b) = g at *
  have hz := dec_false (show ¬ (((dig g).length : Nat) : Int) = 0 from fun e => hg0 (dig_len0.1 (by omega)))
  simp only [go_sem, ↓reduceIte, encW, beq_int, hz]
  refine callS_p (c_one g (by omega)) ?_
  by_cases h1 : g = 1
  · subst h1
    simp only [go_sem, ↓reduceIte, encW]
    refine callS_p (c_norm a ha (by omega)) ?_
    simp only [go_sem, ↓reduceIte, encW]
    refine callS_p (c_norm b hb (by omega)) ?_
    simp only [go_sem, ↓reduceIte, encW]
    exact .mk (by simp only [go_sem, ↓reduceIte, encW, Nat.div_one])
  · have hd1 := c_div a (dig g) ha (wd_dig _) hla hgl (by rw [val_dig]; exact hg0)
    have hd2 := c_div b (dig g) hb (wd_dig _) hlb hgl (by rw [val_dig]; exact hg0)
    rw [val_dig] at hd1 hd2
    simp only [go_sem, ↓reduceIte, encW, dec_false h1]
    refine callS_p hd1 ?_
    simp only [go_sem, ↓reduceIte, encW]
    refine callS_p hd2 ?_
    simp only [go_sem, ↓reduceIte, encW]
    exact .mk (by simp only [go_sem, ↓reduceIte, encW])

end Go.Proofs.YtdbmdaefmlflaaaGreatDoor

set_option linter.unusedVariables false
set_option linter.unusedSimpArgs false
set_option maxRecDepth 10000
namespace Go.Num
open Go.Ab

/-- A number with a sign. -/
def sg (neg : Bool) (m : Nat) : Int := if neg then -(m : Int) else (m : Int)
theorem sg_true (m : Nat) : sg true m = -(m : Int) := rfl
theorem sg_false (m : Nat) : sg false m = (m : Int) := rfl
theorem sg_natAbs (neg : Bool) (m : Nat) : (sg neg m).natAbs = m := by cases neg <;> simp [sg]
theorem sg_neg (neg : Bool) (m : Nat) : decide (sg neg m < 0) = (neg && decide (0 < m)) := by
  cases neg
  · rw [sg_false, Bool.false_and]; exact decide_eq_false (by omega)
  · rw [sg_true, Bool.true_and]
    by_cases h : 0 < m
    · rw [decide_eq_true h]; exact decide_eq_true (by omega)
    · rw [decide_eq_false h]; exact decide_eq_false (by omega)
theorem sg_self (z : Int) : sg (decide (z < 0)) z.natAbs = z := by
  by_cases h : z < 0
  · rw [decide_eq_true h, sg_true]; omega
  · rw [decide_eq_false h, sg_false]; omega
theorem sg_zero (neg : Bool) : sg neg 0 = 0 := by cases neg <;> rfl
theorem sg_eq_zero {neg : Bool} {m : Nat} : sg neg m = 0 ↔ m = 0 := by cases neg <;> simp [sg]
theorem sg_mul (n m : Bool) (a b : Nat) : sg n a * sg m b = sg (n != m) (a * b) := by cases n <;> cases m <;> simp [sg, Int.neg_mul, Int.mul_neg]
theorem sg_not (n : Bool) (a : Nat) : sg (!n) a = -sg n a := by cases n <;> simp [sg]

/-- A whole number as it stands; the right one of a value. -/
def encH (neg : Bool) (a : List Nat) : AV := .agg [.bool neg, encW a]
def encZ (z : Int) : AV := .agg [.bool (decide (z < 0)), encW (dig z.natAbs)]
theorem encZ_sg (neg : Bool) (m : Nat) : encZ (sg neg m) = .agg [.bool (neg && decide (0 < m)), encW (dig m)] := by rw [encZ, sg_neg, sg_natAbs]
theorem encZ_H (z : Int) : encZ z = encH (decide (z < 0)) (dig z.natAbs) := rfl

/-- A fraction as it stands. -/
structure Fr where
  neg : Bool
  n : List Nat
  d : List Nat
def encR (f : Fr) : AV := .agg [.bool f.neg, encW f.n, encW f.d]
/-- Its value: 0, if its lower number is 0. -/
def rv (f : Fr) : Rat := mkRat (sg f.neg (val f.n)) (val f.d)
/-- The right fraction of a value. -/
def cq (q : Rat) : Fr := ⟨decide (q.num < 0), dig q.num.natAbs, dig q.den⟩
def encQ (q : Rat) : AV := encR (cq q)
theorem rv_cq (q : Rat) : rv (cq q) = q := by
  simp only [rv, cq, val_dig, sg_self]
  exact Rat.mkRat_self q
/-- Its words, and not too many of them. -/
def okR (k : Nat) (f : Fr) : Prop := Wd f.n ∧ Wd f.d ∧ f.n.length ≤ k ∧ f.d.length ≤ k
theorem okR.mono {k l : Nat} {f : Fr} (h : okR k f) (hl : k ≤ l) : okR l f := ⟨h.1, h.2.1, Nat.le_trans h.2.2.1 hl, Nat.le_trans h.2.2.2 hl⟩
/-- How long a value's numbers are, in words. -/
def qw (q : Rat) : Nat := max (dig q.num.natAbs).length (dig q.den).length
theorem okR_cq {q : Rat} {k : Nat} (h : qw q ≤ k) : okR k (cq q) := ⟨wd_dig _, wd_dig _, by unfold qw at h; simp only [cq]; omega, by unfold qw at h; simp only [cq]; omega⟩

theorem mkRat_num_abs (n : Int) {d : Nat} (hd : d ≠ 0) : (mkRat n d).num.natAbs = n.natAbs / Nat.gcd n.natAbs d := by
  rw [Rat.num_mkRat, if_neg hd, Nat.gcd_comm, Int.natAbs_ediv_of_dvd]
  · rfl
  · rw [Int.ofNat_dvd_left]; exact Nat.gcd_dvd_left _ _
theorem mkRat_den' (n : Int) {d : Nat} (hd : d ≠ 0) : (mkRat n d).den = d / Nat.gcd n.natAbs d := by
  rw [Rat.den_mkRat, if_neg hd, Nat.gcd_comm]
theorem mkRat_num_neg (n : Int) {d : Nat} (hd : d ≠ 0) : ((mkRat n d).num < 0) ↔ n < 0 := by
  have h := Rat.num_mkRat n d
  rw [if_neg hd] at h
  rw [h]
  have hg : 0 < d.gcd n.natAbs := Nat.gcd_pos_of_pos_left _ (Nat.pos_of_ne_zero hd)
  have hdvd : ((d.gcd n.natAbs : Nat) : Int) ∣ n := by rw [Int.ofNat_dvd_left]; exact Nat.gcd_dvd_right _ _
  obtain ⟨k, hk⟩ := hdvd
  generalize d.gcd n.natAbs = g at *
  rw [hk, Int.mul_ediv_cancel_left _ (by omega)]
  constructor
  · intro h; exact Int.mul_neg_of_pos_of_neg (by omega) h
  · intro h
    rcases Int.lt_or_le k 0 with h1 | h1
    · exact h1
    · have := Int.mul_nonneg (show (0 : Int) ≤ g by omega) h1; omega
theorem encQ_mk (n : Int) {d : Nat} (hd : d ≠ 0) : encQ (mkRat n d) = .agg [.bool (decide (n < 0)), encW (dig (n.natAbs / Nat.gcd n.natAbs d)), encW (dig (d / Nat.gcd n.natAbs d))] := by
  simp only [encQ, encR, cq, mkRat_num_abs n hd, mkRat_den' n hd, mkRat_num_neg n hd]
theorem qw_mk (n : Int) (d : Nat) {k : Nat} (hn : n.natAbs < B ^ k) (hd : d < B ^ k) (hk : 1 ≤ k) : qw (mkRat n d) ≤ k := by
  unfold qw
  by_cases h0 : d = 0
  · subst h0
    rw [Rat.mkRat_zero]
    have e1 : dig (0 : Rat).num.natAbs = [] := dig_nil.2 rfl
    have e2 : dig (0 : Rat).den = [1] := dig_one (by decide) (by decide)
    rw [e1, e2]; simpa using hk
  · rw [mkRat_num_abs n h0, mkRat_den' n h0]
    exact Nat.max_le.2 ⟨dig_len_le.2 (Nat.lt_of_le_of_lt (Nat.div_le_self _ _) hn), dig_len_le.2 (Nat.lt_of_le_of_lt (Nat.div_le_self _ _) hd)⟩
theorem rv_lt {k : Nat} {f : Fr} (h : okR k f) : (sg f.neg (val f.n)).natAbs < B ^ k ∧ val f.d < B ^ k := by
  rw [sg_natAbs]
  exact ⟨Nat.lt_of_lt_of_le (val_lt h.1) (Nat.pow_le_pow_right B_pos h.2.2.1), Nat.lt_of_lt_of_le (val_lt h.2.1) (Nat.pow_le_pow_right B_pos h.2.2.2)⟩
theorem qw_rv {k : Nat} {f : Fr} (h : okR k f) (hk : 1 ≤ k) : qw (rv f) ≤ k := qw_mk _ _ (rv_lt h).1 (rv_lt h).2 hk
theorem lt_qw {q : Rat} {k : Nat} (h : qw q ≤ k) : q.num.natAbs < B ^ k ∧ q.den < B ^ k := by
  unfold qw at h
  exact ⟨dig_len_le.1 (by omega), dig_len_le.1 (by omega)⟩
theorem qw_zero : qw 0 = 1 := by
  have e1 : dig (0 : Rat).num.natAbs = [] := dig_nil.2 rfl
  have e2 : dig (0 : Rat).den = [1] := dig_one (by decide) (by decide)
  unfold qw; rw [e1, e2]; rfl
theorem qw_pos (q : Rat) : 1 ≤ qw q := by
  unfold qw
  have : (dig q.den).length ≠ 0 := fun h => q.den_nz (dig_len0.1 h)
  omega

/-! ### How long the results are -/
theorem qw_add (a b : Rat) : qw (a + b) ≤ qw a + qw b + 1 := by
  rw [Rat.add_def']
  have ha := lt_qw (Nat.le_refl (qw a))
  have hb := lt_qw (Nat.le_refl (qw b))
  refine qw_mk _ _ ?_ ?_ (by omega)
  · have h1 : (a.num * b.den + b.num * a.den).natAbs ≤ a.num.natAbs * b.den + b.num.natAbs * a.den := by
      refine Nat.le_trans (Int.natAbs_add_le _ _) ?_
      rw [Int.natAbs_mul, Int.natAbs_mul, Int.natAbs_natCast, Int.natAbs_natCast]; exact Nat.le_refl _
    have h2 : a.num.natAbs * b.den < B ^ qw a * B ^ qw b := Nat.mul_lt_mul'' ha.1 hb.2
    have h3 : b.num.natAbs * a.den < B ^ qw b * B ^ qw a := Nat.mul_lt_mul'' hb.1 ha.2
    rw [Nat.pow_succ, Nat.pow_add]
    rw [Nat.mul_comm (B ^ qw b)] at h3
    have h4 : B ^ qw a * B ^ qw b * 2 ≤ B ^ qw a * B ^ qw b * B := Nat.mul_le_mul_left _ B_two
    omega
  · have h2 : a.den * b.den < B ^ qw a * B ^ qw b := Nat.mul_lt_mul'' ha.2 hb.2
    rw [Nat.pow_succ, Nat.pow_add]
    have h4 : B ^ qw a * B ^ qw b * 2 ≤ B ^ qw a * B ^ qw b * B := Nat.mul_le_mul_left _ B_two
    omega
theorem qw_mul (a b : Rat) : qw (a * b) ≤ qw a + qw b := by
  rw [Rat.mul_def']
  have ha := lt_qw (Nat.le_refl (qw a))
  have hb := lt_qw (Nat.le_refl (qw b))
  have := qw_pos a
  refine qw_mk _ _ ?_ ?_ (by omega)
  · rw [Int.natAbs_mul, Nat.pow_add]; exact Nat.mul_lt_mul'' ha.1 hb.1
  · rw [Nat.pow_add]; exact Nat.mul_lt_mul'' ha.2 hb.2
theorem qw_neg (a : Rat) : qw (-a) = qw a := by unfold qw; rw [Rat.neg_num, Rat.neg_den, Int.natAbs_neg]
theorem qw_sub (a b : Rat) : qw (a - b) ≤ qw a + qw b + 1 := by rw [Rat.sub_eq_add_neg]; have := qw_add a (-b); rwa [qw_neg] at this
theorem qw_inv (a : Rat) : qw a⁻¹ ≤ qw a := by
  unfold qw
  rw [Rat.num_inv, Rat.den_inv]
  by_cases h : a.num = 0
  · rw [if_pos h, h]
    have : dig 1 = [1] := dig_one (by decide) (by decide)
    have h2 : (dig a.den).length ≠ 0 := fun h => a.den_nz (dig_len0.1 h)
    rw [this]
    simp [dig_zero]; omega
  · rw [if_neg h]
    have : (a.num.sign * (a.den : Int)).natAbs = a.den := by
      rw [Int.natAbs_mul, Int.natAbs_sign, if_neg h, Nat.one_mul, Int.natAbs_natCast]
    rw [this]; omega
theorem qw_div (a b : Rat) : qw (a / b) ≤ qw a + qw b := by rw [Rat.div_def]; have := qw_mul a b⁻¹; have := qw_inv b; omega
theorem qw_pow (a : Rat) (n : Nat) : qw (a ^ n) ≤ max 1 (n * qw a) := by
  induction n with
  | zero => rw [Rat.pow_zero]; have : qw 1 = 1 := by
              unfold qw
              have e1 : dig (1 : Rat).num.natAbs = [1] := dig_one (by decide) (by decide)
              have e2 : dig (1 : Rat).den = [1] := dig_one (by decide) (by decide)
              rw [e1, e2]; rfl
            omega
  | succ n ih =>
    rw [Rat.pow_succ]
    have := qw_mul (a ^ n) a
    have := qw_pos a
    rw [Nat.succ_mul]
    rcases Nat.eq_zero_or_pos n with h | h
    · subst h
      rw [Rat.pow_zero, Rat.one_mul]
      omega
    · have : 1 * 1 ≤ n * qw a := Nat.mul_le_mul h (qw_pos a)
      omega
end Go.Num

set_option linter.unusedVariables false
set_option linter.unusedSimpArgs false
set_option maxRecDepth 10000
namespace Go.Proofs.YtdbmdaefmlflaaaGreatDoor
open Go Go.Ab Go.Num

theorem c_signed (neg : Bool) (m : Nat) : PCalls Tryz.prog 30 [.bool neg, encW (dig m)] (encZ (sg neg m)) := by
  rw [encZ_sg]
  refine pcalls_of_AWR (pa := []) (fn := Tryz.f30) (rs := [.cell 4 40]) follows_mixed Tryz.func30 rfl rfl (by kernel_rfl) (by kernel_rfl) (by rw [Tryz.ntmps30]; simp) ?_
  cases neg with
  | true =>
    have hd : decide ((0 : Int) < ((dig m).length : Nat)) = decide (0 < m) := by
      by_cases h : 0 < m
      · rw [decide_eq_true h]; exact decide_eq_true (by have : (dig m).length ≠ 0 := fun e => by rw [dig_len0] at e; omega
                                                        omega)
      · have : m = 0 := by omega
        subst this; rw [dig_zero]; rfl
    simp only [go_sem, ↓reduceIte, encW, hd]
    exact .mk (by simp only [go_sem, ↓reduceIte, encW])
  | false =>
    simp only [go_sem, ↓reduceIte, encW]
    exact .mk (by simp only [go_sem, ↓reduceIte, encW])

theorem c_wnorm (neg : Bool) (a : List Nat) (ha : Wd a) (hl : a.length < 1000000) : PCalls Tryz.prog 52 [encH neg a] (encZ (sg neg (val a))) := by
  have hs := c_signed neg (val a)
  rw [encZ_sg] at hs ⊢
  refine pcalls_of_AWR (pa := []) (fn := Tryz.f52) (rs := [.cell 2 40]) follows_mixed Tryz.func52 rfl rfl (by kernel_rfl) (by kernel_rfl) (by rw [Tryz.ntmps52]; simp) ?_
  simp only [go_sem, ↓reduceIte, encH, encW]
  refine callD_p (c_norm a ha hl) ?_
  simp only [go_sem, ↓reduceIte, encH, encW]
  refine callD_p hs ?_
  simp only [go_sem, ↓reduceIte, encW]
  exact .mk (by simp only [go_sem, ↓reduceIte, encW])

theorem c_wof (n : Int) (h1 : -9223372036854775808 ≤ n) (h2 : n ≤ 9223372036854775807) : PCalls Tryz.prog 21 [.int .i64 n] (encZ n) := by
  have hz : encZ n = encZ (sg (decide (n < 0)) n.natAbs) := by rw [sg_self]
  have hs := c_signed (decide (n < 0)) n.natAbs
  rw [hz]
  rw [encZ_sg] at hs ⊢
  refine pcalls_of_AWR (pa := []) (fn := Tryz.f21) (rs := [.cell 2 40]) follows_mixed Tryz.func21 rfl rfl (by kernel_rfl) (by kernel_rfl) (by rw [Tryz.ntmps21]; simp) ?_
  by_cases h : n < 0
  · rw [dec_true h] at hs ⊢
    have w1 : IntKind.u64.wrap n = ((18446744073709551616 - n.natAbs : Nat) : Int) := by
      unfold IntKind.wrap
      simp only [show IntKind.u64.bits = 64 from rfl, show IntKind.u64.signed = false from rfl, Bool.false_and, Bool.false_eq_true, if_false]
      omega
    have w2 : IntKind.u64.wrap (0 - ((18446744073709551616 - n.natAbs : Nat) : Int)) = (n.natAbs : Nat) := by
      unfold IntKind.wrap
      simp only [show IntKind.u64.bits = 64 from rfl, show IntKind.u64.signed = false from rfl, Bool.false_and, Bool.false_eq_true, if_false]
      omega
    simp only [go_sem, ↓reduceIte, dec_true h, w1, w2]
    refine callS_p (c_of n.natAbs (by omega)) ?_
    simp only [go_sem, ↓reduceIte, encW]
    refine callS_p hs ?_
    simp only [go_sem, ↓reduceIte, encW]
    exact .mk (by simp only [go_sem, ↓reduceIte, encW])
  · rw [dec_false h] at hs ⊢
    have w1 : IntKind.u64.wrap n = ((n.natAbs : Nat) : Int) := by rw [wrapu64_id (by omega) (by omega)]; omega
    simp only [go_sem, ↓reduceIte, dec_false h, w1]
    refine callS_p (c_of n.natAbs (by omega)) ?_
    simp only [go_sem, ↓reduceIte, encW]
    refine callS_p hs ?_
    simp only [go_sem, ↓reduceIte, encW]
    exact .mk (by simp only [go_sem, ↓reduceIte, encW])

theorem sg_sign (neg : Bool) (m : Nat) : (sg neg m).sign = if m = 0 then 0 else if neg then -1 else 1 := by
  by_cases h : m = 0
  · subst h; rw [sg_zero]; rfl
  · rw [if_neg h]
    cases neg
    · rw [sg_false]; exact Int.sign_eq_one_of_pos (by omega)
    · rw [sg_true]; exact Int.sign_eq_neg_one_of_neg (by omega)

theorem c_wsign (neg : Bool) (a : List Nat) (ha : Wd a) (hl : a.length < 1000000) : PCalls Tryz.prog 44 [encH neg a] (.int .i64 (sg neg (val a)).sign) := by
  rw [sg_sign]
  refine pcalls_of_AW (pa := []) (fn := Tryz.f44) (ts := [2]) follows_mixed Tryz.func44 rfl rfl (by kernel_rfl) (by kernel_rfl) (by rw [Tryz.ntmps44]; simp) ?_
  simp only [go_sem, ↓reduceIte, encH, encW]
  refine callS_p (c_zero a ha hl) ?_
  by_cases h : val a = 0
  · simp only [go_sem, ↓reduceIte, dec_true h]
    exact .mk (by simp only [go_sem, ↓reduceIte, h])
  · simp only [go_sem, ↓reduceIte, dec_false h]
    cases neg with
    | true =>
      simp only [go_sem, ↓reduceIte]
      exact .mk (by simp only [go_sem, ↓reduceIte, h])
    | false =>
      simp only [go_sem, ↓reduceIte]
      exact .mk (by simp only [go_sem, ↓reduceIte, h])

theorem c_wneg (neg : Bool) (a : List Nat) (ha : Wd a) (hl : a.length < 1000000) : PCalls Tryz.prog 74 [encH neg a] (encZ (-sg neg (val a))) := by
  have hs := c_signed (!neg) (val a)
  rw [← sg_not]
  rw [encZ_sg] at hs ⊢
  refine pcalls_of_AWR (pa := []) (fn := Tryz.f74) (rs := [.cell 2 40]) follows_mixed Tryz.func74 rfl rfl (by kernel_rfl) (by kernel_rfl) (by rw [Tryz.ntmps74]; simp) ?_
  simp only [go_sem, ↓reduceIte, encH, encW]
  refine callD_p (c_norm a ha hl) ?_
  simp only [go_sem, ↓reduceIte, encH, encW]
  refine callD_p hs ?_
  simp only [go_sem, ↓reduceIte, encW]
  exact .mk (by simp only [go_sem, ↓reduceIte, encW])

theorem sg_add_same (n : Bool) (a b : Nat) : sg n a + sg n b = sg n (a + b) := by cases n <;> simp only [sg_true, sg_false] <;> omega
theorem sg_add_gap (n m : Bool) (a b : Nat) (h : n ≠ m) : sg n a + sg m b = sg (if a < b then m else n) (gapN a b) := by
  unfold gapN
  cases n <;> cases m <;> simp only [ne_eq, not_true_eq_false, reduceCtorEq, not_false_eq_true] at h <;> split <;> simp only [sg_true, sg_false] <;> omega

set_option maxHeartbeats 1000000 in
theorem c_wadd (n : Bool) (a : List Nat) (m : Bool) (b : List Nat) (ha : Wd a) (hb : Wd b) (hla : a.length < 90000) (hlb : b.length < 90000) : PCalls Tryz.prog 73 [encH n a, encH m b] (encZ (sg n (val a) + sg m (val b))) := by
  refine pcalls_of_AWR (pa := []) (fn := Tryz.f73) (rs := [.cell 4 40]) follows_mixed Tryz.func73 rfl rfl (by kernel_rfl) (by kernel_rfl) (by rw [Tryz.ntmps73]; simp) ?_
  by_cases h : n = m
  · subst h
    have hs := c_signed n (val a + val b)
    rw [← sg_add_same] at hs
    have he := encZ_sg n (val a + val b)
    rw [← sg_add_same] at he
    have hadd := c_nadd [a, b] (fun x hx => by
      simp only [List.mem_cons, List.not_mem_nil, or_false] at hx
      rcases hx with rfl | rfl
      · exact ⟨ha, hla⟩
      · exact ⟨hb, hlb⟩) (by simp)
    rw [show sumV [a, b] = val a + val b by simp [sumV]] at hadd
    rw [he] at hs ⊢
    simp only [go_sem, ↓reduceIte, encH, encW]
    refine callD_p hadd ?_
    simp only [go_sem, ↓reduceIte, encW]
    refine callD_p hs ?_
    simp only [go_sem, ↓reduceIte, encW]
    exact .mk (by simp only [go_sem, ↓reduceIte, encW])
  · have hbe : (n == m) = false := by cases n <;> cases m <;> first | rfl | exact absurd rfl h
    have hs := c_signed (if val a < val b then m else n) (gapN (val a) (val b))
    have he := encZ_sg (if val a < val b then m else n) (gapN (val a) (val b))
    rw [sg_add_gap n m _ _ h]
    rw [he] at hs ⊢
    simp only [go_sem, ↓reduceIte, encH, encW, hbe]
    refine callS_p (c_ngap a b ha hb (by omega) (by omega)) ?_
    by_cases hlt : val a < val b
    · rw [if_pos hlt] at hs ⊢
      have hd := dec_true (cmpN_neg.2 hlt)
      simp only [go_sem, ↓reduceIte, encW, hd]
      refine callS_p hs ?_
      simp only [go_sem, ↓reduceIte, encW]
      exact .mk (by simp only [go_sem, ↓reduceIte, encW])
    · rw [if_neg hlt] at hs ⊢
      have hd := dec_false (fun h' => hlt (cmpN_neg.1 h'))
      simp only [go_sem, ↓reduceIte, encW, hd]
      refine callS_p hs ?_
      simp only [go_sem, ↓reduceIte, encW]
      exact .mk (by simp only [go_sem, ↓reduceIte, encW])

theorem c_wsub (n : Bool) (a : List Nat) (m : Bool) (b : List Nat) (ha : Wd a) (hb : Wd b) (hla : a.length < 90000) (hlb : b.length < 90000) : PCalls Tryz.prog 56 [encH n a, encH m b] (encZ (sg n (val a) - sg m (val b))) := by
  have hn := c_wneg m b hb (by omega)
  have hz := encZ_H (-sg m (val b))
  have hab : (-sg m (val b)).natAbs = val b := by rw [Int.natAbs_neg, sg_natAbs]
  have hlb2 := dig_len_val hb
  have hadd := c_wadd n a (decide (-sg m (val b) < 0)) (dig (-sg m (val b)).natAbs) ha (wd_dig _) hla (by rw [hab]; omega)
  rw [val_dig, sg_self, ← Int.sub_eq_add_neg, ← hz] at hadd
  generalize -sg m (val b) = z at *
  have he := encZ_H (sg n (val a) - sg m (val b))
  refine pcalls_of_AWR (pa := []) (fn := Tryz.f56) (rs := [.cell 4 40]) follows_mixed Tryz.func56 rfl rfl (by kernel_rfl) (by kernel_rfl) (by rw [Tryz.ntmps56]; simp) ?_
  simp only [go_sem, ↓reduceIte, encH, encW]
  refine callD_p hn ?_
  simp only [go_sem, ↓reduceIte, encZ, encW]
  refine callD_p hadd ?_
  simp only [go_sem, ↓reduceIte, encZ, encW]
  exact .mk (by simp only [go_sem, ↓reduceIte, encZ, encW])

theorem c_wmul (n : Bool) (a : List Nat) (m : Bool) (b : List Nat) (ha : Wd a) (hb : Wd b) (hla : a.length < 400000) (hlb : b.length < 400000) : PCalls Tryz.prog 57 [encH n a, encH m b] (encZ (sg n (val a) * sg m (val b))) := by
  have hs := c_signed (n != m) (val a * val b)
  have he := encZ_sg (n != m) (val a * val b)
  rw [sg_mul]
  rw [he] at hs ⊢
  refine pcalls_of_AWR (pa := []) (fn := Tryz.f57) (rs := [.cell 4 40]) follows_mixed Tryz.func57 rfl rfl (by kernel_rfl) (by kernel_rfl) (by rw [Tryz.ntmps57]; simp) ?_
  simp only [go_sem, ↓reduceIte, encH, encW]
  refine callD_p (c_mul a b ha hb hla hlb) ?_
  simp only [go_sem, ↓reduceIte, encH, encW]
  refine callD_p hs ?_
  simp only [go_sem, ↓reduceIte, encW]
  exact .mk (by simp only [go_sem, ↓reduceIte, encW])

theorem c_wcmp (n : Bool) (a : List Nat) (m : Bool) (b : List Nat) (ha : Wd a) (hb : Wd b) (hla : a.length < 90000) (hlb : b.length < 90000) : PCalls Tryz.prog 42 [encH n a, encH m b] (.int .i64 (sg n (val a) - sg m (val b)).sign) := by
  have hsub := c_wsub n a m b ha hb hla hlb
  have hlen : (dig (sg n (val a) - sg m (val b)).natAbs).length < 1000000 := by
    have h1 : (sg n (val a) - sg m (val b)).natAbs ≤ val a + val b := by
      have := sg_natAbs n (val a)
      have := sg_natAbs m (val b)
      omega
    have h2 := dig_len_mono h1
    have h3 := dig_add_len (val a) (val b)
    have h4 := dig_len_val ha
    have h5 := dig_len_val hb
    omega
  have hsg := c_wsign (decide (sg n (val a) - sg m (val b) < 0)) (dig (sg n (val a) - sg m (val b)).natAbs) (wd_dig _) hlen
  rw [val_dig, sg_self, ← encZ_H] at hsg
  generalize sg n (val a) - sg m (val b) = z at *
  refine pcalls_of_AW (pa := []) (fn := Tryz.f42) (ts := [4]) follows_mixed Tryz.func42 rfl rfl (by kernel_rfl) (by kernel_rfl) (by rw [Tryz.ntmps42]; simp) ?_
  simp only [go_sem, ↓reduceIte, encH, encW]
  refine callS_p hsub ?_
  simp only [go_sem, ↓reduceIte, encZ, encW]
  refine callS_p hsg ?_
  simp only [go_sem, ↓reduceIte]
  exact .mk (by simp only [go_sem, ↓reduceIte])

end Go.Proofs.YtdbmdaefmlflaaaGreatDoor

set_option linter.unusedVariables false
set_option linter.unusedSimpArgs false
set_option maxRecDepth 10000
namespace Go.Proofs.YtdbmdaefmlflaaaGreatDoor
open Go Go.Ab Go.Num

theorem gcd_pos_div {a d : Nat} (hd : d ≠ 0) : decide (0 < a / Nat.gcd a d) = decide (0 < a) := by
  have hg : 0 < Nat.gcd a d := Nat.gcd_pos_of_pos_right _ (Nat.pos_of_ne_zero hd)
  obtain ⟨k, hk⟩ := Nat.gcd_dvd_left a d
  generalize Nat.gcd a d = g at *
  have : a / g = k := by rw [hk, Nat.mul_div_cancel_left _ hg]
  rw [this]
  by_cases h : 0 < k
  · rw [decide_eq_true h, decide_eq_true (by rw [hk]; exact Nat.mul_pos hg h)]
  · have : k = 0 := by omega
    subst this
    rw [hk, Nat.mul_zero]

theorem c_fcancel (neg : Bool) (a d : List Nat) (ha : Wd a) (hd : Wd d) (hla : a.length < 90000) (hld : d.length < 90000) (h0 : val d ≠ 0) : PCalls Tryz.prog 38 [encH neg a, encW d] (encQ (mkRat (sg neg (val a)) (val d))) := by
  have hn := c_wnorm neg (dig (val a / Nat.gcd (val a) (val d))) (wd_dig _) (by
    have := dig_len_mono (Nat.div_le_self (val a) (Nat.gcd (val a) (val d)))
    have := dig_len_val ha
    omega)
  rw [val_dig, encZ_sg, gcd_pos_div h0] at hn
  rw [encQ_mk _ h0, sg_neg, sg_natAbs]
  refine pcalls_of_AWR (pa := []) (fn := Tryz.f38) (rs := [.cell 4 42]) follows_mixed Tryz.func38 rfl rfl (by kernel_rfl) (by kernel_rfl) (by rw [Tryz.ntmps38]; simp) ?_
  simp only [go_sem, ↓reduceIte, encH, encW]
  refine callS_p (c_cancel2 a d ha hd (by omega) (by omega) h0) ?_
  simp only [go_sem, ↓reduceIte, encH, encW]
  refine callS_p hn ?_
  simp only [go_sem, ↓reduceIte, encW]
  exact .mk (by simp only [go_sem, ↓reduceIte, encW])

theorem c_parts' (f : Fr) {k : Nat} (hf : okR k f) (hk : 1 ≤ k) (hk2 : k < 1000000) : ∃ g : Fr, okR k g ∧ val g.d ≠ 0 ∧ rv g = rv f ∧ PCalls Tryz.prog 39 [encR f] (.tup [encH g.neg g.n, encW g.d]) := by
  have hz := c_zero f.d hf.2.1 (by have := hf.2.2.2; omega)
  by_cases h : val f.d = 0
  · refine ⟨⟨false, [], [1]⟩, ⟨.nil, .cons (by decide) .nil, by simp, by simpa using hk⟩, by simp [val], by simp [rv, h, val, sg], ?_⟩
    have ho := c_of 1 (by omega)
    rw [dig_one (by omega) (by decide)] at ho
    refine pcalls_of_AWR (pa := []) (fn := Tryz.f39) (rs := [.cell 2 40, .tmp 3]) follows_mixed Tryz.func39 rfl rfl (by kernel_rfl) (by kernel_rfl) (by rw [Tryz.ntmps39]; simp) ?_
    simp only [go_sem, ↓reduceIte, encR, encW]
    refine callS_p hz ?_
    simp only [go_sem, ↓reduceIte, dec_true h]
    refine callS_p ho ?_
    simp only [go_sem, ↓reduceIte, encW]
    exact .mk_le (u := .tup [.agg [.bool false, .nilsl], encW [1]]) (by simp only [go_sem, ↓reduceIte, encW]) (AV.le_tup' (.cons (AV.le_agg' (.cons (AV.le_refl _) (.cons (AV.le_nil 1) .nil))) (.cons (AV.le_refl _) .nil)))
  · refine ⟨f, hf, h, rfl, ?_⟩
    refine pcalls_of_AWR (pa := []) (fn := Tryz.f39) (rs := [.cell 2 40, .tmp 3]) follows_mixed Tryz.func39 rfl rfl (by kernel_rfl) (by kernel_rfl) (by rw [Tryz.ntmps39]; simp) ?_
    simp only [go_sem, ↓reduceIte, encR, encW]
    refine callS_p hz ?_
    simp only [go_sem, ↓reduceIte, dec_false h]
    exact .mk (by simp only [go_sem, ↓reduceIte, encH, encW])

theorem encQ_int (n : Int) : encQ (n : Rat) = .agg [.bool (decide (n < 0)), encW (dig n.natAbs), encW [1]] := by
  simp only [encQ, encR, cq, Rat.num_intCast, Rat.den_intCast]
  rw [show dig 1 = [1] from dig_one (by decide) (by decide)]
  rfl

theorem c_fof (n : Int) (h1 : -9223372036854775808 ≤ n) (h2 : n ≤ 9223372036854775807) : PCalls Tryz.prog 13 [.int .i64 n] (encQ (n : Rat)) := by
  have hw := c_wof n h1 h2
  have ho := c_of 1 (by omega)
  rw [dig_one (by omega) (by decide)] at ho
  rw [encQ_int]
  refine pcalls_of_AWR (pa := []) (fn := Tryz.f13) (rs := [.cell 2 42]) follows_mixed Tryz.func13 rfl rfl (by kernel_rfl) (by kernel_rfl) (by rw [Tryz.ntmps13]; simp) ?_
  simp only [go_sem, ↓reduceIte]
  refine callS_p hw ?_
  simp only [go_sem, ↓reduceIte, encZ, encW]
  refine callS_p ho ?_
  simp only [go_sem, ↓reduceIte, encW]
  exact .mk (by simp only [go_sem, ↓reduceIte, encW])

theorem c_fnorm (f : Fr) (hf : okR 80000 f) : PCalls Tryz.prog 25 [encR f] (encQ (rv f)) := by
  obtain ⟨g, hg, hd, hv, hp⟩ := c_parts' f hf (by omega) (by omega)
  have hc := c_fcancel g.neg g.n g.d hg.1 hg.2.1 (by have := hg.2.2.1; omega) (by have := hg.2.2.2; omega) hd
  rw [show mkRat (sg g.neg (val g.n)) (val g.d) = rv f from hv] at hc
  refine pcalls_of_AWR (pa := []) (fn := Tryz.f25) (rs := [.cell 2 42]) follows_mixed Tryz.func25 rfl rfl (by kernel_rfl) (by kernel_rfl) (by rw [Tryz.ntmps25]; simp) ?_
  simp only [go_sem, ↓reduceIte, encR, encW]
  refine callS_p hp ?_
  simp only [go_sem, ↓reduceIte, encH, encW]
  refine callS_p hc ?_
  simp only [go_sem, ↓reduceIte, encQ, encR, encW]
  exact .mk (by simp only [go_sem, ↓reduceIte, encQ, encR, encW])

theorem rv_sign (g : Fr) (hd : val g.d ≠ 0) : (rv g).num.sign = (sg g.neg (val g.n)).sign := by
  have h1 := mkRat_num_neg (sg g.neg (val g.n)) hd
  have h2 := Rat.mkRat_eq_zero (n := sg g.neg (val g.n)) hd
  rw [← Rat.num_eq_zero] at h2
  show (mkRat _ _).num.sign = _
  generalize (mkRat (sg g.neg (val g.n)) (val g.d)).num = x at *
  generalize sg g.neg (val g.n) = y at *
  rcases Int.lt_trichotomy y 0 with h | h | h
  · rw [Int.sign_eq_neg_one_of_neg h, Int.sign_eq_neg_one_of_neg (h1.2 h)]
  · rw [h, h2.2 h]
  · have : 0 < x := by
      have a1 : ¬ x < 0 := fun h' => by have := h1.1 h'; omega
      have a2 : x ≠ 0 := fun h' => by have := h2.1 h'; omega
      omega
    rw [Int.sign_eq_one_of_pos h, Int.sign_eq_one_of_pos this]

theorem c_fsign (f : Fr) (hf : okR 80000 f) : PCalls Tryz.prog 138 [encR f] (.int .i64 (rv f).num.sign) := by
  obtain ⟨g, hg, hd, hv, hp⟩ := c_parts' f hf (by omega) (by omega)
  have hs := c_wsign g.neg g.n hg.1 (by have := hg.2.2.1; omega)
  rw [← rv_sign g hd, hv] at hs
  refine pcalls_of_AW (pa := []) (fn := Tryz.f138) (ts := [2]) follows_mixed Tryz.func138 rfl rfl (by kernel_rfl) (by kernel_rfl) (by rw [Tryz.ntmps138]; simp) ?_
  simp only [go_sem, ↓reduceIte, encR, encW]
  refine callS_p hp ?_
  simp only [go_sem, ↓reduceIte, encH, encW]
  refine callS_p hs ?_
  simp only [go_sem, ↓reduceIte]
  exact .mk (by simp only [go_sem, ↓reduceIte])

/-- One's upper number times another one's lower one. -/
theorem c_cross (n : Bool) (a d : List Nat) (ha : Wd a) (hd : Wd d) (hla : a.length < 400000) (hld : d.length < 400000) : PCalls Tryz.prog 43 [encH n a, encW d] (encZ (sg n (val a) * (val d : Nat))) := by
  have hm := c_wmul n a false d ha hd hla hld
  rw [sg_false] at hm
  refine pcalls_of_AWR (pa := []) (fn := Tryz.f43) (rs := [.cell 4 40]) follows_mixed Tryz.func43 rfl rfl (by kernel_rfl) (by kernel_rfl) (by rw [Tryz.ntmps43]; simp) ?_
  simp only [go_sem, ↓reduceIte, encH, encW]
  refine callS_p hm ?_
  simp only [go_sem, ↓reduceIte, encZ, encW]
  exact .mk (by simp only [go_sem, ↓reduceIte, encZ, encW])

theorem natAbs_mul_lt {z w : Int} {a b : Nat} (h1 : z.natAbs < B ^ a) (h2 : w.natAbs < B ^ b) : (dig (z * w).natAbs).length ≤ a + b := by
  apply dig_len_le.2
  rw [Int.natAbs_mul, Nat.pow_add]; exact Nat.mul_lt_mul'' h1 h2
theorem natAbs_add_lt {z w : Int} {a : Nat} (h1 : (dig z.natAbs).length ≤ a) (h2 : (dig w.natAbs).length ≤ a) : (dig (z + w).natAbs).length ≤ a + 1 := by
  have h3 := dig_add_len z.natAbs w.natAbs
  have h4 := dig_len_mono (Int.natAbs_add_le z w)
  omega

/-- What holds of the parts of two fractions. -/
structure Two (f g : Fr) where
  x : Fr
  y : Fr
  hx : okR 20000 x
  hy : okR 20000 y
  dx : val x.d ≠ 0
  dy : val y.d ≠ 0
  vx : rv x = rv f
  vy : rv y = rv g
  px : PCalls Tryz.prog 39 [encR f] (.tup [encH x.neg x.n, encW x.d])
  py : PCalls Tryz.prog 39 [encR g] (.tup [encH y.neg y.n, encW y.d])
theorem two_of {f g : Fr} (hf : okR 20000 f) (hg : okR 20000 g) : Nonempty (Two f g) := by
  obtain ⟨x, h1, h2, h3, h4⟩ := c_parts' f hf (by omega) (by omega)
  obtain ⟨y, k1, k2, k3, k4⟩ := c_parts' g hg (by omega) (by omega)
  exact ⟨⟨x, y, h1, k1, h2, k2, h3, k3, h4, k4⟩⟩

theorem c_fcmp (f g : Fr) (hf : okR 20000 f) (hg : okR 20000 g) : PCalls Tryz.prog 29 [encR f, encR g] (.int .i64 (rv f - rv g).num.sign) := by
  obtain ⟨⟨x, y, hx, hy, dx, dy, vx, vy, px, py⟩⟩ := two_of hf hg
  have lx := rv_lt hx
  have ly := rv_lt hy
  have l1 := natAbs_mul_lt lx.1 (w := (val y.d : Nat)) (b := 20000) (by simpa using ly.2)
  have l2 := natAbs_mul_lt ly.1 (w := (val x.d : Nat)) (b := 20000) (by simpa using lx.2)
  have c1 := c_cross x.neg x.n y.d hx.1 hy.2.1 (by have := hx.2.2.1; omega) (by have := hy.2.2.2; omega)
  have c2 := c_cross y.neg y.n x.d hy.1 hx.2.1 (by have := hy.2.2.1; omega) (by have := hx.2.2.2; omega)
  have hsign : (sg x.neg (val x.n) * (val y.d : Nat) - sg y.neg (val y.n) * (val x.d : Nat)).sign = (rv f - rv g).num.sign := by
    have e : rv f - rv g = mkRat (sg x.neg (val x.n) * (val y.d : Nat) - sg y.neg (val y.n) * (val x.d : Nat)) (val x.d * val y.d) := by
      rw [← vx, ← vy, rv, rv, ← Rat.divInt_ofNat, ← Rat.divInt_ofNat, Rat.divInt_sub_divInt _ _ (by omega) (by omega), ← Rat.divInt_ofNat, Int.natCast_mul]
    rw [e]
    have := rv_sign ⟨decide (sg x.neg (val x.n) * (val y.d : Nat) - sg y.neg (val y.n) * (val x.d : Nat) < 0), dig (sg x.neg (val x.n) * (val y.d : Nat) - sg y.neg (val y.n) * (val x.d : Nat)).natAbs, dig (val x.d * val y.d)⟩ (by rw [val_dig]; exact Nat.mul_ne_zero dx dy)
    simp only [rv, val_dig, sg_self] at this
    exact this.symm
  have hc := fun n a m b => c_wcmp n a m b
  have h3 := c_wcmp (decide (sg x.neg (val x.n) * (val y.d : Nat) < 0)) (dig (sg x.neg (val x.n) * (val y.d : Nat)).natAbs) (decide (sg y.neg (val y.n) * (val x.d : Nat) < 0)) (dig (sg y.neg (val y.n) * (val x.d : Nat)).natAbs) (wd_dig _) (wd_dig _) (by omega) (by omega)
  rw [val_dig, val_dig, sg_self, sg_self, ← encZ_H, ← encZ_H, hsign] at h3
  generalize sg x.neg (val x.n) * (val y.d : Nat) = z at *
  generalize sg y.neg (val y.n) * (val x.d : Nat) = w at *
  refine pcalls_of_AW (pa := []) (fn := Tryz.f29) (ts := [4]) follows_mixed Tryz.func29 rfl rfl (by kernel_rfl) (by kernel_rfl) (by rw [Tryz.ntmps29]; simp) ?_
  simp only [go_sem, ↓reduceIte, encR, encW]
  refine callS_p px ?_
  simp only [go_sem, ↓reduceIte, encH, encR, encW]
  refine callS_p py ?_
  simp only [go_sem, ↓reduceIte, encH, encW]
  refine callD_p c1 ?_
  simp only [go_sem, ↓reduceIte, encH, encZ, encW]
  refine callD_p c2 ?_
  simp only [go_sem, ↓reduceIte, encH, encZ, encW]
  refine callD_p h3 ?_
  simp only [go_sem, ↓reduceIte]
  exact .mk (by simp only [go_sem, ↓reduceIte])

theorem sign_zero_sub {a b : Rat} : (a - b).num.sign = 0 ↔ a = b := by
  rw [Int.sign_eq_zero_iff_zero, Rat.num_eq_zero]
  constructor
  · intro h
    have := congrArg (· + b) h
    simpa [Rat.sub_add_cancel, Rat.zero_add] using this
  · intro h; subst h; exact Rat.sub_self

theorem c_fsame (f g : Fr) (hf : okR 20000 f) (hg : okR 20000 g) : PCalls Tryz.prog 20 [encR f, encR g] (.bool (decide (rv f = rv g))) := by
  have hc := c_fcmp f g hf hg
  have he : decide ((rv f - rv g).num.sign = 0) = decide (rv f = rv g) := by
    by_cases h : rv f = rv g
    · rw [decide_eq_true h, decide_eq_true (sign_zero_sub.2 h)]
    · rw [decide_eq_false h, decide_eq_false (fun h' => h (sign_zero_sub.1 h'))]
  refine pcalls_of_AW (pa := []) (fn := Tryz.f20) (ts := [4]) follows_mixed Tryz.func20 rfl rfl (by kernel_rfl) (by kernel_rfl) (by rw [Tryz.ntmps20]; simp) ?_
  simp only [go_sem, ↓reduceIte, encR, encW]
  refine callS_p hc ?_
  simp only [go_sem, ↓reduceIte, beq_int, he]
  exact .mk (by simp only [go_sem, ↓reduceIte])

end Go.Proofs.YtdbmdaefmlflaaaGreatDoor

set_option linter.unusedVariables false
set_option linter.unusedSimpArgs false
set_option maxRecDepth 10000
namespace Go.Proofs.YtdbmdaefmlflaaaGreatDoor
open Go Go.Ab Go.Num

theorem c_fneg (f : Fr) (hf : okR 80000 f) : PCalls Tryz.prog 132 [encR f] (encQ (-rv f)) := by
  have hn := c_fnorm f hf
  have hw := qw_rv hf (by omega)
  have hl : (dig (rv f).num.natAbs).length < 1000000 := by unfold qw at hw; omega
  have h2 := c_wneg (decide ((rv f).num < 0)) (dig (rv f).num.natAbs) (wd_dig _) hl
  rw [val_dig, sg_self, ← Rat.neg_num] at h2
  have hd : (-rv f).den = (rv f).den := Rat.neg_den _
  simp only [encQ, cq] at hn ⊢
  rw [hd]
  refine pcalls_of_AWR (pa := []) (fn := Tryz.f132) (rs := [.cell 2 42]) follows_mixed Tryz.func132 rfl rfl (by kernel_rfl) (by kernel_rfl) (by rw [Tryz.ntmps132]; simp) ?_
  simp only [go_sem, ↓reduceIte, encR, encW]
  refine callS_p hn ?_
  simp only [go_sem, ↓reduceIte, encR, encW]
  refine callS_p h2 ?_
  simp only [go_sem, ↓reduceIte, encZ, encW]
  exact .mk (by simp only [go_sem, ↓reduceIte, encR, encZ, encW])

theorem okZ (z : Int) {k : Nat} (h : (dig z.natAbs).length ≤ k) : (dig z.natAbs).length ≤ k := h

theorem add_mk {x y : Fr} (dx : val x.d ≠ 0) (dy : val y.d ≠ 0) : rv x + rv y = mkRat (sg x.neg (val x.n) * (val y.d : Nat) + sg y.neg (val y.n) * (val x.d : Nat)) (val x.d * val y.d) := by
  rw [rv, rv, Rat.mkRat_add_mkRat _ _ dx dy]
theorem sub_mk {x y : Fr} (dx : val x.d ≠ 0) (dy : val y.d ≠ 0) : rv x - rv y = mkRat (sg x.neg (val x.n) * (val y.d : Nat) - sg y.neg (val y.n) * (val x.d : Nat)) (val x.d * val y.d) := by
  rw [rv, rv, ← Rat.divInt_ofNat, ← Rat.divInt_ofNat, Rat.divInt_sub_divInt _ _ (by omega) (by omega), ← Rat.divInt_ofNat, Int.natCast_mul]
theorem mul_mk {x y : Fr} : rv x * rv y = mkRat (sg x.neg (val x.n) * sg y.neg (val y.n)) (val x.d * val y.d) := by
  rw [rv, rv, Rat.mkRat_mul_mkRat]

/-- The right fraction of a whole number and a list of words. -/
theorem c_fcancelZ (z : Int) (m : Nat) (hz : (dig z.natAbs).length < 90000) (hm : (dig m).length < 90000) (h0 : m ≠ 0) : PCalls Tryz.prog 38 [encZ z, encW (dig m)] (encQ (mkRat z m)) := by
  have h := c_fcancel (decide (z < 0)) (dig z.natAbs) (dig m) (wd_dig _) (wd_dig _) hz hm (by rw [val_dig]; exact h0)
  rw [val_dig, val_dig, sg_self] at h
  exact h

theorem c_fadd (f g : Fr) (hf : okR 20000 f) (hg : okR 20000 g) : PCalls Tryz.prog 129 [encR f, encR g] (encQ (rv f + rv g)) := by
  obtain ⟨⟨x, y, hx, hy, dx, dy, vx, vy, px, py⟩⟩ := two_of hf hg
  have lx := rv_lt hx
  have ly := rv_lt hy
  have lxn := hx.2.2.1
  have lxd := hx.2.2.2
  have lyn := hy.2.2.1
  have lyd := hy.2.2.2
  have hdd : val x.d * val y.d ≠ 0 := Nat.mul_ne_zero dx dy
  have hmd := c_mul x.d y.d hx.2.1 hy.2.1 (by omega) (by omega)
  have hml := dig_mul_len (val x.d) (val y.d)
  have hxd := dig_len_val hx.2.1
  have hyd := dig_len_val hy.2.1
  have l1 := natAbs_mul_lt lx.1 (w := (val y.d : Nat)) (b := 20000) (by simpa using ly.2)
  have l2 := natAbs_mul_lt ly.1 (w := (val x.d : Nat)) (b := 20000) (by simpa using lx.2)
  have c1 := c_cross x.neg x.n y.d hx.1 hy.2.1 (by omega) (by omega)
  have c2 := c_cross y.neg y.n x.d hy.1 hx.2.1 (by omega) (by omega)
  have h3 := c_wadd (decide (sg x.neg (val x.n) * (val y.d : Nat) < 0)) (dig (sg x.neg (val x.n) * (val y.d : Nat)).natAbs) (decide (sg y.neg (val y.n) * (val x.d : Nat) < 0)) (dig (sg y.neg (val y.n) * (val x.d : Nat)).natAbs) (wd_dig _) (wd_dig _) (by omega) (by omega)
  rw [val_dig, val_dig, sg_self, sg_self, ← encZ_H, ← encZ_H] at h3
  have l3 := natAbs_add_lt l1 l2
  have h4 := c_fcancelZ _ _ (show (dig (sg x.neg (val x.n) * (val y.d : Nat) + sg y.neg (val y.n) * (val x.d : Nat)).natAbs).length < 90000 by omega) (show (dig (val x.d * val y.d)).length < 90000 by omega) hdd
  rw [← add_mk dx dy, vx, vy] at h4
  generalize sg x.neg (val x.n) * (val y.d : Nat) = z at *
  generalize sg y.neg (val y.n) * (val x.d : Nat) = w at *
  refine pcalls_of_AWR (pa := []) (fn := Tryz.f129) (rs := [.cell 4 42]) follows_mixed Tryz.func129 rfl rfl (by kernel_rfl) (by kernel_rfl) (by rw [Tryz.ntmps129]; simp) ?_
  simp only [go_sem, ↓reduceIte, encR, encW]
  refine callS_p px ?_
  simp only [go_sem, ↓reduceIte, encH, encR, encW]
  refine callS_p py ?_
  simp only [go_sem, ↓reduceIte, encH, encW]
  refine callD_p c1 ?_
  simp only [go_sem, ↓reduceIte, encH, encZ, encW]
  refine callD_p c2 ?_
  simp only [go_sem, ↓reduceIte, encH, encZ, encW]
  refine callD_p h3 ?_
  simp only [go_sem, ↓reduceIte, encZ, encW]
  refine callD_p hmd ?_
  simp only [go_sem, ↓reduceIte, encZ, encW]
  refine callD_p h4 ?_
  simp only [go_sem, ↓reduceIte, encQ, encR, encW]
  exact .mk (by simp only [go_sem, ↓reduceIte, encQ, encR, encW])

theorem c_fsub (f g : Fr) (hf : okR 20000 f) (hg : okR 20000 g) : PCalls Tryz.prog 135 [encR f, encR g] (encQ (rv f - rv g)) := by
  obtain ⟨⟨x, y, hx, hy, dx, dy, vx, vy, px, py⟩⟩ := two_of hf hg
  have lx := rv_lt hx
  have ly := rv_lt hy
  have lxn := hx.2.2.1
  have lxd := hx.2.2.2
  have lyn := hy.2.2.1
  have lyd := hy.2.2.2
  have hdd : val x.d * val y.d ≠ 0 := Nat.mul_ne_zero dx dy
  have hmd := c_mul x.d y.d hx.2.1 hy.2.1 (by omega) (by omega)
  have hml := dig_mul_len (val x.d) (val y.d)
  have hxd := dig_len_val hx.2.1
  have hyd := dig_len_val hy.2.1
  have l1 := natAbs_mul_lt lx.1 (w := (val y.d : Nat)) (b := 20000) (by simpa using ly.2)
  have l2 := natAbs_mul_lt ly.1 (w := (val x.d : Nat)) (b := 20000) (by simpa using lx.2)
  have c1 := c_cross x.neg x.n y.d hx.1 hy.2.1 (by omega) (by omega)
  have c2 := c_cross y.neg y.n x.d hy.1 hx.2.1 (by omega) (by omega)
  have h3 := c_wsub (decide (sg x.neg (val x.n) * (val y.d : Nat) < 0)) (dig (sg x.neg (val x.n) * (val y.d : Nat)).natAbs) (decide (sg y.neg (val y.n) * (val x.d : Nat) < 0)) (dig (sg y.neg (val y.n) * (val x.d : Nat)).natAbs) (wd_dig _) (wd_dig _) (by omega) (by omega)
  rw [val_dig, val_dig, sg_self, sg_self, ← encZ_H, ← encZ_H] at h3
  have l3 := natAbs_add_lt l1 (w := -(sg y.neg (val y.n) * (val x.d : Nat))) (by rw [Int.natAbs_neg]; exact l2)
  rw [← Int.sub_eq_add_neg] at l3
  have h4 := c_fcancelZ _ _ (show (dig (sg x.neg (val x.n) * (val y.d : Nat) - sg y.neg (val y.n) * (val x.d : Nat)).natAbs).length < 90000 by omega) (show (dig (val x.d * val y.d)).length < 90000 by omega) hdd
  rw [← sub_mk dx dy, vx, vy] at h4
  generalize sg x.neg (val x.n) * (val y.d : Nat) = z at *
  generalize sg y.neg (val y.n) * (val x.d : Nat) = w at *
  refine pcalls_of_AWR (pa := []) (fn := Tryz.f135) (rs := [.cell 4 42]) follows_mixed Tryz.func135 rfl rfl (by kernel_rfl) (by kernel_rfl) (by rw [Tryz.ntmps135]; simp) ?_
  simp only [go_sem, ↓reduceIte, encR, encW]
  refine callS_p px ?_
  simp only [go_sem, ↓reduceIte, encH, encR, encW]
  refine callS_p py ?_
  simp only [go_sem, ↓reduceIte, encH, encW]
  refine callD_p c1 ?_
  simp only [go_sem, ↓reduceIte, encH, encZ, encW]
  refine callD_p c2 ?_
  simp only [go_sem, ↓reduceIte, encH, encZ, encW]
  refine callD_p h3 ?_
  simp only [go_sem, ↓reduceIte, encZ, encW]
  refine callD_p hmd ?_
  simp only [go_sem, ↓reduceIte, encZ, encW]
  refine callD_p h4 ?_
  simp only [go_sem, ↓reduceIte, encQ, encR, encW]
  exact .mk (by simp only [go_sem, ↓reduceIte, encQ, encR, encW])

theorem c_fmul (f g : Fr) (hf : okR 20000 f) (hg : okR 20000 g) : PCalls Tryz.prog 131 [encR f, encR g] (encQ (rv f * rv g)) := by
  obtain ⟨⟨x, y, hx, hy, dx, dy, vx, vy, px, py⟩⟩ := two_of hf hg
  have lx := rv_lt hx
  have ly := rv_lt hy
  have lxn := hx.2.2.1
  have lxd := hx.2.2.2
  have lyn := hy.2.2.1
  have lyd := hy.2.2.2
  have hdd : val x.d * val y.d ≠ 0 := Nat.mul_ne_zero dx dy
  have hmd := c_mul x.d y.d hx.2.1 hy.2.1 (by omega) (by omega)
  have hml := dig_mul_len (val x.d) (val y.d)
  have hxd := dig_len_val hx.2.1
  have hyd := dig_len_val hy.2.1
  have h3 := c_wmul x.neg x.n y.neg y.n hx.1 hy.1 (by omega) (by omega)
  have l3 := natAbs_mul_lt lx.1 ly.1
  have h4 := c_fcancelZ _ _ (show (dig (sg x.neg (val x.n) * sg y.neg (val y.n)).natAbs).length < 90000 by omega) (show (dig (val x.d * val y.d)).length < 90000 by omega) hdd
  rw [← mul_mk, vx, vy] at h4
  generalize sg x.neg (val x.n) * sg y.neg (val y.n) = z at *
  refine pcalls_of_AWR (pa := []) (fn := Tryz.f131) (rs := [.cell 4 42]) follows_mixed Tryz.func131 rfl rfl (by kernel_rfl) (by kernel_rfl) (by rw [Tryz.ntmps131]; simp) ?_
  simp only [go_sem, ↓reduceIte, encR, encW]
  refine callS_p px ?_
  simp only [go_sem, ↓reduceIte, encH, encR, encW]
  refine callS_p py ?_
  simp only [go_sem, ↓reduceIte, encH, encW]
  refine callS_p h3 ?_
  simp only [go_sem, ↓reduceIte, encZ, encW]
  refine callS_p hmd ?_
  simp only [go_sem, ↓reduceIte, encZ, encW]
  refine callS_p h4 ?_
  simp only [go_sem, ↓reduceIte, encQ, encR, encW]
  exact .mk (by simp only [go_sem, ↓reduceIte, encQ, encR, encW])

theorem c_fsize (f : Fr) (hf : okR 80000 f) : PCalls Tryz.prog 136 [encR f] (.int .i64 (blen (val f.n) + blen (val f.d) : Nat)) := by
  have h1 := blen_dig_len (val f.n)
  have h2 := blen_dig_len (val f.d)
  have h3 := dig_len_val hf.1
  have h4 := dig_len_val hf.2.1
  have h5 := hf.2.2.1
  have h6 := hf.2.2.2
  have w1 : IntKind.i64.wrap (((blen (val f.n) : Nat) : Int) + (blen (val f.d) : Nat)) = ((blen (val f.n) + blen (val f.d) : Nat) : Int) := by rw [wrap64_id (by omega) (by omega)]; rfl
  refine pcalls_of_AW (pa := []) (fn := Tryz.f136) (ts := [2]) follows_mixed Tryz.func136 rfl rfl (by kernel_rfl) (by kernel_rfl) (by rw [Tryz.ntmps136]; simp) ?_
  simp only [go_sem, ↓reduceIte, encR, encW]
  refine callD_p (c_tlen f.n hf.1 (by omega)) ?_
  simp only [go_sem, ↓reduceIte, encR, encW]
  refine callD_p (c_tlen f.d hf.2.1 (by omega)) ?_
  simp only [go_sem, ↓reduceIte, w1]
  exact .mk (by simp only [go_sem, ↓reduceIte])

/-! ### Quotients and powers -/
theorem neg_mk_eq {z : Int} {e d m : Nat} (n : Bool) (hm : m ≠ 0) (hd : d ≠ 0) (he : e ≠ 0) : mkRat z d / mkRat (sg n m) e = mkRat (sg n 1 * (z * (e : Nat))) (d * m) := by
  have hs : sg n m = sg n 1 * (m : Int) := by cases n <;> simp [sg]
  rw [Rat.div_def, ← Rat.divInt_ofNat, ← Rat.divInt_ofNat, ← Rat.divInt_ofNat, Rat.inv_divInt, Rat.divInt_mul_divInt, hs]
  cases n
  · simp only [sg_false]
    simp [Int.mul_comm]
  · simp only [sg_true]
    rw [show (d : Int) * (-((1 : Nat) : Int) * (m : Int)) = -(((d * m : Nat) : Int)) by simp [Int.neg_mul, Int.mul_neg]]
    rw [show (-((1 : Nat) : Int)) * (z * (e : Nat)) = -(z * (e : Nat)) by simp [Int.neg_mul], Rat.divInt_neg']

theorem c_fquo0 (f g : Fr) (hf : okR 20000 f) (hg : okR 20000 g) (h0 : rv g = 0) : PCalls Tryz.prog 134 [encR f, encR g] (.tup [encQ 0, .bool false]) := by
  obtain ⟨⟨x, y, hx, hy, dx, dy, vx, vy, px, py⟩⟩ := two_of hf hg
  have lx := rv_lt hx
  have ly := rv_lt hy
  have lxn := hx.2.2.1
  have lxd := hx.2.2.2
  have lyn := hy.2.2.1
  have lyd := hy.2.2.2
  have hdd : val x.d * val y.d ≠ 0 := Nat.mul_ne_zero dx dy
  have hmd := c_mul x.d y.d hx.2.1 hy.2.1 (by omega) (by omega)
  have hml := dig_mul_len (val x.d) (val y.d)
  have hxd := dig_len_val hx.2.1
  have hyd := dig_len_val hy.2.1
  have hs := c_wsign y.neg y.n hy.1 (by omega)
  rw [← rv_sign y dy, vy, h0] at hs
  have ho := c_fof 0 (by omega) (by omega)
  refine pcalls_of_AWR (pa := []) (fn := Tryz.f134) (rs := [.cell 4 42, .tmp 5]) follows_mixed Tryz.func134 rfl rfl (by kernel_rfl) (by kernel_rfl) (by rw [Tryz.ntmps134]; simp) ?_
  simp only [go_sem, ↓reduceIte, encR, encW]
  refine callS_p px ?_
  simp only [go_sem, ↓reduceIte, encH, encR, encW]
  refine callS_p py ?_
  simp only [go_sem, ↓reduceIte, encH, encW]
  refine callS_p hs ?_
  simp only [go_sem, ↓reduceIte, show (0 : Rat).num.sign = 0 from rfl]
  refine callS_p ho ?_
  simp only [go_sem, ↓reduceIte, encQ, encR, encW]
  exact .mk (by simp only [go_sem, ↓reduceIte, encQ, encR, encW] <;> rfl)

theorem xor_sg (z : Int) (m : Bool) : sg (decide (z < 0) != m) z.natAbs = sg m 1 * z := by
  conv => rhs; rw [← sg_self z]
  rw [Int.mul_comm, sg_mul, Nat.mul_one]

set_option maxHeartbeats 1000000 in
theorem c_fquo (f g : Fr) (hf : okR 20000 f) (hg : okR 20000 g) (h0 : rv g ≠ 0) : PCalls Tryz.prog 134 [encR f, encR g] (.tup [encQ (rv f / rv g), .bool true]) := by
  obtain ⟨⟨x, y, hx, hy, dx, dy, vx, vy, px, py⟩⟩ := two_of hf hg
  have lx := rv_lt hx
  have ly := rv_lt hy
  have lxn := hx.2.2.1
  have lxd := hx.2.2.2
  have lyn := hy.2.2.1
  have lyd := hy.2.2.2
  have hdd : val x.d * val y.d ≠ 0 := Nat.mul_ne_zero dx dy
  have hmd := c_mul x.d y.d hx.2.1 hy.2.1 (by omega) (by omega)
  have hml := dig_mul_len (val x.d) (val y.d)
  have hxd := dig_len_val hx.2.1
  have hyd := dig_len_val hy.2.1
  have l1 := natAbs_mul_lt lx.1 (w := (val y.d : Nat)) (b := 20000) (by simpa using ly.2)
  have c1 := c_cross x.neg x.n y.d hx.1 hy.2.1 (by omega) (by omega)
  have hs := c_wsign y.neg y.n hy.1 (by omega)
  rw [← rv_sign y dy, vy] at hs
  have hs0 : (rv g).num.sign ≠ 0 := by rw [Ne, Int.sign_eq_zero_iff_zero, Rat.num_eq_zero]; exact h0
  have hyn : val y.n ≠ 0 := fun e => h0 (by rw [← vy, rv, e, sg_zero, Rat.zero_mkRat])
  have hm2 := c_mul x.d y.n hx.2.1 hy.1 (by omega) (by omega)
  have hml2 := dig_mul_len (val x.d) (val y.n)
  have hyn2 := dig_len_val hy.1
  have h4 := c_fcancel (decide (sg x.neg (val x.n) * (val y.d : Nat) < 0) != y.neg) (dig (sg x.neg (val x.n) * (val y.d : Nat)).natAbs) (dig (val x.d * val y.n)) (wd_dig _) (wd_dig _) (by omega) (by omega) (by rw [val_dig]; exact Nat.mul_ne_zero dx hyn)
  rw [val_dig, val_dig, xor_sg, ← neg_mk_eq y.neg hyn dx dy] at h4
  rw [show mkRat (sg x.neg (val x.n)) (val x.d) = rv f from vx, show mkRat (sg y.neg (val y.n)) (val y.d) = rv g from vy] at h4
  generalize sg x.neg (val x.n) * (val y.d : Nat) = z at *
  refine pcalls_of_AWR (pa := []) (fn := Tryz.f134) (rs := [.cell 4 42, .tmp 5]) follows_mixed Tryz.func134 rfl rfl (by kernel_rfl) (by kernel_rfl) (by rw [Tryz.ntmps134]; simp) ?_
  simp only [go_sem, ↓reduceIte, encR, encW]
  refine callS_p px ?_
  simp only [go_sem, ↓reduceIte, encH, encR, encW]
  refine callS_p py ?_
  simp only [go_sem, ↓reduceIte, encH, encW]
  refine callS_p hs ?_
  simp only [go_sem, ↓reduceIte, beq_int, dec_false hs0, encH, encW]
  refine callS_p c1 ?_
  simp only [go_sem, ↓reduceIte, encZ, encH, encW]
  refine callD_p hm2 ?_
  simp only [go_sem, ↓reduceIte, encZ, encH, encW]
  refine callD_p h4 ?_
  simp only [go_sem, ↓reduceIte, encQ, encR, encW]
  exact .mk (by simp only [go_sem, ↓reduceIte, encQ, encR, encW])

set_option maxHeartbeats 1000000 in
theorem c_power (a : List Nat) (e : Nat) (ha : Wd a) (hl : a.length ≤ 20000) (he : e ≤ 8) : PCalls Tryz.prog 139 [encW a, .int .i64 (e : Nat)] (encW (dig (val a ^ e))) := by
  refine pcalls_of_AW (pa := []) (fn := Tryz.f139) (ts := [4]) follows_mixed Tryz.func139 rfl rfl (by kernel_rfl) (by kernel_rfl) (by rw [Tryz.ntmps139]; simp) ?_
  have h1 := c_of 1 (by omega)
  have hlen : ∀ i, (dig (val a ^ i)).length ≤ i * 20000 + 1 := fun i => by
    induction i with
    | zero => rw [Nat.pow_zero]; exact dig_len_le.2 (by decide)
    | succ i ih =>
      rw [Nat.pow_succ]
      have := dig_mul_len (val a ^ i) (val a)
      have := dig_len_val ha
      omega
  simp only [go_sem, ↓reduceIte]
  refine callS_p h1 ?_
  simp only [go_sem, ↓reduceIte, encW]
  refine AW_while (fun m st => ∃ i, i + m = e ∧ st.τ 0 = encW a ∧ st.τ 5 = encW (dig (val a ^ i)) ∧ st.τ 7 = .int .i64 (e : Nat) ∧ st.τ 8 = .int .i64 (i : Nat)) e ?_ ?_
  · exact ⟨0, by omega, by simp only [go_sem, ↓reduceIte, encW], by rw [Nat.pow_zero]; simp only [go_sem, ↓reduceIte, encW], by simp only [go_sem, ↓reduceIte], by simp only [go_sem, ↓reduceIte] <;> rfl⟩
  · rintro m st ⟨i, hi, t0, t5, t7, t8⟩ next
    by_cases hlt : i < e
    · have hlt' : ((i : Nat) : Int) < (e : Nat) := by omega
      have hli := hlen i
      have hm := c_mul (dig (val a ^ i)) a (wd_dig _) ha (by omega) (by omega)
      rw [val_dig, ← Nat.pow_succ] at hm
      simp only [go_sem, ↓reduceIte, t0, t5, t7, t8, hlt', encW]
      refine callS_p hm ?_
      simp only [go_sem, ↓reduceIte, t0, t5, t7, t8, encW]
      exact next (m - 1) _ (by omega) ⟨i + 1, by omega, by simp only [go_sem, ↓reduceIte, t0, encW], by simp only [go_sem, ↓reduceIte, encW], by simp only [go_sem, ↓reduceIte, t7], by simp only [go_sem, ↓reduceIte]; rw [wrap64_id (by omega) (by omega)]; rfl⟩
    · have hlt' := dec_false (show ¬ ((i : Nat) : Int) < (e : Nat) by omega)
      have : i = e := by omega
      subst this
      simp only [go_sem, ↓reduceIte, t0, t5, t7, t8, hlt', encW]
      exact .mk (by simp only [go_sem, ↓reduceIte, encW])

end Go.Proofs.YtdbmdaefmlflaaaGreatDoor

set_option linter.unusedVariables false
set_option linter.unusedSimpArgs false
set_option maxRecDepth 10000
namespace Go.Proofs.YtdbmdaefmlflaaaGreatDoor
open Go Go.Ab Go.Num

def powQ (q : Rat) (e : Int) : Rat := if e < 0 then (q ^ e.natAbs)⁻¹ else q ^ e.natAbs

theorem pow_sg (n : Bool) (m t : Nat) : (sg n m) ^ t = sg (n && decide (t % 2 = 1)) (m ^ t) := by
  induction t with
  | zero => cases n <;> simp [sg]
  | succ t ih =>
    rw [Int.pow_succ, ih, sg_mul, ← Nat.pow_succ]
    congr 1
    have : t % 2 = 0 ∨ t % 2 = 1 := by omega
    cases n
    · rfl
    · rcases this with h | h
      · rw [h, show (t + 1) % 2 = 1 by omega]; rfl
      · rw [h, show (t + 1) % 2 = 0 by omega]; rfl

theorem powQ_nonneg {q : Rat} {e : Int} (h : ¬ e < 0) : encQ (powQ q e) = .agg [.bool ((decide (q.num < 0) && decide (e.natAbs % 2 = 1)) && decide (0 < q.num.natAbs ^ e.natAbs)), encW (dig (q.num.natAbs ^ e.natAbs)), encW (dig (q.den ^ e.natAbs))] := by
  have hn : (q ^ e.natAbs).num = sg (decide (q.num < 0) && decide (e.natAbs % 2 = 1)) (q.num.natAbs ^ e.natAbs) := by
    rw [Rat.num_pow]; conv => lhs; rw [← sg_self q.num]
    exact pow_sg _ _ _
  simp only [powQ, if_neg h, encQ, encR, cq, hn, sg_neg, sg_natAbs, Rat.den_pow]
theorem powQ_neg {q : Rat} {e : Int} (h : e < 0) (hq : q ≠ 0) : encQ (powQ q e) = .agg [.bool ((decide (q.num < 0) && decide (e.natAbs % 2 = 1)) && decide (0 < q.den ^ e.natAbs)), encW (dig (q.den ^ e.natAbs)), encW (dig (q.num.natAbs ^ e.natAbs))] := by
  have hn : (q ^ e.natAbs).num = sg (decide (q.num < 0) && decide (e.natAbs % 2 = 1)) (q.num.natAbs ^ e.natAbs) := by
    rw [Rat.num_pow]; conv => lhs; rw [← sg_self q.num]
    exact pow_sg _ _ _
  have hq0 : q.num.natAbs ≠ 0 := by rw [Ne, Int.natAbs_eq_zero, Rat.num_eq_zero]; exact hq
  have hp0 : q.num.natAbs ^ e.natAbs ≠ 0 := Nat.ne_of_gt (Nat.pow_pos (Nat.pos_of_ne_zero hq0))
  have hn0 : (q ^ e.natAbs).num ≠ 0 := by rw [hn, Ne, sg_eq_zero]; exact hp0
  have hs : (q ^ e.natAbs)⁻¹.num = sg (decide (q.num < 0) && decide (e.natAbs % 2 = 1)) (q.den ^ e.natAbs) := by
    rw [Rat.num_inv, hn, sg_sign, if_neg hp0, Rat.den_pow]
    cases (decide (q.num < 0) && decide (e.natAbs % 2 = 1)) <;> simp [sg]
  have hd : (q ^ e.natAbs)⁻¹.den = q.num.natAbs ^ e.natAbs := by rw [Rat.den_inv, if_neg hn0, hn, sg_natAbs]
  simp only [powQ, if_pos h, encQ, encR, cq, hs, hd, sg_neg, sg_natAbs]

theorem qw_powQ (q : Rat) (e : Int) (he : e.natAbs ≤ 8) : qw (powQ q e) ≤ 8 * qw q := by
  have h := qw_pow q e.natAbs
  have h2 := qw_inv (q ^ e.natAbs)
  have h3 : e.natAbs * qw q ≤ 8 * qw q := Nat.mul_le_mul_right _ he
  have h4 := qw_pos q
  unfold powQ
  split <;> omega

set_option maxRecDepth 10000 in
set_option maxHeartbeats 1000000 in
theorem c_fpow0 (f : Fr) (e : Int) (hf : okR 20000 f) (h : e < -8 ∨ 8 < e ∨ (e < 0 ∧ rv f = 0)) : PCalls Tryz.prog 133 [encR f, .int .i64 e] (.tup [encQ 0, .bool false]) := by
  have hs := c_fsign f (hf.mono (by omega))
  have ho := c_fof 0 (by omega) (by omega)
  rw [show ((0 : Int) : Rat) = 0 from rfl] at ho
  refine pcalls_of_AWR (pa := []) (fn := Tryz.f133) (rs := [.cell 4 42, .tmp 5]) follows_mixed Tryz.func133 rfl rfl (by kernel_rfl) (by kernel_rfl) (by rw [Tryz.ntmps133]; simp) ?_
  by_cases h1 : e < -8
  · simp only [go_sem, ↓reduceIte, dec_true h1, encR, encW]
    refine callS_p ho ?_
    simp only [go_sem, ↓reduceIte, encQ, encR, encW]
    exact .mk (by simp only [go_sem, ↓reduceIte, encQ, encR, encW])
  · by_cases h2 : 8 < e
    · simp only [go_sem, ↓reduceIte, dec_false h1, dec_true h2, encR, encW]
      refine callS_p ho ?_
      simp only [go_sem, ↓reduceIte, encQ, encR, encW]
      exact .mk (by simp only [go_sem, ↓reduceIte, encQ, encR, encW])
    · have h3 : e < 0 ∧ rv f = 0 := by rcases h with h | h | h; exact absurd h h1; exact absurd h h2; exact h
      rw [h3.2] at hs
      simp only [go_sem, ↓reduceIte, dec_false h1, dec_false h2, dec_true h3.1, encR, encW]
      refine callS_p hs ?_
      simp only [go_sem, ↓reduceIte, show (0 : Rat).num.sign = 0 from rfl]
      refine callS_p ho ?_
      simp only [go_sem, ↓reduceIte, encQ, encR, encW]
      exact .mk (by simp only [go_sem, ↓reduceIte, encQ, encR, encW])

set_option maxRecDepth 10000 in
set_option maxHeartbeats 2000000 in
theorem c_fpow (f : Fr) (e : Int) (hf : okR 9000 f) (h1 : -8 ≤ e) (h2 : e ≤ 8) (h3 : e < 0 → rv f ≠ 0) : PCalls Tryz.prog 133 [encR f, .int .i64 e] (.tup [encQ (powQ (rv f) e), .bool true]) := by
  have hs := c_fsign f (hf.mono (by omega))
  have hn := c_fnorm f (hf.mono (by omega))
  have hw := qw_rv hf (by omega)
  have hl1 : (dig (rv f).num.natAbs).length ≤ 9000 := by unfold qw at hw; omega
  have hl2 : (dig (rv f).den).length ≤ 9000 := by unfold qw at hw; omega
  have hp1 := c_power (dig (rv f).num.natAbs) e.natAbs (wd_dig _) (by omega) (by omega)
  have hp2 := c_power (dig (rv f).den) e.natAbs (wd_dig _) (by omega) (by omega)
  have hlen : ∀ m t, (dig m).length ≤ 9000 → t ≤ 8 → (dig (m ^ t)).length < 1000000 := fun m t hm ht => by
    have : ∀ i, (dig (m ^ i)).length ≤ i * 9000 + 1 := fun i => by
      induction i with
      | zero => rw [Nat.pow_zero]; exact dig_len_le.2 (by decide)
      | succ i ih => rw [Nat.pow_succ]; have := dig_mul_len (m ^ i) m; omega
    have := this t
    omega
  rw [val_dig] at hp1 hp2
  generalize rv f = q at *
  have hu1 := fun neg => c_wnorm neg (dig (q.num.natAbs ^ e.natAbs)) (wd_dig _) (hlen _ _ hl1 (by omega))
  have hu2 := fun neg => c_wnorm neg (dig (q.den ^ e.natAbs)) (wd_dig _) (hlen _ _ hl2 (by omega))
  simp only [val_dig, encZ_sg] at hu1 hu2
  have wn : IntKind.i64.wrap (0 - e) = -e := by rw [wrap64_id (by omega) (by omega)]; omega
  have g1 := dec_false (show ¬ e < -8 by omega)
  have g2 := dec_false (show ¬ 8 < e by omega)
  have hodd : decide ((((e.natAbs % 2 : Nat) : Int)) = 1) = decide (e.natAbs % 2 = 1) := by
    by_cases h : e.natAbs % 2 = 1
    · rw [decide_eq_true h]; exact decide_eq_true (by omega)
    · rw [decide_eq_false h]; exact decide_eq_false (by omega)
  have hrem : ((e.natAbs : Nat) : Int).tmod 2 = ((e.natAbs % 2 : Nat) : Int) := tmod_nat _ 2
  by_cases hneg : e < 0
  · have hq0 := h3 hneg
    rw [powQ_neg hneg hq0]
    have hs0 : q.num.sign ≠ 0 := by rw [Ne, Int.sign_eq_zero_iff_zero, Rat.num_eq_zero]; exact hq0
    have hmx : (if e < -e then -e else e) = (e.natAbs : Nat) := by rw [if_pos (by omega)]; omega
    refine pcalls_of_AWR (pa := []) (fn := Tryz.f133) (rs := [.cell 4 42, .tmp 5]) follows_mixed Tryz.func133 rfl rfl (by kernel_rfl) (by kernel_rfl) (by rw [Tryz.ntmps133]; simp) ?_
    simp only [go_sem, ↓reduceIte, g1, g2, dec_true hneg, encR, encW]
    refine callS_p hs ?_
    simp only [go_sem, ↓reduceIte, beq_int, dec_false hs0, encR, encW]
    refine callS_p hn ?_
    simp only [go_sem, ↓reduceIte, encQ, encR, cq, encW, wn, hmx]
    refine callD_p hp1 ?_
    simp only [go_sem, ↓reduceIte, encQ, encR, cq, encW]
    refine callD_p hp2 ?_
    cases hsn : decide (q.num < 0) with
    | false =>
      have hu := hu2 false
      simp only [go_sem, ↓reduceIte, encQ, encR, cq, encW, dec_true hneg, hsn]
      refine callS_p hu ?_
      simp only [go_sem, ↓reduceIte, encW]
      exact .mk (by simp only [go_sem, ↓reduceIte, encW])
    | true =>
      have hu := hu2 (true && decide (e.natAbs % 2 = 1))
      rw [Bool.true_and] at hu ⊢
      simp only [go_sem, ↓reduceIte, encQ, encR, cq, encW, dec_true hneg, hsn, hrem, beq_int, hodd]
      refine callS_p hu ?_
      simp only [go_sem, ↓reduceIte, encW]
      exact .mk (by simp only [go_sem, ↓reduceIte, encW])
  · rw [powQ_nonneg hneg]
    have hmx : (if e < -e then -e else e) = (e.natAbs : Nat) := by
      by_cases h : e < -e
      · rw [if_pos h]; omega
      · rw [if_neg h]; omega
    refine pcalls_of_AWR (pa := []) (fn := Tryz.f133) (rs := [.cell 4 42, .tmp 5]) follows_mixed Tryz.func133 rfl rfl (by kernel_rfl) (by kernel_rfl) (by rw [Tryz.ntmps133]; simp) ?_
    simp only [go_sem, ↓reduceIte, g1, g2, dec_false hneg, encR, encW]
    refine callS_p hn ?_
    simp only [go_sem, ↓reduceIte, encQ, encR, cq, encW, wn, hmx]
    refine callD_p hp1 ?_
    simp only [go_sem, ↓reduceIte, encQ, encR, cq, encW]
    refine callD_p hp2 ?_
    cases hsn : decide (q.num < 0) with
    | false =>
      have hu := hu1 false
      simp only [go_sem, ↓reduceIte, encQ, encR, cq, encW, dec_false hneg, hsn]
      refine callS_p hu ?_
      simp only [go_sem, ↓reduceIte, encW]
      exact .mk (by simp only [go_sem, ↓reduceIte, encW])
    | true =>
      have hu := hu1 (true && decide (e.natAbs % 2 = 1))
      rw [Bool.true_and] at hu ⊢
      simp only [go_sem, ↓reduceIte, encQ, encR, cq, encW, dec_false hneg, hsn, hrem, beq_int, hodd]
      refine callS_p hu ?_
      simp only [go_sem, ↓reduceIte, encW]
      exact .mk (by simp only [go_sem, ↓reduceIte, encW])

/-- Is a fraction right? -/
def isR (f : Fr) : Bool := (f.neg == (cq (rv f)).neg) && ((f.n == (cq (rv f)).n) && (f.d == (cq (rv f)).d))
theorem isR_eq {f : Fr} (h : isR f = true) : f = cq (rv f) := by
  simp only [isR, Bool.and_eq_true, beq_iff_eq] at h
  obtain ⟨h1, h2, h3⟩ := h
  generalize cq (rv f) = c at *
  cases f; cases c
  simp only at h1 h2 h3
  subst h1; subst h2; subst h3; rfl
theorem isR_cq (q : Rat) : isR (cq q) = true := by simp [isR, rv_cq]
theorem list_beq {a b : List Nat} (ha : Wd a) (hb : Wd b) : (a == b) = (decide (a.length = b.length) && decide (val a = val b)) := by
  by_cases h : a = b
  · subst h; simp
  · have h1 : (a == b) = false := by simpa using h
    rw [h1]
    by_cases hl : a.length = b.length
    · have : ¬ val a = val b := fun e => h (wd_inj ha hb hl e)
      simp [this]
    · simp [hl]

set_option maxRecDepth 10000 in
set_option maxHeartbeats 2000000 in
theorem c_fright (f : Fr) (hf : okR 80000 f) : PCalls Tryz.prog 70 [encR f] (.bool (isR f)) := by
  have hn := c_fnorm f hf
  have hw := qw_rv hf (by omega)
  have hl1 : (cq (rv f)).n.length ≤ 80000 := by unfold qw at hw; simp only [cq]; omega
  have hl2 : (cq (rv f)).d.length ≤ 80000 := by unfold qw at hw; simp only [cq]; omega
  have hw1 : Wd (cq (rv f)).n := wd_dig _
  have hw2 : Wd (cq (rv f)).d := wd_dig _
  have k1 := c_ncmp f.n (cq (rv f)).n hf.1 hw1 (by have := hf.2.2.1; omega) (by omega)
  have k2 := c_ncmp f.d (cq (rv f)).d hf.2.1 hw2 (by have := hf.2.2.2; omega) (by omega)
  have hb : isR f = ((f.neg == (cq (rv f)).neg) && ((decide (f.n.length = (cq (rv f)).n.length) && decide (val f.n = val (cq (rv f)).n)) && (decide (f.d.length = (cq (rv f)).d.length) && decide (val f.d = val (cq (rv f)).d)))) := by
    rw [isR, list_beq hf.1 hw1, list_beq hf.2.1 hw2]
  rw [hb]
  unfold encQ at hn
  generalize cq (rv f) = c at *
  have cz : ∀ x y : Nat, decide (cmpN x y = 0) = decide (x = y) := fun x y => by
    by_cases h : x = y
    · rw [decide_eq_true h, decide_eq_true (cmpN_zero.2 h)]
    · rw [decide_eq_false h, decide_eq_false (fun h' => h (cmpN_zero.1 h'))]
  have cl : ∀ x y : Nat, decide (((x : Nat) : Int) = (y : Nat)) = decide (x = y) := fun x y => by rw [← beq_int, beq_nat]
  refine pcalls_of_AW (pa := []) (fn := Tryz.f70) (ts := [2]) follows_mixed Tryz.func70 rfl rfl (by kernel_rfl) (by kernel_rfl) (by rw [Tryz.ntmps70]; simp) ?_
  simp only [go_sem, ↓reduceIte, encR, encW]
  refine callS_p hn ?_
  cases e1 : (f.neg == c.neg) with
  | false =>
    simp only [go_sem, ↓reduceIte, encR, encW, e1]
    exact .mk (by simp only [go_sem, ↓reduceIte])
  | true =>
    by_cases e2 : f.n.length = c.n.length
    · by_cases e3 : f.d.length = c.d.length
      · simp only [go_sem, ↓reduceIte, encR, encW, e1, beq_int, cl, dec_true e2, dec_true e3]
        refine callS_p k1 ?_
        by_cases e4 : val f.n = val c.n
        · simp only [go_sem, ↓reduceIte, encR, encW, beq_int, cz, dec_true e4]
          refine callS_p k2 ?_
          simp only [go_sem, ↓reduceIte, encR, encW, beq_int, cz]
          exact .mk (by simp only [go_sem, ↓reduceIte])
        · simp only [go_sem, ↓reduceIte, encR, encW, beq_int, cz, dec_false e4]
          exact .mk (by simp only [go_sem, ↓reduceIte])
      · simp only [go_sem, ↓reduceIte, encR, encW, e1, beq_int, cl, dec_true e2, dec_false e3]
        exact .mk (by simp only [go_sem, ↓reduceIte])
    · simp only [go_sem, ↓reduceIte, encR, encW, e1, beq_int, cl, dec_false e2]
      exact .mk (by simp only [go_sem, ↓reduceIte])

end Go.Proofs.YtdbmdaefmlflaaaGreatDoor

set_option linter.unusedVariables false
set_option linter.unusedSimpArgs false
set_option maxRecDepth 10000
namespace Go.Proofs.YtdbmdaefmlflaaaGreatDoor
open Go Go.Ab Go.Num

/-- An instruction, a tape. -/
structure Ins where
  op : Int
  a : Int
  b : Int
  n : Fr
structure Tp where
  code : List Ins
  outs : List Int
  dim : Int
  par : Int
def i64 (n : Int) : AV := .int .i64 n
def encI (i : Ins) : AV := .agg [.int .i64 i.op, .int .i64 i.a, .int .i64 i.b, .bool i.n.neg, encW i.n.n, encW i.n.d]
def encT (t : Tp) : AV := .agg [.sl 6 (t.code.map encI), .sl 1 (t.outs.map i64), .int .i64 t.dim, .int .i64 t.par]

def belowB (i n : Int) : Bool := decide (0 ≤ i) && decide (i < n)
theorem c_below (i n : Int) : PCalls Tryz.prog 55 [.int .i64 i, .int .i64 n] (.bool (belowB i n)) := by
  unfold belowB
  refine pcalls_of_AW (pa := []) (fn := Tryz.f55) (ts := [4]) follows_mixed Tryz.func55 rfl rfl (by kernel_rfl) (by kernel_rfl) (by rw [Tryz.ntmps55]; simp) ?_
  by_cases h : 0 ≤ i
  · simp only [go_sem, ↓reduceIte, dec_true h]
    exact .mk (by simp only [go_sem, ↓reduceIte])
  · simp only [go_sem, ↓reduceIte, dec_false h]
    exact .mk (by simp only [go_sem, ↓reduceIte])

theorem c_of147 (i : Ins) : PCalls Tryz.prog 69 [encI i] (.agg [.int .i64 i.op, .int .i64 i.a, .int .i64 i.b]) := by
  refine pcalls_of_AWR (pa := []) (fn := Tryz.f69) (rs := [.cell 2 147]) follows_mixed Tryz.func69 rfl rfl (by kernel_rfl) (by kernel_rfl) (by rw [Tryz.ntmps69]; simp) ?_
  simp only [go_sem, ↓reduceIte, encI, encW]
  exact .mk (by simp only [go_sem, ↓reduceIte])

def blankB (f : Fr) : Bool := !f.neg && (decide (f.n = []) && decide (f.d = []))
theorem c_blank (f : Fr) : PCalls Tryz.prog 71 [encR f] (.bool (blankB f)) := by
  have hz : ∀ l : List Nat, (((l.length : Nat) : Int) == 0) = decide (l = []) := fun l => by
    cases l with
    | nil => rfl
    | cons x l => rw [beq_int, decide_eq_false (by simp only [List.length_cons]; omega)]; rfl
  unfold blankB
  refine pcalls_of_AW (pa := []) (fn := Tryz.f71) (ts := [2]) follows_mixed Tryz.func71 rfl rfl (by kernel_rfl) (by kernel_rfl) (by rw [Tryz.ntmps71]; simp) ?_
  cases h1 : f.neg with
  | true =>
    simp only [go_sem, ↓reduceIte, encR, encW, h1]
    exact .mk (by simp only [go_sem, ↓reduceIte])
  | false =>
    by_cases h2 : f.n = []
    · simp only [go_sem, ↓reduceIte, encR, encW, h1, hz, dec_true h2]
      exact .mk (by simp only [go_sem, ↓reduceIte])
    · simp only [go_sem, ↓reduceIte, encR, encW, h1, hz, dec_false h2]
      exact .mk (by simp only [go_sem, ↓reduceIte])

def readsI (i : Ins) : List Int :=
  if i.op = 6 ∨ i.op = 11 then [i.a]
  else if i.op = 7 ∨ i.op = 8 ∨ i.op = 9 ∨ i.op = 10 then [i.a, i.b]
  else []

theorem c_reads (i : Ins) : PCalls Tryz.prog 72 [encI i] (.sl 1 ((readsI i).map i64)) := by
  unfold readsI
  refine pcalls_of_AW (pa := []) (fn := Tryz.f72) (ts := [2]) follows_mixed Tryz.func72 rfl rfl (by kernel_rfl) (by kernel_rfl) (by rw [Tryz.ntmps72]; simp) ?_
  by_cases h6 : i.op = 6
  · rw [if_pos (.inl h6)]
    simp only [go_sem, ↓reduceIte, encI, encW, beq_int, dec_true h6, i64]
    exact .mk (by simp only [go_sem, ↓reduceIte])
  by_cases h11 : i.op = 11
  · rw [if_pos (.inr h11)]
    simp only [go_sem, ↓reduceIte, encI, encW, beq_int, dec_false h6, dec_true h11, i64]
    exact .mk (by simp only [go_sem, ↓reduceIte])
  rw [if_neg (by omega)]
  by_cases h7 : i.op = 7
  · rw [if_pos (.inl h7)]
    simp only [go_sem, ↓reduceIte, encI, encW, beq_int, dec_false h6, dec_false h11, dec_true h7, i64]
    exact .mk (by simp only [go_sem, ↓reduceIte])
  by_cases h8 : i.op = 8
  · rw [if_pos (.inr (.inl h8))]
    simp only [go_sem, ↓reduceIte, encI, encW, beq_int, dec_false h6, dec_false h11, dec_false h7, dec_true h8, i64]
    exact .mk (by simp only [go_sem, ↓reduceIte])
  by_cases h9 : i.op = 9
  · rw [if_pos (.inr (.inr (.inl h9)))]
    simp only [go_sem, ↓reduceIte, encI, encW, beq_int, dec_false h6, dec_false h11, dec_false h7, dec_false h8, dec_true h9, i64]
    exact .mk (by simp only [go_sem, ↓reduceIte])
  by_cases h10 : i.op = 10
  · rw [if_pos (.inr (.inr (.inr h10)))]
    simp only [go_sem, ↓reduceIte, encI, encW, beq_int, dec_false h6, dec_false h11, dec_false h7, dec_false h8, dec_false h9, dec_true h10, i64]
    exact .mk (by simp only [go_sem, ↓reduceIte])
  rw [if_neg (by omega)]
  simp only [go_sem, ↓reduceIte, encI, encW, beq_int, dec_false h6, dec_false h11, dec_false h7, dec_false h8, dec_false h9, dec_false h10]
  exact AV.le_nil 1

def wholeB (t : Tp) : Bool := belowB (IntKind.i64.wrap (t.dim - 1)) 6 && (belowB t.par 7 && (decide ((t.outs.length : Int) = t.dim) && decide ((t.code.length : Int) ≤ 300)))
set_option maxRecDepth 10000 in
theorem c_whole (t : Tp) : PCalls Tryz.prog 53 [encT t] (.bool (wholeB t)) := by
  unfold wholeB
  have h1 := c_below (IntKind.i64.wrap (t.dim - 1)) 6
  have h2 := c_below t.par 7
  refine pcalls_of_AW (pa := []) (fn := Tryz.f53) (ts := [2]) follows_mixed Tryz.func53 rfl rfl (by kernel_rfl) (by kernel_rfl) (by rw [Tryz.ntmps53]; simp) ?_
  simp only [go_sem, ↓reduceIte, encT]
  refine callS_p h1 ?_
  cases e1 : belowB (IntKind.i64.wrap (t.dim - 1)) 6 with
  | false =>
    simp only [go_sem, ↓reduceIte]
    exact .mk (by simp only [go_sem, ↓reduceIte])
  | true =>
    simp only [go_sem, ↓reduceIte]
    refine callS_p h2 ?_
    cases e2 : belowB t.par 7 with
    | false =>
      simp only [go_sem, ↓reduceIte]
      exact .mk (by simp only [go_sem, ↓reduceIte])
    | true =>
      by_cases e3 : (t.outs.length : Int) = t.dim
      · simp only [go_sem, ↓reduceIte, beq_int, dec_true e3]
        exact .mk (by simp only [go_sem, ↓reduceIte])
      · simp only [go_sem, ↓reduceIte, beq_int, dec_false e3]
        exact .mk (by simp only [go_sem, ↓reduceIte])
end Go.Proofs.YtdbmdaefmlflaaaGreatDoor

set_option linter.unusedVariables false
set_option linter.unusedSimpArgs false
set_option maxRecDepth 10000
namespace Go.Proofs.YtdbmdaefmlflaaaGreatDoor
open Go Go.Ab Go.Num

/-- What the numbers of an instruction that is no constant must be, but for its operands. -/
def kindB (t : Tp) (i : Ins) : Bool :=
  if i.op = 2 then decide (i.a = 0) && decide (i.b = 0)
  else if i.op = 3 then belowB i.a t.dim && decide (i.b = 0)
  else if i.op = 4 then belowB i.a t.par && decide (i.b = 0)
  else if i.op = 6 then decide (i.b = 0)
  else if i.op = 11 then decide (-8 ≤ i.b) && decide (i.b ≤ 8)
  else decide (i.op = 7 ∨ i.op = 8 ∨ i.op = 9 ∨ i.op = 10)
def mayB (t : Tp) (i : Ins) (k : Nat) : Bool :=
  if i.op = 1 then (decide (i.a = 0) && decide (i.b = 0)) && isR i.n
  else blankB i.n && ((readsI i).all (fun r => belowB r k) && kindB t i)


theorem getD_two (a b d : AV) : [a, b].getD 1 d = b := rfl
theorem lt_cast {k n : Nat} (h : k < n) : decide ((k : Int) < (n : Int)) = true := decide_eq_true (by omega)


set_option maxRecDepth 10000 in
theorem c_may1 (t : Tp) (k : Nat) (hk : k < t.code.length) (i : Ins) (hi : t.code[k] = i) (hf : okR 80000 i.n) (h1 : i.op = 1) : PCalls Tryz.prog 54 [encT t, .int .i64 (k : Nat)] (.bool (mayB t i k)) := by
  have hr := c_fright i.n hf
  have ho := c_of147 i
  have hb := c_blank i.n
  have hlt : ((k : Int) < (t.code.length : Int)) = True := eq_true (by omega)
  unfold mayB
  rw [if_pos h1]
  refine pcalls_of_AW (pa := []) (fn := Tryz.f54) (ts := [4]) follows_mixed Tryz.func54 rfl rfl (by kernel_rfl) (by kernel_rfl) (by rw [Tryz.ntmps54]; simp) ?_
  simp only [go_sem, ↓reduceIte, encT, getD_map_lt encI t.code k .undef hk, toNat_cast, hlt]
  rw [hi]
  simp only [go_sem, ↓reduceIte, encI, encW]
  simp only [go_sem, ↓reduceIte, encI, encW, beq_int, dec_true h1]
  refine callS_p ho ?_
  by_cases e1 : i.a = 0
  · by_cases e2 : i.b = 0
    · simp only [go_sem, ↓reduceIte, encI, encW, beq_int, dec_true h1, dec_true e1, dec_true e2]
      refine callS_p hr ?_
      simp only [go_sem, ↓reduceIte]
      exact .mk (by simp only [go_sem, ↓reduceIte])
    · simp only [go_sem, ↓reduceIte, encI, encW, beq_int, dec_true h1, dec_true e1, dec_false e2]
      exact .mk (by simp only [go_sem, ↓reduceIte])
  · simp only [go_sem, ↓reduceIte, encI, encW, beq_int, dec_true h1, dec_false e1]
    exact .mk (by simp only [go_sem, ↓reduceIte])

set_option maxRecDepth 10000 in
theorem c_may0 (t : Tp) (k : Nat) (hk : k < t.code.length) (i : Ins) (hi : t.code[k] = i) (hf : okR 80000 i.n) (h1 : i.op ≠ 1) (hr0 : readsI i = []) : PCalls Tryz.prog 54 [encT t, .int .i64 (k : Nat)] (.bool (mayB t i k)) := by
  have hr := c_fright i.n hf
  have ho := c_of147 i
  have hb := c_blank i.n
  have hlt : ((k : Int) < (t.code.length : Int)) = True := eq_true (by omega)
  have hrd := c_reads i
  have h6 : ¬ i.op = 6 := fun h => by rw [readsI, if_pos (.inl h)] at hr0; cases hr0
  have h11 : ¬ i.op = 11 := fun h => by rw [readsI, if_pos (.inr h)] at hr0; cases hr0
  have h7 : ¬ (i.op = 7 ∨ i.op = 8 ∨ i.op = 9 ∨ i.op = 10) := fun h => by rw [readsI, if_neg (by omega), if_pos h] at hr0; cases hr0
  rw [hr0, List.map_nil] at hrd
  unfold mayB
  rw [if_neg h1, hr0, List.all_nil, Bool.true_and]
  have p1 := c_below i.a t.dim
  have p2 := c_below i.a t.par
  refine pcalls_of_AW (pa := []) (fn := Tryz.f54) (ts := [4]) follows_mixed Tryz.func54 rfl rfl (by kernel_rfl) (by kernel_rfl) (by rw [Tryz.ntmps54]; simp) ?_
  simp only [go_sem, ↓reduceIte, encT, getD_map_lt encI t.code k .undef hk, toNat_cast, hlt]
  rw [hi]
  simp only [go_sem, ↓reduceIte, encI, encW]
  simp only [go_sem, ↓reduceIte, encI, encW, beq_int, dec_false h1]
  refine callS_p hb ?_
  cases eb : blankB i.n with
  | false =>
    simp only [go_sem, ↓reduceIte]
    exact .mk (by simp only [go_sem, ↓reduceIte])
  | true =>
  simp only [go_sem, ↓reduceIte]
  refine callS_p hrd ?_
  simp only [go_sem, ↓reduceIte, AW_loop, cast0, cast1, cast2]
  by_cases h2 : i.op = 2
  · simp only [go_sem, ↓reduceIte, encI, encW, beq_int, kindB, if_pos h2, dec_true h2]
    refine callS_p ho ?_
    by_cases e1 : i.a = 0
    · simp only [go_sem, ↓reduceIte, beq_int, dec_true h2, dec_true e1]
      exact .mk (by simp only [go_sem, ↓reduceIte])
    · simp only [go_sem, ↓reduceIte, beq_int, dec_true h2, dec_false e1]
      exact .mk (by simp only [go_sem, ↓reduceIte])
  by_cases h3 : i.op = 3
  · simp only [go_sem, ↓reduceIte, encI, encW, beq_int, kindB, if_neg h2, if_pos h3, dec_false h2, dec_true h3]
    refine callS_p p1 ?_
    cases e1 : belowB i.a t.dim with
    | true =>
      simp only [go_sem, ↓reduceIte, beq_int]
      exact .mk (by simp only [go_sem, ↓reduceIte])
    | false =>
      simp only [go_sem, ↓reduceIte, beq_int]
      exact .mk (by simp only [go_sem, ↓reduceIte])
  by_cases h4 : i.op = 4
  · simp only [go_sem, ↓reduceIte, encI, encW, beq_int, kindB, if_neg h2, if_neg h3, if_pos h4, dec_false h2, dec_false h3, dec_true h4]
    refine callS_p p2 ?_
    cases e1 : belowB i.a t.par with
    | true =>
      simp only [go_sem, ↓reduceIte, beq_int]
      exact .mk (by simp only [go_sem, ↓reduceIte])
    | false =>
      simp only [go_sem, ↓reduceIte, beq_int]
      exact .mk (by simp only [go_sem, ↓reduceIte])
  simp only [go_sem, ↓reduceIte, encI, encW, beq_int, kindB, if_neg h2, if_neg h3, if_neg h4, if_neg h6, if_neg h11, dec_false h2, dec_false h3, dec_false h4, dec_false h6, dec_false h11, dec_false h7]
  refine callS_p hrd ?_
  simp only [go_sem, ↓reduceIte, cast0, cast2]
  exact .mk (by simp only [go_sem, ↓reduceIte])

set_option maxRecDepth 10000 in
theorem c_may11 (t : Tp) (k : Nat) (hk : k < t.code.length) (i : Ins) (hi : t.code[k] = i) (hf : okR 80000 i.n) (h1 : i.op = 6 ∨ i.op = 11) : PCalls Tryz.prog 54 [encT t, .int .i64 (k : Nat)] (.bool (mayB t i k)) := by
  have hr := c_fright i.n hf
  have ho := c_of147 i
  have hb := c_blank i.n
  have hlt : ((k : Int) < (t.code.length : Int)) = True := eq_true (by omega)
  have hrd := c_reads i
  have hr0 : readsI i = [i.a] := by rw [readsI, if_pos h1]
  rw [hr0, List.map_cons, List.map_nil] at hrd
  unfold i64 at hrd
  have h6 := h1
  replace h1 : ¬ i.op = 1 := by omega
  have h2 : ¬ i.op = 2 := by omega
  have h3 : ¬ i.op = 3 := by omega
  have h4 : ¬ i.op = 4 := by omega
  unfold mayB
  rw [if_neg h1, hr0, List.all_cons, List.all_nil, Bool.and_true]
  have p1 := c_below i.a (k : Nat)
  refine pcalls_of_AW (pa := []) (fn := Tryz.f54) (ts := [4]) follows_mixed Tryz.func54 rfl rfl (by kernel_rfl) (by kernel_rfl) (by rw [Tryz.ntmps54]; simp) ?_
  simp only [go_sem, ↓reduceIte, encT, getD_map_lt encI t.code k .undef hk, toNat_cast, hlt]
  rw [hi]
  simp only [go_sem, ↓reduceIte, encI, encW]
  simp only [go_sem, ↓reduceIte, encI, encW, beq_int, dec_false h1]
  refine callS_p hb ?_
  cases eb : blankB i.n with
  | false =>
    simp only [go_sem, ↓reduceIte]
    exact .mk (by simp only [go_sem, ↓reduceIte])
  | true =>
  simp only [go_sem, ↓reduceIte]
  refine callS_p hrd ?_
  simp only [go_sem, ↓reduceIte, AW_loop, cast0, cast1, cast2]
  refine callS_p p1 ?_
  cases e1 : belowB i.a (k : Nat) with
  | false =>
    simp only [go_sem, ↓reduceIte]
    exact .mk (by simp only [go_sem, ↓reduceIte])
  | true =>
  simp only [go_sem, ↓reduceIte, w01, cast1, cast2]
  rw [AW_inLoop]
  simp only [go_sem, ↓reduceIte]
  by_cases h6 : i.op = 6
  · simp only [go_sem, ↓reduceIte, encI, encW, beq_int, kindB, if_neg h2, if_neg h3, if_neg h4, if_pos h6, dec_false h2, dec_false h3, dec_false h4, dec_true h6]
    exact .mk (by simp only [go_sem, ↓reduceIte])
  · have h11 : i.op = 11 := by omega
    by_cases e2 : -8 ≤ i.b
    · simp only [go_sem, ↓reduceIte, encI, encW, beq_int, kindB, if_neg h2, if_neg h3, if_neg h4, if_neg h6, if_pos h11, dec_false h2, dec_false h3, dec_false h4, dec_false h6, dec_true h11, dec_true e2]
      exact .mk (by simp only [go_sem, ↓reduceIte])
    · simp only [go_sem, ↓reduceIte, encI, encW, beq_int, kindB, if_neg h2, if_neg h3, if_neg h4, if_neg h6, if_pos h11, dec_false h2, dec_false h3, dec_false h4, dec_false h6, dec_true h11, dec_false e2]
      exact .mk (by simp only [go_sem, ↓reduceIte])

set_option maxRecDepth 10000 in
theorem c_may2 (t : Tp) (k : Nat) (hk : k < t.code.length) (i : Ins) (hi : t.code[k] = i) (hf : okR 80000 i.n) (h1 : i.op = 7 ∨ i.op = 8 ∨ i.op = 9 ∨ i.op = 10) : PCalls Tryz.prog 54 [encT t, .int .i64 (k : Nat)] (.bool (mayB t i k)) := by
  have hr := c_fright i.n hf
  have ho := c_of147 i
  have hb := c_blank i.n
  have hlt : ((k : Int) < (t.code.length : Int)) = True := eq_true (by omega)
  have hrd := c_reads i
  have hr0 : readsI i = [i.a, i.b] := by rw [readsI, if_neg (by omega), if_pos h1]
  rw [hr0, List.map_cons, List.map_cons, List.map_nil] at hrd
  unfold i64 at hrd
  have h7 := h1
  replace h1 : ¬ i.op = 1 := by omega
  have h2 : ¬ i.op = 2 := by omega
  have h3 : ¬ i.op = 3 := by omega
  have h4 : ¬ i.op = 4 := by omega
  have h6 : ¬ i.op = 6 := by omega
  have h11 : ¬ i.op = 11 := by omega
  unfold mayB
  rw [if_neg h1, hr0, List.all_cons, List.all_cons, List.all_nil, Bool.and_true]
  have p1 := c_below i.a (k : Nat)
  have p2 := c_below i.b (k : Nat)
  refine pcalls_of_AW (pa := []) (fn := Tryz.f54) (ts := [4]) follows_mixed Tryz.func54 rfl rfl (by kernel_rfl) (by kernel_rfl) (by rw [Tryz.ntmps54]; simp) ?_
  simp only [go_sem, ↓reduceIte, encT, getD_map_lt encI t.code k .undef hk, toNat_cast, hlt]
  rw [hi]
  simp only [go_sem, ↓reduceIte, encI, encW]
  simp only [go_sem, ↓reduceIte, encI, encW, beq_int, dec_false h1]
  refine callS_p hb ?_
  cases eb : blankB i.n with
  | false =>
    simp only [go_sem, ↓reduceIte]
    exact .mk (by simp only [go_sem, ↓reduceIte])
  | true =>
  simp only [go_sem, ↓reduceIte]
  refine callS_p hrd ?_
  simp only [go_sem, ↓reduceIte, AW_loop, cast0, cast1, cast2]
  refine callS_p p1 ?_
  cases e1 : belowB i.a (k : Nat) with
  | false =>
    simp only [go_sem, ↓reduceIte]
    exact .mk (by simp only [go_sem, ↓reduceIte])
  | true =>
  simp only [go_sem, ↓reduceIte, w01, cast1, cast2]
  rw [AW_inLoop]
  simp only [go_sem, ↓reduceIte, cast2, getD_two]
  refine callS_p p2 ?_
  cases e2 : belowB i.b (k : Nat) with
  | false =>
    simp only [go_sem, ↓reduceIte]
    exact .mk (by simp only [go_sem, ↓reduceIte])
  | true =>
  simp only [go_sem, ↓reduceIte, w12, cast2]
  rw [AW_inLoop]
  simp only [go_sem, ↓reduceIte, encI, encW, beq_int, kindB, if_neg h2, if_neg h3, if_neg h4, if_neg h6, if_neg h11, dec_false h2, dec_false h3, dec_false h4, dec_false h6, dec_false h11, dec_true h7]
  refine callS_p hrd ?_
  simp only [go_sem, ↓reduceIte, cast0, cast2]
  exact .mk (by simp only [go_sem, ↓reduceIte])

theorem c_may (t : Tp) (k : Nat) (hk : k < t.code.length) (hf : okR 80000 t.code[k].n) : PCalls Tryz.prog 54 [encT t, .int .i64 (k : Nat)] (.bool (mayB t t.code[k] k)) := by
  generalize hi : t.code[k] = i at *
  by_cases h1 : i.op = 1
  · exact c_may1 t k hk i hi hf h1
  by_cases h6 : i.op = 6 ∨ i.op = 11
  · exact c_may11 t k hk i hi hf h6
  by_cases h7 : i.op = 7 ∨ i.op = 8 ∨ i.op = 9 ∨ i.op = 10
  · exact c_may2 t k hk i hi hf h7
  · exact c_may0 t k hk i hi hf h1 (by rw [readsI, if_neg h6, if_neg h7])
end Go.Proofs.YtdbmdaefmlflaaaGreatDoor
