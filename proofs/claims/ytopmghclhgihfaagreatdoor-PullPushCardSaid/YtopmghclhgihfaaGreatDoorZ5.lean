/- Parts of the proof, joined: Q3, Q4, Q5, P3, P4, P5, G10, G11, G12, D1, D2, D3, D4, D5, D6, D7, Q6, Q7, RW, Ab17, B1, B2. -/
import Derived.Test.YtopmghclhgihfaaGreatDoorZ4

set_option linter.unusedVariables false
set_option linter.unusedSimpArgs false
set_option maxRecDepth 10000
namespace Go.Proofs.YtopmghclhgihfaaGreatDoor
open Go Go.Ab Go.Num

/-- A call that notes that a slope was too long. -/
def Slow (fs s : Nat) : Prop := (isSame Tryz.prog fs = false ∧ mkzT Tryz.prog fs = none) ∧ ∀ (H : Heap) (N : Nat), H s = some [.int .i64 0] → s < N → HCalls Tryz.prog fs [.ptr s 0] H N (fun v h' n' => v = .tup [] ∧ h' s = some [.int .i64 1] ∧ ∀ j, j < N → j ≠ s → h' j = H j)
def stageOf (l : Int) (x : Rat × Rat) : Int := if fitQ l x.1 then (if fitQ l x.2 then 0 else 1) else 0
set_option maxRecDepth 10000 in
theorem c_fitsD (g s fs : Nat) (x : Rat × Rat) (hx : small 80000 x) (h : Heap) (n : Nat) (l : Int) (hb : Gau h g l) (hs : h s = some [.int .i64 0]) (hgn : g < n) (hsn : s < n) (hgs : s ≠ g) (hsl : Slow fs s) : HCalls Tryz.prog 188 [.agg [.ptr g 0, .func fs [.ptr s 0]], encD x] h n (fun v h' n' => v = .bool (fitQ l x.1 && fitQ l x.2) ∧ Gau h' g l ∧ h' s = some [.int .i64 (stageOf l x)] ∧ ∀ j, j < n → j ≠ g → j ≠ s → h' j = h j) := by
  have h1 := fun H N (h1 : Gau H g l) (h2 : g < N) => c_gtake g (cq x.1) (okR_cq hx.1) H N l h1 h2
  have h2 := fun H N (h1 : Gau H g l) (h2 : g < N) => c_gtake g (cq x.2) (okR_cq hx.2) H N l h1 h2
  have e1 : decide ((fsz (cq x.1) : Int) ≤ l) = fitQ l x.1 := rfl
  have e2 : decide ((fsz (cq x.2) : Int) ≤ l) = fitQ l x.2 := rfl
  simp only [encR, encW, e1, e2] at h1 h2
  unfold stageOf
  refine hcalls_of_AWR (pa := []) (fn := Tryz.f188) (rs := [.tmp 4]) follows_mixed Tryz.func188 rfl rfl (by kernel_rfl) (by kernel_rfl) (by rw [Tryz.ntmps188]; simp) ?_
  simp only [go_sem, ↓reduceIte, encD, encW]
  refine callS_h (h1 _ _ (hb.eq (by simp only [go_sem, ↓reduceIte, upd1_old _ _ _ _ _ hgn, upd1_old0 _ _ _ _ hgn])) (by simp only [go_sem, ↓reduceIte] <;> omega)) ?_
  clear h1
  rintro v h' n' hn ⟨rfl, hg', hk⟩
  simp only [go_sem, ↓reduceIte] at hn hk
  have k0 : h' n = _ := hk n (by omega) (by omega)
  have k1 : h' (n + 1) = _ := hk (n + 1) (by omega) (by omega)
  have ks : h' s = h s := by rw [hk s (by omega) hgs]; simp only [go_sem, ↓reduceIte, upd1_old _ _ _ _ _ hsn, upd1_old0 _ _ _ _ hsn]
  have kk : ∀ j, j < n → j ≠ g → h' j = h j := fun j hj hjg => by rw [hk j (by omega) hjg]; simp only [go_sem, ↓reduceIte, upd1_old _ _ _ _ _ hj, upd1_old0 _ _ _ _ hj]
  clear hk
  simp only [go_sem, ↓reduceIte] at k0 k1
  cases f1 : fitQ l x.1 with
  | false =>
    simp only [go_sem, ↓reduceIte, k0, k1]
    refine .mk (.bool false) (by simp only [go_sem, ↓reduceIte, resR, resAll, resA] <;> rfl) ⟨rfl, hg', by simp only [go_sem, ↓reduceIte]; rw [ks, hs], fun j hj hjg hjs => by simp only [go_sem, ↓reduceIte]; exact kk j hj hjg⟩
  | true =>
    simp only [go_sem, ↓reduceIte, k0, k1]
    refine callS_h (h2 _ _ hg' (by simp only [go_sem, ↓reduceIte] <;> omega)) ?_
    clear h2
    rintro v h2 n2 hn2 ⟨rfl, hg2, hk2⟩
    simp only [go_sem, ↓reduceIte] at hn2 hk2
    have k0 : h2 n = _ := (hk2 n (by omega) (by omega)).trans k0
    have ks : h2 s = h s := (hk2 s (by omega) hgs).trans ks
    have kk : ∀ j, j < n → j ≠ g → h2 j = h j := fun j hj hjg => (hk2 j (by omega) hjg).trans (kk j hj hjg)
    clear hk2
    cases f2 : fitQ l x.2 with
    | true =>
      simp only [go_sem, ↓reduceIte]
      refine .mk (.bool true) (by simp only [go_sem, ↓reduceIte, resR, resAll, resA] <;> rfl) ⟨rfl, hg2, by simp only [go_sem, ↓reduceIte]; rw [ks, hs], fun j hj hjg hjs => by simp only [go_sem, ↓reduceIte]; exact kk j hj hjg⟩
    | false =>
      simp only [go_sem, ↓reduceIte, k0, hsl.1.1, hsl.1.2]
      refine callS_h (hsl.2 h2 (n2 + 3) (by rw [ks, hs]) (by omega)) ?_
      rintro v h4 n4 hn4 ⟨rfl, hs4, hk4⟩
      simp only [go_sem, ↓reduceIte] at hn4 hk4
      simp only [go_sem, ↓reduceIte]
      refine .mk (.bool false) (by simp only [go_sem, ↓reduceIte, resR, resAll, resA] <;> rfl) ⟨rfl, hg2.eq (by simp only [go_sem, ↓reduceIte]; exact hk4 g (by omega) (fun e => hgs e.symm)), by simp only [go_sem, ↓reduceIte]; exact hs4, fun j hj hjg hjs => by simp only [go_sem, ↓reduceIte]; rw [hk4 j (by omega) hjs]; exact kk j hj hjg⟩

/-- The run's own variables, where they lie. -/
structure RunHD (n g s fs : Nat) (l : Int) (t : Tp) (T : Rat × Rat) (Y P : List (Rat × Rat)) (H : Heap) : Prop where
  m : H n = some [.ptr g 0, .func fs [.ptr s 0]]
  t : H (n + 1) = some [.sl 6 (t.code.map encI), .sl 1 (t.outs.map i64), .int .i64 t.dim, .int .i64 t.par]
  i : H (n + 2) = some [.bool (cq T.1).neg, encW (cq T.1).n, encW (cq T.1).d, .bool (cq T.2).neg, encW (cq T.2).n, encW (cq T.2).d, .sl 6 (Y.map encD), .sl 6 (P.map encD)]
  f : H (n + 4) = some [.int .i64 0, .int .i64 0, .int .i64 0, .int .i64 0]
  g : Gau H g l
theorem RunHD.keep {n g s fs : Nat} {l : Int} {t : Tp} {T : Rat × Rat} {Y P : List (Rat × Rat)} {H H' : Heap} {N : Nat} (h : RunHD n g s fs l t T Y P H) (hn : n + 5 ≤ N) (hg : g < n) (hs : s < n) (hk : ∀ j, j < N → j ≠ g → j ≠ s → H' j = H j) (hgg : Gau H' g l) : RunHD n g s fs l t T Y P H' :=
  ⟨by rw [hk _ (by omega) (by omega) (by omega)]; exact h.m, by rw [hk _ (by omega) (by omega) (by omega)]; exact h.t, by rw [hk _ (by omega) (by omega) (by omega)]; exact h.i, by rw [hk _ (by omega) (by omega) (by omega)]; exact h.f, hgg⟩
theorem OwnD.keep {H H' : Heap} {N N' : Nat} {D : List (Rat × Rat)} {u : AV} (h : OwnD H N D u) (hN : N ≤ N') (hk : ∀ b o l e, u = .own b o l e → b < N → H' b = H b) : OwnD H' N' D u := by
  rcases h with h | ⟨b, h1, h2, h3⟩
  · exact .inl h
  · exact .inr ⟨b, h1, by rw [hk _ _ _ _ h1 h3, h2], by omega⟩
/-- What a run hands back. -/
def RunPD (h : Heap) (n g s : Nat) (r : List (Rat × Rat) × Int × Int × Int) (v : AV) (h' : Heap) (n' : Nat) : Prop := (∃ u, v = .tup [u, encF r.2.1 r.2.2.2] ∧ OwnD h' n' r.1 u ∧ ∀ b o l e, u = .own b o l e → n ≤ b) ∧ h' s = some [.int .i64 r.2.2.1] ∧ ∀ j, j < n → j ≠ g → j ≠ s → h' j = h j
theorem fitsD_small {l : Int} {x : Rat × Rat} (hl : l ≤ 4096) (h1 : fitQ l x.1 = true) (h2 : fitQ l x.2 = true) : small 200 x := ⟨fit_size hl h1, fit_size hl h2⟩
theorem turnP_size (q : Rat) (e : Int) (h1 : -8 ≤ e) (h2 : e ≤ 8) (hq : qw q ≤ 1000) : qw (turnQ q e (powQ q e)) ≤ 9000 :=
  turn_size q e _ (by omega) hq (Nat.le_trans (qw_powQ q e (by omega)) (by omega)) (by omega)
theorem stepD_size {T : Rat × Rat} {Y P : List (Rat × Rat)} {i : Ins} {D : List (Rat × Rat)} {y p : Nat} (hok : StepOkD i D y p) (hT : small 9000 T) (hY : ∀ q ∈ Y, small 9000 q) (hP : ∀ q ∈ P, small 9000 q) {x : Rat × Rat} (h : stepD T Y P i D = some x) : small 80000 x := by
  have hd : ∀ k : Nat, small 1000 (D.getD k (0, 0)) := fun k => by
    by_cases hk : k < D.length
    · exact hok.size _ (getD_mem hk)
    · rw [show D.getD k (0, 0) = (0, 0) by simp [List.getD, Nat.not_lt.1 hk]]; exact ⟨by rw [qw_zero]; omega, by rw [qw_zero]; omega⟩
  have hl : ∀ (L : List (Rat × Rat)), (∀ q ∈ L, small 9000 q) → ∀ k : Nat, small 9000 (L.getD k (0, 0)) := fun L h k => by
    by_cases hk : k < L.length
    · exact h _ (getD_mem hk)
    · rw [show L.getD k (0, 0) = (0, 0) by simp [List.getD, Nat.not_lt.1 hk]]; exact ⟨by rw [qw_zero]; omega, by rw [qw_zero]; omega⟩
  obtain ⟨a1, a2⟩ := hd i.a.toNat
  obtain ⟨b1, b2⟩ := hd i.b.toNat
  unfold stepD at h
  cases e : stepQ T.1 (Y.map (·.1)) (P.map (·.1)) i (D.map (·.1)) with
  | none => rw [e] at h; cases h
  | some v =>
    rw [e] at h
    simp only [Option.some.injEq] at h
    subst h
    have ok1 : StepOk i (D.map (·.1)) y p := ⟨fun r hr => by rw [List.length_map]; exact hok.reads r hr, hok.pow, hok.c, hok.y, hok.p, fun q hq => by
      obtain ⟨x, hx, rfl⟩ := List.mem_map.1 hq
      exact Nat.le_trans (hok.size x hx).1 (by omega)⟩
    refine ⟨step_size ok1 hT.1 (fun q hq => by obtain ⟨x, hx, rfl⟩ := List.mem_map.1 hq; exact (hY x hx).1) (fun q hq => by obtain ⟨x, hx, rfl⟩ := List.mem_map.1 hq; exact (hP x hx).1) e, ?_⟩
    show qw (dQ _ _ _ _ _ _ _) ≤ 80000
    unfold dQ
    simp only [map_fst_getD, map_snd_getD]
    split
    · rw [qw_neg]; omega
    split
    · rename_i n6 e11
      have hp := hok.pow e11
      have hv : v = powQ (D.getD i.a.toNat (0, 0)).1 i.b := by
        simp only [stepQ, if_neg n6, if_pos e11, map_fst_getD, powO] at e
        split at e
        · cases e
        · exact (Option.some.inj e).symm
      subst hv
      have p1 := turnP_size _ i.b hp.1 hp.2 a1
      have p2 := qw_of i.b (by omega)
      have p3 := qw_mul (i.b : Rat) (turnQ (D.getD i.a.toNat (0, 0)).1 i.b (powQ (D.getD i.a.toNat (0, 0)).1 i.b))
      have p4 := qw_mul ((i.b : Rat) * turnQ (D.getD i.a.toNat (0, 0)).1 i.b (powQ (D.getD i.a.toNat (0, 0)).1 i.b)) (D.getD i.a.toNat (0, 0)).2
      omega
    split
    · have := qw_add (D.getD i.a.toNat (0, 0)).2 (D.getD i.b.toNat (0, 0)).2; omega
    split
    · have := qw_sub (D.getD i.a.toNat (0, 0)).2 (D.getD i.b.toNat (0, 0)).2; omega
    split
    · have p1 := qw_mul (D.getD i.a.toNat (0, 0)).2 (D.getD i.b.toNat (0, 0)).1
      have p2 := qw_mul (D.getD i.a.toNat (0, 0)).1 (D.getD i.b.toNat (0, 0)).2
      have p3 := qw_add ((D.getD i.a.toNat (0, 0)).2 * (D.getD i.b.toNat (0, 0)).1) ((D.getD i.a.toNat (0, 0)).1 * (D.getD i.b.toNat (0, 0)).2)
      omega
    split
    · rename_i n6 n11 n7 n8 n9 e10
      have hv : v = (D.getD i.a.toNat (0, 0)).1 / (D.getD i.b.toNat (0, 0)).1 := by
        simp only [stepQ, if_neg n6, if_neg n11, if_neg n7, if_neg n8, if_neg n9, if_pos e10, map_fst_getD, quoO] at e
        split at e
        · cases e
        · exact (Option.some.inj e).symm
      subst hv
      have p1 := qw_div (D.getD i.a.toNat (0, 0)).1 (D.getD i.b.toNat (0, 0)).1
      have p2 := qw_mul ((D.getD i.a.toNat (0, 0)).1 / (D.getD i.b.toNat (0, 0)).1) (D.getD i.b.toNat (0, 0)).2
      have p3 := qw_sub (D.getD i.a.toNat (0, 0)).2 ((D.getD i.a.toNat (0, 0)).1 / (D.getD i.b.toNat (0, 0)).1 * (D.getD i.b.toNat (0, 0)).2)
      have p4 := qw_div ((D.getD i.a.toNat (0, 0)).2 - (D.getD i.a.toNat (0, 0)).1 / (D.getD i.b.toNat (0, 0)).1 * (D.getD i.b.toNat (0, 0)).2) (D.getD i.b.toNat (0, 0)).1
      omega
    split
    · rw [qw_zero]; omega
    split
    · have := (hl Y hY i.a.toNat).2; omega
    split
    · have := (hl P hP i.a.toNat).2; omega
    · have := hT.2; omega
theorem stepD_ok {t : Tp} {i : Ins} {D : List (Rat × Rat)} {y p : Nat} (hi : okR 80000 i.n) (hm : mayB t i D.length = true) (hy : (y : Int) = t.dim) (hp : (p : Int) = t.par) (hs : ∀ q ∈ D, small 1000 q) : StepOkD i D y p := by
  have h := step_ok (D := D.map (·.1)) hi (by rw [List.length_map]; exact hm) hy hp (fun q hq => by
    obtain ⟨x, hx, rfl⟩ := List.mem_map.1 hq
    exact Nat.le_trans (hs x hx).1 (by omega))
  exact ⟨fun r hr => by have := h.reads r hr; rw [List.length_map] at this; exact this, h.pow, h.c, h.y, h.p, hs⟩

section
variable (t : Tp) (T : Rat × Rat) (Y P : List (Rat × Rat)) (g s fs : Nat) (l : Int) (h : Heap) (n : Nat)
set_option maxRecDepth 20000 in
set_option maxHeartbeats 2000000 in
theorem c_runD (ht : okT t) (hT : small 9000 T) (hY : ∀ q ∈ Y, small 9000 q) (hP : ∀ q ∈ P, small 9000 q) (hl : l ≤ 4096) (hg : Gau h g l) (hgn : g < n) (hsn : s < n) (hgs : s ≠ g) (hs0 : h s = some [.int .i64 0]) (hsl : Slow fs s) :
    HCalls Tryz.prog 79 [.agg [.ptr g 0, .func fs [.ptr s 0]], encT t, encInD T Y P] h n (RunPD h n g s (if wrongI t = -1 ∧ (Y.length : Int) = t.dim ∧ (P.length : Int) = t.par then runD T Y P l t.code [] else ([], 2, 0, 0))) := by
  have hr := c_right t ht
  refine hcalls_of_AWR (pa := []) (fn := Tryz.f79) (rs := [.tmp 6, .cell 7 56]) follows_mixed Tryz.func79 rfl rfl (by kernel_rfl) (by kernel_rfl) (by rw [Tryz.ntmps79]; simp) ?_
  simp only [go_sem, ↓reduceIte, encT, encInD, encW]
  refine callS_p hr ?_
  by_cases e1 : wrongI t = -1
  case neg =>
    rw [if_neg (fun h => e1 h.1)]
    simp only [go_sem, ↓reduceIte, dec_false e1]
    refine .mk (.tup [.nilsl, encF 2 0]) (by simp only [go_sem, ↓reduceIte, resR, resAll, resA, encF] <;> rfl) ⟨⟨_, rfl, .inl ⟨rfl, rfl⟩, fun _ _ _ _ h => by cases h⟩, by simp only [go_sem, ↓reduceIte, upd1_old _ _ _ _ _ hsn, upd1_old0 _ _ _ _ hsn]; exact hs0, fun j hj hjg hjs => by simp only [go_sem, ↓reduceIte, upd1_old _ _ _ _ _ hj, upd1_old0 _ _ _ _ hj]⟩
  by_cases e2 : (Y.length : Int) = t.dim
  case neg =>
    rw [if_neg (fun h => e2 h.2.1)]
    simp only [go_sem, ↓reduceIte, dec_true e1, bne_int, dec_false e2]
    refine .mk (.tup [.nilsl, encF 2 0]) (by simp only [go_sem, ↓reduceIte, resR, resAll, resA, encF] <;> rfl) ⟨⟨_, rfl, .inl ⟨rfl, rfl⟩, fun _ _ _ _ h => by cases h⟩, by simp only [go_sem, ↓reduceIte, upd1_old _ _ _ _ _ hsn, upd1_old0 _ _ _ _ hsn]; exact hs0, fun j hj hjg hjs => by simp only [go_sem, ↓reduceIte, upd1_old _ _ _ _ _ hj, upd1_old0 _ _ _ _ hj]⟩
  by_cases e3 : (P.length : Int) = t.par
  case neg =>
    rw [if_neg (fun h => e3 h.2.2)]
    simp only [go_sem, ↓reduceIte, dec_true e1, bne_int, dec_true e2, dec_false e3]
    refine .mk (.tup [.nilsl, encF 2 0]) (by simp only [go_sem, ↓reduceIte, resR, resAll, resA, encF] <;> rfl) ⟨⟨_, rfl, .inl ⟨rfl, rfl⟩, fun _ _ _ _ h => by cases h⟩, by simp only [go_sem, ↓reduceIte, upd1_old _ _ _ _ _ hsn, upd1_old0 _ _ _ _ hsn]; exact hs0, fun j hj hjg hjs => by simp only [go_sem, ↓reduceIte, upd1_old _ _ _ _ _ hj, upd1_old0 _ _ _ _ hj]⟩
  rw [if_pos ⟨e1, e2, e3⟩]
  obtain ⟨ew, em, eo⟩ := right_parts e1
  obtain ⟨hlen, -⟩ := whole_le ht ew
  simp only [go_sem, ↓reduceIte, dec_true e1, bne_int, dec_true e2, dec_true e3]
  refine AW_while (fun m st => ∃ i D u, i + m = t.code.length ∧ D.length = i ∧ runD T Y P l (t.code.drop i) D = runD T Y P l t.code [] ∧ (∀ q ∈ D, small 1000 q) ∧ st.τ 3 = .ptr n 0 ∧ st.τ 4 = .ptr (n + 1) 0 ∧ st.τ 5 = .ptr (n + 2) 0 ∧ st.τ 7 = .ptr (n + 4) 0 ∧ st.τ 8 = u ∧ OwnD st.h st.n D u ∧ (∀ b o l e, u = .own b o l e → n + 5 ≤ b) ∧
    st.τ 34 = .sl 6 (t.code.map encI) ∧ st.τ 35 = .int .i64 t.code.length ∧ st.τ 36 = .int .i64 (i : Nat) ∧ RunHD n g s fs l t T Y P st.h ∧ n + 5 ≤ st.n ∧ st.h s = some [.int .i64 0] ∧ ∀ j, j < n → j ≠ g → j ≠ s → st.h j = h j) t.code.length ?_ ?_
  · refine ⟨0, [], .nilsl, by omega, rfl, rfl, (fun q hq => by cases hq), by simp only [go_sem, ↓reduceIte], by simp only [go_sem, ↓reduceIte], by simp only [go_sem, ↓reduceIte], by simp only [go_sem, ↓reduceIte], by simp only [go_sem, ↓reduceIte], .inl ⟨rfl, rfl⟩, (fun _ _ _ _ h => by cases h), by simp only [go_sem, ↓reduceIte], by simp only [go_sem, ↓reduceIte], by simp only [go_sem, ↓reduceIte] <;> rfl, ⟨by simp only [go_sem, ↓reduceIte], by simp only [go_sem, ↓reduceIte], by simp only [go_sem, ↓reduceIte, encW], by simp only [go_sem, ↓reduceIte], ?_⟩, by simp only [go_sem, ↓reduceIte] <;> omega, by simp only [go_sem, ↓reduceIte, upd1_old _ _ _ _ _ hsn, upd1_old0 _ _ _ _ hsn]; exact hs0, fun j hj hjg hjs => by simp only [go_sem, ↓reduceIte, upd1_old _ _ _ _ _ hj, upd1_old0 _ _ _ _ hj]⟩
    exact hg.eq (by simp only [go_sem, ↓reduceIte, upd1_old _ _ _ _ _ hgn, upd1_old0 _ _ _ _ hgn])
  · rintro m st ⟨i, D, u, hi, hDl, hs, hDs, h3, h4, h5, h7, h8, hD, hub, h34, h35, h36, hH, hn, hS, hkp⟩ next
    by_cases hlt : i < t.code.length
    case neg =>
      have hlt' := dec_false (show ¬ ((i : Nat) : Int) < (t.code.length : Nat) by omega)
      rw [List.drop_eq_nil_of_le (by omega), runD] at hs
      rw [← hs]
      simp only [go_sem, ↓reduceIte, h3, h4, h5, h7, h8, h34, h35, h36, hlt', hH.f]
      refine .mk (.tup [u, encF 0 0]) (by simp only [go_sem, ↓reduceIte, resR, resAll, resA, encF, h7, h8, hH.f] <;> rfl) ⟨⟨_, rfl, hD.keep (by simp only [go_sem, ↓reduceIte] <;> omega) (fun b o l e hb hbn => by simp only [go_sem, ↓reduceIte]; exact upd1_nei (by have := hub _ _ _ _ hb; omega)), fun b o l e hb => by have := hub _ _ _ _ hb; omega⟩, by simp only [go_sem, ↓reduceIte, upd1_old _ _ _ _ _ hsn]; exact hS, fun j hj hjg hjs => by simp only [go_sem, ↓reduceIte, upd1_old _ _ _ _ _ hj, hkp j hj hjg hjs]⟩
    have hlt' : ((i : Nat) : Int) < (t.code.length : Nat) := by omega
    have hm := em i hlt
    have hci := ht.code _ (List.getElem_mem hlt)
    rw [drop_cons hlt, runD] at hs
    have hgd := getD_map_lt encI t.code i .undef hlt
    generalize hx : t.code[i] = x at *
    have hok : StepOkD x D Y.length P.length := stepD_ok hci (by rw [hDl]; exact hm) e2 e3 hDs
    have hst := fun H N (hD : OwnD H N D u) => c_stepD T Y P x D g fs s u H N hD hok
    simp only [encI, encInD, encW] at hst
    simp only [go_sem, ↓reduceIte, h3, h4, h5, h7, h8, h34, h35, h36, hlt', hgd, encI, encW, hH.m, hH.t, hH.i, upd1_old _ _ _ _ _ (show n < st.n by omega), upd1_old _ _ _ _ _ (show n + 2 < st.n by omega)]
    refine callS_h (hst _ _ (hD.keep (by simp only [go_sem, ↓reduceIte] <;> omega) fun b _ _ _ _ hbn => by simp only [go_sem, ↓reduceIte]; rw [upd1_nei (by omega), upd1_nei (by omega)])) ?_
    clear hst
    rintro v h' n' hn' ⟨rfl, hk'⟩
    simp only [go_sem, ↓reduceIte] at hn' hk'
    have hk1 : ∀ j, j < st.n → h' j = st.h j := fun j hj => by rw [hk' j (by omega), upd1_nei (by omega), upd1_nei (by omega)]
    have hH' : RunHD n g s fs l t T Y P h' := hH.keep hn hgn hsn (fun j hj _ _ => hk1 j hj) (hH.g.eq (hk1 g (by omega)))
    have hD' : OwnD h' n' D u := hD.keep (by omega) fun b _ _ _ _ hbn => hk1 b hbn
    cases eq : stepD T Y P x D with
    | none =>
      rw [eq] at hs
      simp only at hs
      rw [← hs]
      simp only [go_sem, ↓reduceIte, vD, encD, encW, h3, h4, h5, h7, h8, hH'.f, upd1_old _ _ _ _ _ (show n + 4 < st.n by omega)]
      refine .mk (.tup [.nilsl, encF 3 i]) (by simp only [go_sem, ↓reduceIte, resR, resAll, resA, encF, h7, hDl, hH'.f] <;> rfl) ⟨⟨_, by rw [hDl], .inl ⟨rfl, rfl⟩, fun _ _ _ _ h => by cases h⟩, by simp only [go_sem, ↓reduceIte, upd1_old _ _ _ _ _ hsn, upd1_old _ _ _ _ _ (show s < st.n by omega)]; rw [hk1 s (by omega), hS], fun j hj hjg hjs => by simp only [go_sem, ↓reduceIte, upd1_old _ _ _ _ _ hj, upd1_old _ _ _ _ _ (show j < st.n by omega), hk1 j (by omega), hkp j hj hjg hjs]⟩
    | some q =>
      rw [eq] at hs
      simp only at hs
      have hq8 := stepD_size hok hT hY hP eq
      have hft := fun H N (h1 : Gau H g l) (h2 : g < N) (h3 : s < N) (h4 : H s = some [.int .i64 0]) => c_fitsD g s fs q hq8 H N l h1 h4 h2 h3 hgs hsl
      simp only [encD, encW] at hft
      simp only [go_sem, ↓reduceIte, vD, encD, encW, h3, h4, h5, h7, h8, hH'.f, hH'.m, upd1_old _ _ _ _ _ (show n + 4 < st.n by omega), upd1_old _ _ _ _ _ (show n < st.n by omega)]
      refine callS_h (hft _ _ (hH'.g.eq (by simp only [go_sem, ↓reduceIte, upd1_old _ _ _ _ _ (show g < st.n by omega)])) (by simp only [go_sem, ↓reduceIte] <;> omega) (by simp only [go_sem, ↓reduceIte] <;> omega) (by simp only [go_sem, ↓reduceIte, upd1_old _ _ _ _ _ (show s < st.n by omega)]; rw [hk1 s (by omega), hS])) ?_
      clear hft
      rintro v h'' n'' hn'' ⟨rfl, hgg, hS2, hk'⟩
      simp only [go_sem, ↓reduceIte] at hn'' hk'
      have hk2 : ∀ j, j < n' → j ≠ g → j ≠ s → j ≠ st.n + 15 → h'' j = h' j := fun j hj hjg hjs hj' => by rw [hk' j (by omega) hjg hjs, upd1_nei hj', upd1_nei hj']
      have hk3 : h'' (st.n + 15) = some [.bool (cq q.1).neg, encW (cq q.1).n, encW (cq q.1).d, .bool (cq q.2).neg, encW (cq q.2).n, encW (cq q.2).d] := by rw [hk' _ (by omega) (by omega) (by omega)]; simp only [go_sem, ↓reduceIte, encW]
      have hH2 : RunHD n g s fs l t T Y P h'' := hH'.keep (N := st.n) hn hgn hsn (fun j hj hjg hjs => hk2 j (by omega) hjg hjs (by omega)) hgg
      have hD2 : OwnD h'' n'' D u := by
        rcases hD with hD | ⟨b, k1, k2, k3⟩
        · exact .inl hD
        · have := hub _ _ _ _ k1
          exact .inr ⟨b, k1, by rw [hk2 b (by omega) (by omega) (by omega) (by omega), hk1 b k3, k2], by omega⟩
      by_cases ef1 : fitQ l q.1 = true
      case neg =>
        have ef1' : fitQ l q.1 = false := by simpa using ef1
        rw [if_neg ef1] at hs
        rw [← hs]
        rw [stageOf, if_neg ef1] at hS2
        simp only [go_sem, ↓reduceIte, vD, encD, encW, h3, h4, h5, h7, h8, hH2.f, hH2.m, ef1', upd1_old _ _ _ _ _ (show n + 4 < st.n by omega)]
        refine .mk (.tup [.nilsl, encF 6 i]) (by simp only [go_sem, ↓reduceIte, resR, resAll, resA, encF, h7, hDl, hH2.f] <;> rfl) ⟨⟨_, by rw [hDl], .inl ⟨rfl, rfl⟩, fun _ _ _ _ h => by cases h⟩, by simp only [go_sem, ↓reduceIte, upd1_old _ _ _ _ _ hsn, upd1_old _ _ _ _ _ (show s < st.n by omega)]; exact hS2, fun j hj hjg hjs => by simp only [go_sem, ↓reduceIte, upd1_old _ _ _ _ _ hj, upd1_old _ _ _ _ _ (show j < st.n by omega)]; rw [hk2 j (by omega) hjg hjs (by omega), hk1 j (by omega), hkp j hj hjg hjs]⟩
      rw [if_pos ef1] at hs
      by_cases ef2 : fitQ l q.2 = true
      case neg =>
        have ef2' : fitQ l q.2 = false := by simpa using ef2
        rw [if_neg ef2] at hs
        rw [← hs]
        rw [stageOf, if_pos ef1, if_neg ef2] at hS2
        simp only [go_sem, ↓reduceIte, vD, encD, encW, h3, h4, h5, h7, h8, hH2.f, hH2.m, ef1, ef2', upd1_old _ _ _ _ _ (show n + 4 < st.n by omega)]
        refine .mk (.tup [.nilsl, encF 6 i]) (by simp only [go_sem, ↓reduceIte, resR, resAll, resA, encF, h7, hDl, hH2.f] <;> rfl) ⟨⟨_, by rw [hDl], .inl ⟨rfl, rfl⟩, fun _ _ _ _ h => by cases h⟩, by simp only [go_sem, ↓reduceIte, upd1_old _ _ _ _ _ hsn, upd1_old _ _ _ _ _ (show s < st.n by omega)]; exact hS2, fun j hj hjg hjs => by simp only [go_sem, ↓reduceIte, upd1_old _ _ _ _ _ hj, upd1_old _ _ _ _ _ (show j < st.n by omega)]; rw [hk2 j (by omega) hjg hjs (by omega), hk1 j (by omega), hkp j hj hjg hjs]⟩
      rw [if_pos ef2] at hs
      rw [stageOf, if_pos ef1, if_pos ef2] at hS2
      case pos =>
        have hfs := fitsD_small hl ef1 ef2
        have hlen3 := len_d D
        simp only [go_sem, ↓reduceIte, vD, encD, encW, h3, h4, h5, h7, h8, hH2.f, hH2.m, hk3, ef1, ef2, upd1_old _ _ _ _ _ (show n + 4 < st.n by omega)]
        have hi38 : i ≤ 274877906944 := by omega
        have hDs' : ∀ q' ∈ D ++ [q], small 1000 q' := fun q' hq' => by
          rcases List.mem_append.1 hq' with h | h
          · exact hDs q' h
          · rw [List.mem_singleton] at h; subst h; exact hfs.mono (by omega)
        have hDl' : (D ++ [q]).length = i + 1 := by simp [hDl]
        rcases hD2 with ⟨rfl, hu⟩ | ⟨b, hu, hb, hbn⟩
        · subst hu
          have hi0 : i = 0 := by simpa using hDl.symm
          subst hi0
          simp only [go_sem, ↓reduceIte, h3, h4, h5, h7, h8, h36]
          refine next (m - 1) _ (by omega) ⟨1, [] ++ [q], _, by omega, hDl', hs, hDs', by simp only [go_sem, ↓reduceIte, h3], by simp only [go_sem, ↓reduceIte, h4], by simp only [go_sem, ↓reduceIte, h5], by simp only [go_sem, ↓reduceIte, h7], by simp only [go_sem, ↓reduceIte] <;> rfl, .inr ⟨_, rfl, by simp only [go_sem, ↓reduceIte] <;> rfl, by simp only [go_sem, ↓reduceIte] <;> omega⟩, (fun _ _ _ _ h => by cases h; omega), by simp only [go_sem, ↓reduceIte, h34] <;> rfl, by simp only [go_sem, ↓reduceIte, h35], by simp only [go_sem, ↓reduceIte, h36] <;> rfl, hH2.keep (N := st.n) hn hgn hsn (fun j hj _ _ => by simp only [go_sem, ↓reduceIte, upd1_old _ _ _ _ _ (show j < n'' by omega)]) (hH2.g.eq (by simp only [go_sem, ↓reduceIte, upd1_old _ _ _ _ _ (show g < n'' by omega)])), by simp only [go_sem, ↓reduceIte] <;> omega, by simp only [go_sem, ↓reduceIte, upd1_old _ _ _ _ _ (show s < n'' by omega)]; exact hS2, fun j hj hjg hjs => by simp only [go_sem, ↓reduceIte, upd1_old _ _ _ _ _ (show j < n'' by omega)]; rw [hk2 j (by omega) hjg hjs (by omega), hk1 j (by omega), hkp j hj hjg hjs]⟩
        · have hbg := hub _ _ _ _ hu
          rw [hDl] at hu
          subst hu
          rw [hDl] at hlen3
          simp only [go_sem, ↓reduceIte, h3, h4, h5, h7, h8, h36, hb, hlen3, hi38, upd1_old _ _ _ _ _ hbn, old_ne hbn, new_ne hbn]
          refine next (m - 1) _ (by omega) ⟨i + 1, D ++ [q], _, by omega, hDl', hs, hDs', by simp only [go_sem, ↓reduceIte, h3], by simp only [go_sem, ↓reduceIte, h4], by simp only [go_sem, ↓reduceIte, h5], by simp only [go_sem, ↓reduceIte, h7], by simp only [go_sem, ↓reduceIte] <;> rfl, .inr ⟨_, by rw [hDl'], by rw [flatC_snoc]; simp only [go_sem, ↓reduceIte, List.take_of_length_le (Nat.le_of_eq hlen3), encD, encW] <;> rfl, by simp only [go_sem, ↓reduceIte] <;> omega⟩, (fun _ _ _ _ h => by cases h; omega), by simp only [go_sem, ↓reduceIte, h34] <;> rfl, by simp only [go_sem, ↓reduceIte, h35], by simp only [go_sem, ↓reduceIte, h36]; rw [wrap64_id (by omega) (by omega)]; rfl, hH2.keep (N := n + 5) (by omega) hgn hsn (fun j hj _ _ => by simp only [go_sem, ↓reduceIte]; rw [upd1_old _ _ _ _ _ (show j < n'' by omega), upd1_nei (by omega), upd1_old _ _ _ _ _ (show j < n'' by omega)]) (hH2.g.eq (by simp only [go_sem, ↓reduceIte]; rw [upd1_old _ _ _ _ _ (show g < n'' by omega), upd1_nei (by omega), upd1_old _ _ _ _ _ (show g < n'' by omega)])), by simp only [go_sem, ↓reduceIte] <;> omega, by simp only [go_sem, ↓reduceIte]; rw [upd1_old _ _ _ _ _ (show s < n'' by omega), upd1_nei (by omega), upd1_old _ _ _ _ _ (show s < n'' by omega), hS2], fun j hj hjg hjs => by simp only [go_sem, ↓reduceIte]; rw [upd1_old _ _ _ _ _ (show j < n'' by omega), upd1_nei (by omega), upd1_old _ _ _ _ _ (show j < n'' by omega), hk2 j (by omega) hjg hjs (by omega), hk1 j (by omega), hkp j hj hjg hjs]⟩
end
end Go.Proofs.YtopmghclhgihfaaGreatDoor

set_option linter.unusedVariables false
set_option linter.unusedSimpArgs false
set_option maxRecDepth 10000
namespace Go.Proofs.YtopmghclhgihfaaGreatDoor
open Go Go.Ab Go.Num

theorem c_slow (s : Nat) : Slow 78 s := ⟨⟨by simp only [go_sem, ↓reduceIte], by simp only [go_sem, ↓reduceIte]⟩, fun H N hs hsn => by
  refine hcalls_of_AWR (pa := []) (fn := Tryz.f78) (rs := []) follows_mixed Tryz.func78 rfl rfl (by kernel_rfl) (by kernel_rfl) (by rw [Tryz.ntmps78]; simp) ?_
  simp only [go_sem, ↓reduceIte, hs]
  refine .mk (.tup []) (by simp only [go_sem, ↓reduceIte, resR, resAll, resA] <;> rfl) ⟨rfl, by simp only [go_sem, ↓reduceIte], fun j hj hjs => by simp only [go_sem, ↓reduceIte]; rw [upd1_nei hjs]⟩⟩

/-- Values with slopes, place by place. -/
def vPair (a b : List Rat) : AV := if a.length = b.length then .tup [.sl 6 ((a.zip b).map encD), .bool true] else .tup [.nilsl, .bool false]
theorem zip_take_snoc {a b : List Rat} (h : a.length = b.length) {i : Nat} (hi : i < a.length) : (a.zip b).take (i + 1) = (a.zip b).take i ++ [(a.getD i 0, b.getD i 0)] := by
  have hl : i < (a.zip b).length := by simp; omega
  rw [take_snoc hl]
  congr 1
  rw [List.getElem_zip]
  simp [hi, show i < b.length by omega]
set_option maxRecDepth 20000 in
theorem c_pair (a b : List Rat) (hl : a.length ≤ 100000) : PCalls Tryz.prog 77 [.sl 3 (a.map encQ), .sl 3 (b.map encQ)] (vPair a b) := by
  unfold vPair
  by_cases hab : a.length = b.length
  case neg =>
    rw [if_neg hab]
    have h1 : ¬ ((a.length : Nat) : Int) = (b.length : Nat) := by omega
    refine pcalls_of_AW (pa := []) (fn := Tryz.f77) (ts := [4, 5]) follows_mixed Tryz.func77 rfl rfl (by kernel_rfl) (by kernel_rfl) (by rw [Tryz.ntmps77]; simp) ?_
    simp only [go_sem, ↓reduceIte, bne_int, List.length_map, dec_false h1]
    exact .mk (by simp only [go_sem, ↓reduceIte])
  rw [if_pos hab]
  have h1 : ((a.length : Nat) : Int) = (b.length : Nat) := by omega
  refine pcalls_of_AW (pa := []) (fn := Tryz.f77) (ts := [4, 5]) follows_mixed Tryz.func77 rfl rfl (by kernel_rfl) (by kernel_rfl) (by rw [Tryz.ntmps77]; simp) ?_
  simp only [go_sem, ↓reduceIte, bne_int, List.length_map, dec_true h1]
  refine AW_while (fun m st => ∃ i, i + m = a.length ∧ st.τ 1 = .sl 3 (b.map encQ) ∧ st.τ 14 = .sl 3 (a.map encQ) ∧ st.τ 15 = .int .i64 a.length ∧ st.τ 16 = .int .i64 (i : Nat) ∧ Acc 6 encD st (st.τ 6) ((a.zip b).take i)) a.length ?_ ?_
  · exact ⟨0, by omega, by simp only [go_sem, ↓reduceIte], by simp only [go_sem, ↓reduceIte], by simp only [go_sem, ↓reduceIte, List.length_map], by simp only [go_sem, ↓reduceIte] <;> rfl, .inl ⟨by simp, by simp only [go_sem, ↓reduceIte]⟩⟩
  · rintro m st ⟨i, hi, e1, h6, h7, h8, hacc⟩ next
    by_cases hlt : i < a.length
    · have hlt' : ((i : Nat) : Int) < (a.length : Nat) := by omega
      have hltb : i < b.length := by omega
      have hltb' : ((i : Nat) : Int) < (b.length : Nat) := by omega
      have ga : (a.map encQ).getD i .undef = encQ (a.getD i 0) := by simp [List.getD, hlt]
      have gb : (b.map encQ).getD i .undef = encQ (b.getD i 0) := by simp [List.getD, hltb]
      have h0i : (0 : Int) ≤ (i : Nat) := by omega
      have hl3 : (flatC encD ((a.zip b).take i)).length = i * 6 := by rw [len_d]; simp; omega
      have hi38 : i ≤ 274877906944 := by omega
      have htk : ((a.zip b).take i).length = i := by simp; omega
      have htk1 : ((a.zip b).take (i + 1)).length = i + 1 := by simp; omega
      rcases hacc with ⟨hnil, h3⟩ | ⟨c, h3, hb, hbn⟩
      · have hi0 : i = 0 := by rw [hnil] at htk; simp at htk; omega
        subst hi0
        simp only [go_sem, ↓reduceIte, e1, h3, h6, h7, h8, hlt', hltb', ga, gb, h0i, encQ, encR, encW, List.length_map]
        refine next (m - 1) _ (by omega) ⟨1, by omega, by simp only [go_sem, ↓reduceIte, e1], by simp only [go_sem, ↓reduceIte, h6], by simp only [go_sem, ↓reduceIte, h7], by simp only [go_sem, ↓reduceIte] <;> rfl, .inr ⟨_, by rw [htk1]; simp only [go_sem, ↓reduceIte] <;> rfl, by rw [zip_take_snoc hab hlt, flatC_snoc, hnil]; simp only [go_sem, ↓reduceIte, flatC_nil, encD, encW] <;> rfl, by simp only [go_sem, ↓reduceIte] <;> omega⟩⟩
      · rw [htk] at h3
        simp only [go_sem, ↓reduceIte, e1, h3, h6, h7, h8, hlt', hltb', ga, gb, h0i, encQ, encR, encW, hb, hl3, hi38, List.length_map, upd1_old _ _ _ _ _ hbn, old_ne hbn, new_ne hbn]
        refine next (m - 1) _ (by omega) ⟨i + 1, by omega, by simp only [go_sem, ↓reduceIte, e1], by simp only [go_sem, ↓reduceIte, h6], by simp only [go_sem, ↓reduceIte, h7], by simp only [go_sem, ↓reduceIte]; rw [wrap64_id (by omega) (by omega)]; rfl, .inr ⟨_, by rw [htk1]; simp only [go_sem, ↓reduceIte] <;> rfl, by rw [zip_take_snoc hab hlt, flatC_snoc]; simp only [go_sem, ↓reduceIte, List.take_of_length_le (Nat.le_of_eq hl3), encD, encW] <;> rfl, by simp only [go_sem, ↓reduceIte] <;> omega⟩⟩
    · have hlt' := dec_false (show ¬ ((i : Nat) : Int) < (a.length : Nat) by omega)
      rw [List.take_of_length_le (by simp; omega)] at hacc
      simp only [go_sem, ↓reduceIte, e1, h6, h7, h8, hlt']
      rcases hacc with ⟨hnil, h3⟩ | ⟨c, h3, hb, hbn⟩
      · rw [hnil]
        refine .mk_le (u := .tup [.nilsl, .bool true]) (by simp only [go_sem, ↓reduceIte, h3] <;> rfl) (AV.le_tup2 (AV.le_nil 6) (AV.le_refl _))
      · have hf := frz1_flatC elt_d hb
        refine .mk_le (u := .tup [frz1 st.h (.own c 0 (a.zip b).length 6), .bool true]) (by simp only [go_sem, ↓reduceIte, h3]) (by rw [hf]; exact AV.le_refl _)

def encF3 (k s a : Int) : AV := .agg [.int .i64 k, .int .i64 0, .int .i64 s, .int .i64 a]
/-- An answer, as a value. -/
def vT2 (r : List (Rat × Rat) × Int × Int × Int) : AV := .tup [.sl 6 (r.1.map encD), encF3 r.2.1 r.2.2.1 r.2.2.2]
theorem frzD {h : Heap} {n : Nat} {D : List (Rat × Rat)} {u : AV} (hu : OwnD h n D u) : (frz1 h u).le (.sl 6 (D.map encD)) := by
  rcases hu with ⟨h1, rfl⟩ | ⟨b, rfl, h2, _⟩
  · rw [h1]; exact AV.le_nil 6
  · exact AV.le_of_eq (frz1_flatC elt_d h2)

set_option maxRecDepth 20000 in
set_option maxHeartbeats 1000000 in
theorem c_ptape (t : Tp) (a b : Pt) (bits : Int) (ht : okT t) (ha : okP 9000 a) (hb : okP 9000 b) : PCalls Tryz.prog 49 [encT t, encPt a, encPt b, .int .i64 bits] (vT2 (pushT t (rv a.t) (rv b.t) (a.y.map rv) (a.p.map rv) (b.y.map rv) (b.p.map rv) (clampB bits))) := by
  have hna := c_enorm a ⟨ha.t.mono (by omega), fun f hf => (ha.y f hf).mono (by omega), fun f hf => (ha.p f hf).mono (by omega), ha.ly, ha.lp⟩
  have hnb := c_enorm b ⟨hb.t.mono (by omega), fun f hf => (hb.y f hf).mono (by omega), fun f hf => (hb.p f hf).mono (by omega), hb.ly, hb.lp⟩
  have hl : clampB bits ≤ 4096 := by unfold clampB; omega
  have hy := c_pair (a.y.map rv) (b.y.map rv) (by rw [List.length_map]; exact ha.ly)
  have hp := c_pair (a.p.map rv) (b.p.map rv) (by rw [List.length_map]; exact ha.lp)
  have sz : ∀ (k : Fr) , okR 9000 k → qw (rv k) ≤ 9000 := fun k hk => qw_rv hk (by omega)
  have szl : ∀ (l : List Fr), (∀ f ∈ l, okR 9000 f) → ∀ q ∈ l.map rv, qw q ≤ 9000 := fun l hl q hq => by
    obtain ⟨f, hf, rfl⟩ := List.mem_map.1 hq
    exact sz f (hl f hf)
  have szz : ∀ (l m : List Rat), (∀ q ∈ l, qw q ≤ 9000) → (∀ q ∈ m, qw q ≤ 9000) → ∀ q ∈ l.zip m, small 9000 q := fun l m h1 h2 q hq => ⟨h1 _ (List.of_mem_zip hq).1, h2 _ (List.of_mem_zip hq).2⟩
  have hrun := fun g s H N h1 h2 h3 h4 h5 => c_runD t (rv a.t, rv b.t) ((a.y.map rv).zip (b.y.map rv)) ((a.p.map rv).zip (b.p.map rv)) g s 78 (clampB bits) H N ht ⟨sz _ ha.t, sz _ hb.t⟩ (szz _ _ (szl _ ha.y) (szl _ hb.y)) (szz _ _ (szl _ ha.p) (szl _ hb.p)) hl h1 h2 h3 h4 h5 (c_slow s)
  unfold pushT
  generalize a.y.map rv = ya at *
  generalize b.y.map rv = yb at *
  generalize a.p.map rv = pa at *
  generalize b.p.map rv = pb at *
  simp only [encT, encPt, encW, encIn] at hna hnb
  unfold vPair at hy hp
  by_cases ey : ya.length = yb.length
  case neg =>
    rw [if_neg ey] at hy
    rw [if_neg (fun h => ey h.1)]
    by_cases ep : pa.length = pb.length
    · rw [if_pos ep] at hp
      refine pcalls_of_AWR (pa := []) (fn := Tryz.f49) (rs := [.tmp 8, .cell 9 56]) follows_mixed Tryz.func49 rfl rfl (by kernel_rfl) (by kernel_rfl) (by rw [Tryz.ntmps49]; simp) ?_
      simp only [go_sem, ↓reduceIte, encT, encPt, encW]
      refine callD_p hna ?_
      simp only [go_sem, ↓reduceIte]
      refine callD_p hnb ?_
      simp only [go_sem, ↓reduceIte]
      refine callS_p hy ?_
      simp only [go_sem, ↓reduceIte]
      refine callS_p hp ?_
      simp only [go_sem, ↓reduceIte]
      refine .mk_le (u := .tup [.nilsl, encF3 2 0 0]) (by simp only [go_sem, ↓reduceIte, resR, resAll, resA, encF3] <;> rfl) (AV.le_tup2 (AV.le_nil 6) (AV.le_refl _))
    · rw [if_neg ep] at hp
      refine pcalls_of_AWR (pa := []) (fn := Tryz.f49) (rs := [.tmp 8, .cell 9 56]) follows_mixed Tryz.func49 rfl rfl (by kernel_rfl) (by kernel_rfl) (by rw [Tryz.ntmps49]; simp) ?_
      simp only [go_sem, ↓reduceIte, encT, encPt, encW]
      refine callD_p hna ?_
      simp only [go_sem, ↓reduceIte]
      refine callD_p hnb ?_
      simp only [go_sem, ↓reduceIte]
      refine callS_p hy ?_
      simp only [go_sem, ↓reduceIte]
      refine callS_p hp ?_
      simp only [go_sem, ↓reduceIte]
      refine .mk_le (u := .tup [.nilsl, encF3 2 0 0]) (by simp only [go_sem, ↓reduceIte, resR, resAll, resA, encF3] <;> rfl) (AV.le_tup2 (AV.le_nil 6) (AV.le_refl _))
  rw [if_pos ey] at hy
  by_cases ep : pa.length = pb.length
  case neg =>
    rw [if_neg ep] at hp
    rw [if_neg (fun h => ep h.2)]
    refine pcalls_of_AWR (pa := []) (fn := Tryz.f49) (rs := [.tmp 8, .cell 9 56]) follows_mixed Tryz.func49 rfl rfl (by kernel_rfl) (by kernel_rfl) (by rw [Tryz.ntmps49]; simp) ?_
    simp only [go_sem, ↓reduceIte, encT, encPt, encW]
    refine callD_p hna ?_
    simp only [go_sem, ↓reduceIte]
    refine callD_p hnb ?_
    simp only [go_sem, ↓reduceIte]
    refine callS_p hy ?_
    simp only [go_sem, ↓reduceIte]
    refine callS_p hp ?_
    simp only [go_sem, ↓reduceIte]
    refine .mk_le (u := .tup [.nilsl, encF3 2 0 0]) (by simp only [go_sem, ↓reduceIte, resR, resAll, resA, encF3] <;> rfl) (AV.le_tup2 (AV.le_nil 6) (AV.le_refl _))
  rw [if_pos ep] at hp
  rw [if_pos ⟨ey, ep⟩]
  refine pcalls_of_AWR (pa := []) (fn := Tryz.f49) (rs := [.tmp 8, .cell 9 56]) follows_mixed Tryz.func49 rfl rfl (by kernel_rfl) (by kernel_rfl) (by rw [Tryz.ntmps49]; simp) ?_
  simp only [go_sem, ↓reduceIte, encT, encPt, encW]
  refine callD_p hna ?_
  simp only [go_sem, ↓reduceIte]
  refine callD_p hnb ?_
  simp only [go_sem, ↓reduceIte]
  refine callS_p hy ?_
  simp only [go_sem, ↓reduceIte]
  refine callS_p hp ?_
  simp only [go_sem, ↓reduceIte]
  refine callS_h (c_gnew bits _ _) ?_
  rintro v h' n' hn' ⟨g, rfl, hg1, hg2, hg, hk⟩
  simp only [go_sem, ↓reduceIte] at hn' hg1 hk
  simp only [List.length_zip, ← ey, ← ep, Nat.min_self] at hrun
  generalize (if wrongI t = -1 ∧ (ya.length : Int) = t.dim ∧ (pa.length : Int) = t.par then runD (rv a.t, rv b.t) (ya.zip yb) (pa.zip pb) (clampB bits) t.code [] else ([], 2, 0, 0)) = r at hrun ⊢
  have k0 : h' 0 = _ := hk 0 (by omega)
  have k1 : h' 1 = _ := hk 1 (by omega)
  have k2 : h' 2 = _ := hk 2 (by omega)
  have k4 : h' 4 = _ := hk 4 (by omega)
  have k37 : h' 37 = _ := hk 37 (by omega)
  simp only [go_sem, ↓reduceIte] at k0 k1 k2 k4 k37
  clear hk
  simp only [encT, encInD, encW] at hrun
  simp only [go_sem, ↓reduceIte, k0, k1, k2, k4, k37, Array.isEmpty_empty, List.isEmpty_toArray]
  refine callS_h (hrun g 37 _ _ (hg.eq (by simp only [go_sem, ↓reduceIte]; rw [upd1_nei (by omega), upd1_nei (by omega)])) (by simp only [go_sem, ↓reduceIte] <;> omega) (by simp only [go_sem, ↓reduceIte] <;> omega) (by omega) (by simp only [go_sem, ↓reduceIte]; first | exact k37 | (rw [upd1_nei (by omega)]; exact k37) | (rw [upd1_nei (by omega), upd1_nei (by omega)]; exact k37))) ?_
  clear hrun
  rintro v h2 n2 hn2 ⟨⟨u, rfl, hu, hub⟩, hst, hk2⟩
  simp only [go_sem, ↓reduceIte] at hn2 hk2 hub
  have e4 : h2 4 = some [.int .i64 0, .int .i64 0, .int .i64 0, .int .i64 0] := by rw [hk2 4 (by omega) (by omega) (by omega)]; first | exact k4 | (rw [upd1_nei (by omega)]; exact k4) | (rw [upd1_nei (by omega), upd1_nei (by omega)]; exact k4)
  have hu4 : ∀ (b o l e : Nat), u = .own b o l e → b ≠ 4 ∧ b ≠ n' + 14 := fun b o l e hb => by have := hub b o l e hb; omega
  have a37 : ∀ x, upd1 h2 (n' + 14) x 37 = h2 37 := fun x => upd1_nei (by omega)
  have a4 : ∀ (H : Heap) x, upd1 H (n' + 14) x 4 = H 4 := fun H x => upd1_nei (by omega)
  simp only [go_sem, ↓reduceIte, encF, upd1_nei (show 37 ≠ n' + 14 by omega), upd1_nei (show 4 ≠ n' + 14 by omega), e4, hst]
  have hu2 : OwnD (upd1 (upd1 (upd1 (upd1 h2 (n' + 14) (some [.int .i64 0, .int .i64 0, .int .i64 0, .int .i64 0])) (n' + 14) (some [.int .i64 r.2.1, .int .i64 0, .int .i64 0, .int .i64 r.2.2.2])) (n' + 14) (some [.int .i64 r.2.1, .int .i64 0, .int .i64 r.2.2.1, .int .i64 r.2.2.2])) 4 (some [.int .i64 r.2.1, .int .i64 0, .int .i64 r.2.2.1, .int .i64 r.2.2.2])) n2 r.1 u := hu.keep (Nat.le_refl _) fun b o l e hb _ => by
    obtain ⟨e1, e2⟩ := hu4 _ _ _ _ hb
    rw [upd1_nei e1, upd1_nei e2, upd1_nei e2, upd1_nei e2]
  refine .mk_le (u := .tup [frz1 (upd1 (upd1 (upd1 (upd1 h2 (n' + 14) (some [.int .i64 0, .int .i64 0, .int .i64 0, .int .i64 0])) (n' + 14) (some [.int .i64 r.2.1, .int .i64 0, .int .i64 0, .int .i64 r.2.2.2])) (n' + 14) (some [.int .i64 r.2.1, .int .i64 0, .int .i64 r.2.2.1, .int .i64 r.2.2.2])) 4 (some [.int .i64 r.2.1, .int .i64 0, .int .i64 r.2.2.1, .int .i64 r.2.2.2])) u, encF3 r.2.1 r.2.2.1 r.2.2.2]) ?_ (AV.le_tup2 (frzD hu2) (AV.le_refl _))
  rcases hu2 with ⟨_, rfl⟩ | ⟨b, rfl, hb, _⟩
  · simp only [go_sem, ↓reduceIte, resR, resAll, resA, encF3] <;> rfl
  · simp only [go_sem, ↓reduceIte, resR, resAll, resA, encF3] <;> rfl
end Go.Proofs.YtopmghclhgihfaaGreatDoor

set_option linter.unusedVariables false
set_option linter.unusedSimpArgs false
set_option maxRecDepth 10000
namespace Go.Proofs.YtopmghclhgihfaaGreatDoor
open Go Go.Ab Go.Num

def outsL (t : Tp) (L : List Rat) : List Rat := t.outs.map fun o => L.getD o.toNat 0
/-- Values, slopes, the fault. -/
def fieldT (t : Tp) (r : List (Rat × Rat) × Int × Int × Int) : (List Rat × List Rat) × Int × Int × Int :=
  if r.2.1 = 0 then ((outsL t (r.1.map (·.1)), outsL t (r.1.map (·.2))), 0, 0, 0) else (([], []), r.2)
def vFld (r : (List Rat × List Rat) × Int × Int × Int) : AV := .tup [.sl 3 (r.1.1.map encQ), .sl 3 (r.1.2.map encQ), encF3 r.2.1 r.2.2.1 r.2.2.2]

set_option maxRecDepth 20000 in
set_option maxHeartbeats 2000000 in
theorem c_pfield (t : Tp) (a b : Pt) (bits : Int) (ht : okT t) (hto : t.outs.length ≤ 100000) (ha : okP 9000 a) (hb : okP 9000 b) : PCalls Tryz.prog 19 [encT t, encPt a, encPt b, .int .i64 bits] (vFld (fieldT t (pushT t (rv a.t) (rv b.t) (a.y.map rv) (a.p.map rv) (b.y.map rv) (b.p.map rv) (clampB bits)))) := by
  have hc := c_ptape t a b bits ht ha hb
  have hok := fun h => pushT_ok (t := t) (T := rv a.t) (dT := rv b.t) (Y := a.y.map rv) (P := a.p.map rv) (dY := b.y.map rv) (dP := b.p.map rv) (l := clampB bits) h
  have hlen : (pushT t (rv a.t) (rv b.t) (a.y.map rv) (a.p.map rv) (b.y.map rv) (b.p.map rv) (clampB bits)).2.1 = 0 → (pushT t (rv a.t) (rv b.t) (a.y.map rv) (a.p.map rv) (b.y.map rv) (b.p.map rv) (clampB bits)).1.length = t.code.length ∧ (∀ o ∈ t.outs, 0 ≤ o ∧ o < t.code.length) ∧ (pushT t (rv a.t) (rv b.t) (a.y.map rv) (a.p.map rv) (b.y.map rv) (b.p.map rv) (clampB bits)).2.2 = (0, 0) := fun h => by
    obtain ⟨_, hw, h0, hr, _⟩ := hok h
    have hp := runL_prefix (rv a.t) (a.y.map rv) (a.p.map rv) (clampB bits) t.code []
    rw [runT, if_pos hw] at hr
    rw [hr] at hp
    have := (hp rfl).1
    simp only [List.length_map, List.length_nil, Nat.zero_add] at this
    exact ⟨this, fun o ho => belowB_iff.1 (List.all_eq_true.1 (right_parts hw.1).2.2 o ho), h0⟩
  clear hok
  generalize pushT t (rv a.t) (rv b.t) (a.y.map rv) (a.p.map rv) (b.y.map rv) (b.p.map rv) (clampB bits) = r at hc hlen ⊢
  obtain ⟨L, k, s, p⟩ := r
  simp only [vT2, encF3, encT, encPt, encW] at hc
  unfold fieldT
  by_cases hk : k = 0
  case neg =>
    rw [if_neg hk]
    refine pcalls_of_AWR (pa := []) (fn := Tryz.f19) (rs := [.tmp 8, .tmp 9, .cell 10 56]) follows_mixed Tryz.func19 rfl rfl (by kernel_rfl) (by kernel_rfl) (by rw [Tryz.ntmps19]; simp) ?_
    simp only [go_sem, ↓reduceIte, encT, encPt, encW]
    refine callS_p hc ?_
    simp only [go_sem, ↓reduceIte, beq_int, dec_false hk]
    refine .mk_le (u := .tup [.nilsl, .nilsl, encF3 k s p]) (by simp only [go_sem, ↓reduceIte, resR, resAll, resA, encF3] <;> rfl) (AV.le_tup' (.cons (AV.le_nil 3) (.cons (AV.le_nil 3) (.cons (AV.le_refl _) .nil))))
  obtain ⟨hl, ho, h0⟩ := hlen hk
  simp only at hl h0
  cases h0
  subst hk
  rw [if_pos rfl]
  have e00 : decide ((0 : Int) = 0) = true := rfl
  refine pcalls_of_AWR (pa := []) (fn := Tryz.f19) (rs := [.tmp 8, .tmp 9, .cell 10 56]) follows_mixed Tryz.func19 rfl rfl (by kernel_rfl) (by kernel_rfl) (by rw [Tryz.ntmps19]; simp) ?_
  simp only [go_sem, ↓reduceIte, encT, encPt, encW]
  refine callS_p hc ?_
  simp only [go_sem, ↓reduceIte, beq_int, e00]
  generalize hV : outsL t (L.map (·.1)) = V
  generalize hS : outsL t (L.map (·.2)) = S
  have lV : V.length = t.outs.length := by rw [← hV]; simp [outsL]
  have lS : S.length = t.outs.length := by rw [← hS]; simp [outsL]
  refine AW_while (fun m st => ∃ i, i + m = t.outs.length ∧ st.τ 10 = .ptr 5 0 ∧ st.h 5 = some [.int .i64 0, .int .i64 0, .int .i64 0, .int .i64 0] ∧ st.τ 11 = .sl 6 (L.map encD) ∧ st.τ 27 = .sl 1 (t.outs.map i64) ∧ st.τ 28 = .int .i64 t.outs.length ∧ st.τ 29 = .int .i64 (i : Nat) ∧ 23 ≤ st.n ∧
    ((i = 0 ∧ st.τ 8 = .nilsl ∧ st.τ 9 = .nilsl) ∨ ∃ b c, st.τ 8 = .own b 0 i 3 ∧ st.τ 9 = .own c 0 i 3 ∧ st.h b = some (flatC encQ (V.take i)) ∧ st.h c = some (flatC encQ (S.take i)) ∧ b < st.n ∧ c < st.n ∧ 6 ≤ b ∧ 6 ≤ c ∧ b ≠ c)) t.outs.length ?_ ?_
  · exact ⟨0, by omega, by simp only [go_sem, ↓reduceIte], by simp only [go_sem, ↓reduceIte], by simp only [go_sem, ↓reduceIte], by simp only [go_sem, ↓reduceIte], by simp only [go_sem, ↓reduceIte], by simp only [go_sem, ↓reduceIte] <;> rfl, by simp only [go_sem, ↓reduceIte] <;> omega, .inl ⟨rfl, by simp only [go_sem, ↓reduceIte], by simp only [go_sem, ↓reduceIte]⟩⟩
  · rintro m st ⟨i, hi, h10, h5, h11, h27, h28, h29, hn, hacc⟩ next
    by_cases hlt : i < t.outs.length
    · have hlt' : ((i : Nat) : Int) < (t.outs.length : Nat) := by omega
      have hgo := getD_map_lt i64 t.outs i .undef hlt
      have hoo := ho t.outs[i] (List.getElem_mem hlt)
      have eV : V.take (i + 1) = V.take i ++ [(L.getD t.outs[i].toNat (0, 0)).1] := by
        rw [take_snoc (by omega)]
        congr 1
        subst hV
        simp only [outsL, List.getElem_map, map_fst_getD]
      have eS : S.take (i + 1) = S.take i ++ [(L.getD t.outs[i].toNat (0, 0)).2] := by
        rw [take_snoc (by omega)]
        congr 1
        subst hS
        simp only [outsL, List.getElem_map, map_snd_getD]
      generalize t.outs[i] = o at *
      obtain ⟨o1, o2⟩ := hoo
      have o3 : o.toNat < L.length := by omega
      have o4 : o < (L.length : Nat) := by omega
      have hgl : (L.map encD).getD o.toNat .undef = encD (L.getD o.toNat (0, 0)) := by simp [List.getD, o3]
      have hl1 : (flatC encQ (V.take i)).length = i * 3 := by rw [len_q]; simp; omega
      have hl2 : (flatC encQ (S.take i)).length = i * 3 := by rw [len_q]; simp; omega
      have hi38 : i ≤ 274877906944 := by omega
      have h0i : (0 : Int) ≤ (i : Nat) := by omega
      rcases hacc with ⟨rfl, h8, h9⟩ | ⟨b, c, h8, h9, hb, hc, hbn, hcn, hb6, hc6, hbc⟩
      · simp only [go_sem, ↓reduceIte, h8, h9, h10, h11, h27, h28, h29, hlt', h0i, hgo, i64, o1, o4, hgl, encD, encW, List.length_map]
        refine next (m - 1) _ (by omega) ⟨1, by omega, by simp only [go_sem, ↓reduceIte, h10], by simp only [go_sem, ↓reduceIte, upd1_old _ _ _ _ _ (show 5 < st.n by omega), h5], by simp only [go_sem, ↓reduceIte, h11], by simp only [go_sem, ↓reduceIte, h27], by simp only [go_sem, ↓reduceIte, h28], by simp only [go_sem, ↓reduceIte] <;> rfl, by simp only [go_sem, ↓reduceIte] <;> omega, .inr ⟨_, _, by simp only [go_sem, ↓reduceIte] <;> rfl, by simp only [go_sem, ↓reduceIte] <;> rfl, by rw [eV, flatC_snoc]; simp only [go_sem, ↓reduceIte, flatC_nil, List.take_zero, encQ, encR, encW] <;> rfl, by rw [eS, flatC_snoc]; simp only [go_sem, ↓reduceIte, flatC_nil, List.take_zero, encQ, encR, encW] <;> rfl, by simp only [go_sem, ↓reduceIte] <;> omega, by simp only [go_sem, ↓reduceIte] <;> omega, by omega, by omega, by omega⟩⟩
      · simp only [go_sem, ↓reduceIte, h8, h9, h10, h11, h27, h28, h29, hlt', h0i, hgo, i64, o1, o4, hgl, encD, encW, List.length_map, hb, hc, hl1, hl2, hi38, upd1_old _ _ _ _ _ hbn, old_ne hbn, new_ne hbn, upd1_old _ _ _ _ _ hcn, old_ne hcn, new_ne hcn, upd1_nei (Ne.symm hbc)]
        refine next (m - 1) _ (by omega) ⟨i + 1, by omega, by simp only [go_sem, ↓reduceIte, h10], by simp only [go_sem, ↓reduceIte, upd1_old _ _ _ _ _ (show 5 < st.n by omega), upd1_nei (show 5 ≠ b by omega), upd1_nei (show 5 ≠ c by omega), h5], by simp only [go_sem, ↓reduceIte, h11], by simp only [go_sem, ↓reduceIte, h27], by simp only [go_sem, ↓reduceIte, h28], by simp only [go_sem, ↓reduceIte]; rw [wrap64_id (by omega) (by omega)]; rfl, by simp only [go_sem, ↓reduceIte] <;> omega, .inr ⟨_, _, by simp only [go_sem, ↓reduceIte] <;> rfl, by simp only [go_sem, ↓reduceIte] <;> rfl, by rw [eV, flatC_snoc]; simp only [go_sem, ↓reduceIte, List.take_of_length_le (Nat.le_of_eq hl1), new_ne hcn, encQ, encR, encW] <;> rfl, by rw [eS, flatC_snoc]; simp only [go_sem, ↓reduceIte, List.take_of_length_le (Nat.le_of_eq hl2), encQ, encR, encW] <;> rfl, by simp only [go_sem, ↓reduceIte] <;> omega, by simp only [go_sem, ↓reduceIte] <;> omega, by omega, by omega, by omega⟩⟩
    · have hlt' := dec_false (show ¬ ((i : Nat) : Int) < (t.outs.length : Nat) by omega)
      have hio : i = t.outs.length := by omega
      have tV : V.take i = V := List.take_of_length_le (by omega)
      have tS : S.take i = S := List.take_of_length_le (by omega)
      rw [tV, tS] at hacc
      simp only [go_sem, ↓reduceIte, h10, h11, h27, h28, h29, hlt', h5]
      rcases hacc with ⟨h0, h8, h9⟩ | ⟨b, c, h8, h9, hb, hc, hbn, hcn, hb6, hc6, hbc⟩
      · have v0 : V = [] := List.length_eq_zero_iff.1 (by omega)
        have s0 : S = [] := List.length_eq_zero_iff.1 (by omega)
        rw [v0, s0]
        refine .mk_le (u := .tup [.nilsl, .nilsl, encF3 0 0 0]) (by simp only [go_sem, ↓reduceIte, h8, h9, h10, resR, resAll, resA, encF3] <;> rfl) (AV.le_tup' (.cons (AV.le_nil 3) (.cons (AV.le_nil 3) (.cons (AV.le_refl _) .nil))))
      · rw [hio, ← lV] at h8
        rw [hio, ← lS] at h9
        have hb' : upd1 st.h 5 (some [.int .i64 0, .int .i64 0, .int .i64 0, .int .i64 0]) b = some (flatC encQ V) := by rw [upd1_nei (by omega), hb]
        have hc' : upd1 st.h 5 (some [.int .i64 0, .int .i64 0, .int .i64 0, .int .i64 0]) c = some (flatC encQ S) := by rw [upd1_nei (by omega), hc]
        have fb := frz1_flatC elt_q hb'
        have fc := frz1_flatC elt_q hc'
        refine .mk_le (u := .tup [frz1 (upd1 st.h 5 (some [.int .i64 0, .int .i64 0, .int .i64 0, .int .i64 0])) (.own b 0 V.length 3), frz1 (upd1 st.h 5 (some [.int .i64 0, .int .i64 0, .int .i64 0, .int .i64 0])) (.own c 0 S.length 3), encF3 0 0 0]) (by simp only [go_sem, ↓reduceIte, h8, h9, h10, resR, resAll, resA, encF3] <;> rfl) (by rw [fb, fc]; exact AV.le_refl _)
end Go.Proofs.YtopmghclhgihfaaGreatDoor

set_option linter.unusedVariables false
set_option linter.unusedSimpArgs false
set_option maxRecDepth 10000
namespace Go.Proofs.YtopmghclhgihfaaGreatDoor
open Go Go.Ab Go.Num

/-- A fraction; or one that nothing was written to yet. -/
def encB (p : Rat × Bool) : AV := if p.2 then .agg [.bool false, .nilsl, .nilsl] else encQ p.1
def frB (p : Rat × Bool) : Fr := if p.2 then ⟨false, [], []⟩ else cq p.1
def okB (l : List (Rat × Bool)) : Prop := ∀ p ∈ l, p.2 = true → p.1 = 0
theorem elt_b : Elt 3 encB := ⟨by omega, fun p => by
  rcases p with ⟨q, b⟩
  cases b with
  | true => exact ⟨_, rfl, rfl, rfl, rfl⟩
  | false => exact ⟨_, rfl, rfl, rfl, rfl⟩⟩
theorem len_b (D : List (Rat × Bool)) : (flatC encB D).length = D.length * 3 := flatC_length elt_b D
theorem flat_done (D : List Rat) : flatC encB (D.map fun q => (q, false)) = flatC encQ D := by simp only [flatC, List.flatMap_map]; rfl
theorem rep_zero : ∀ n, repCells n [.bool false, .nilsl, .nilsl] = flatC encB (List.replicate n (0, true))
  | 0 => rfl
  | n + 1 => by rw [repCells, rep_zero n, List.replicate_succ]; rfl
theorem cells_b (p : Rat × Bool) : ∃ a b c, encB p = .agg [a, b, c] ∧ (encB p).cells? = some [a, b, c] := by
  rcases p with ⟨q, b⟩
  cases b with
  | true => exact ⟨_, _, _, rfl, rfl⟩
  | false => exact ⟨_, _, _, rfl, rfl⟩
theorem le_b (p : Rat × Bool) : (encB p).le (encR (frB p)) := by
  rcases p with ⟨q, b⟩
  cases b with
  | true => exact AV.le_agg' (.cons (AV.le_refl _) (.cons (AV.le_nil 1) (.cons (AV.le_nil 1) .nil)))
  | false => exact AV.le_refl _
theorem rv_b {p : Rat × Bool} (h : p.2 = true → p.1 = 0) : rv (frB p) = p.1 := by
  rcases p with ⟨q, b⟩
  cases b with
  | true => simp only at h; rw [h trivial]; simp [frB, rv, val]
  | false => exact rv_cq q
theorem ok_b {p : Rat × Bool} {k : Nat} (h : qw p.1 ≤ k) : okR k (frB p) := by
  rcases p with ⟨q, b⟩
  cases b with
  | true => exact ⟨.nil, .nil, Nat.zero_le _, Nat.zero_le _⟩
  | false => exact okR_cq h
/-- Writing to a place. -/
theorem lay_elt {α : Type} {enc : α → AV} {e : Nat} (he : Elt e enc) {D : List α} {i : Nat} (hi : i < D.length) (x : α) : (flatC enc D).take (i * e) ++ ((enc x).cells?).getD [] ++ (flatC enc D).drop (i * e + e) = flatC enc (D.set i x) := by
  rw [List.append_assoc]
  have e1 : D.set i x = D.take i ++ x :: D.drop (i + 1) := by rw [List.set_eq_take_append_cons_drop, if_pos hi]
  have e2 : D = D.take i ++ D[i] :: D.drop (i + 1) := by rw [← drop_cons hi, List.take_append_drop]
  have l1 : (flatC enc (D.take i)).length = i * e := by rw [flatC_length he, List.length_take, Nat.min_eq_left (by omega)]
  obtain ⟨cs, c1, c2, _⟩ := he.2 D[i]
  have f : ∀ (a : List α) (y : α) (b : List α), flatC enc (a ++ y :: b) = flatC enc a ++ (((enc y).cells?).getD [] ++ flatC enc b) := fun a y b => by
    simp only [flatC, List.flatMap_append, List.flatMap_cons]
  rw [e1, f]
  conv => lhs; rw [e2]
  rw [f, c1, Option.getD_some]
  congr 1
  · rw [List.take_append_of_le_length (by omega), List.take_of_length_le (by omega)]
  · congr 1
    rw [← List.append_assoc, List.drop_append_of_le_length (by rw [List.length_append]; omega), List.drop_eq_nil_of_le (by rw [List.length_append]; omega), List.nil_append]
theorem lay_b {D : List (Rat × Bool)} {i : Nat} (hi : i < D.length) (q : Rat) : (flatC encB D).take (i * 3) ++ [.bool (cq q).neg, encW (cq q).n, encW (cq q).d] ++ (flatC encB D).drop (i * 3 + 3) = flatC encB (D.set i (q, false)) := lay_elt elt_b hi (q, false)
theorem get_b {D : List (Rat × Bool)} {i : Nat} (hi : i < D.length) : getAs true 3 ((flatC encB D).drop (i * 3)) = some (encB (D.getD i (0, true))) := by
  obtain ⟨cs, c1, c2⟩ := flat_get elt_b hi
  rw [getAs_true (by rw [List.length_drop, len_b]; omega), c2]
  obtain ⟨a, b, c, h1, h2⟩ := cells_b D[i]
  rw [show D.getD i (0, true) = D[i] by simp [List.getD, hi]]
  rw [h2] at c1; cases c1
  rw [h1]
end Go.Proofs.YtopmghclhgihfaaGreatDoor

set_option linter.unusedVariables false
set_option linter.unusedSimpArgs false
set_option maxRecDepth 10000
namespace Go.Proofs.YtopmghclhgihfaaGreatDoor
open Go Go.Ab Go.Num

/-- A new own row. -/
def NewOwn (h : Heap) (n : Nat) (D : List Rat) (v : AV) (h' : Heap) (n' : Nat) : Prop := (∃ b, v = .own b 0 D.length 3 ∧ h' b = some (flatC encQ D) ∧ n ≤ b ∧ b < n') ∧ ∀ j, j < n → h' j = h j
def mark (l : List Rat) (m : Nat) : List (Rat × Bool) := l.map (fun q => (q, false)) ++ List.replicate m (0, true)
theorem mark_set (l : List Rat) (m : Nat) (q : Rat) : (mark l (m + 1)).set l.length (q, false) = mark (l ++ [q]) m := by
  unfold mark
  rw [List.set_append_right _ _ (by simp), List.length_map, Nat.sub_self, List.replicate_succ, List.set_cons_zero, List.map_append, List.append_assoc]
  rfl
theorem mark_len (l : List Rat) (m : Nat) : (mark l m).length = l.length + m := by simp [mark]
theorem zeros_snoc (i : Nat) : zeros i ++ [0] = zeros (i + 1) := by simp only [zeros, List.replicate_succ']

set_option maxRecDepth 20000 in
theorem c_rzero (m : Nat) (hm : m ≤ 300) (h : Heap) (n : Nat) : HCalls Tryz.prog 68 [.int .i64 m] h n (fun v h' n' => NewOwn h n (zeros m) v h' n') := by
  have a1 := dec_false (show ¬ (0 : Int) > (m : Nat) by omega)
  have a2 := dec_false (show ¬ ((m : Nat) : Int) > 300 by omega)
  have a3 : ¬ (0 : Int) > (m : Nat) := by omega
  have a4 : ¬ (300 : Int) < (m : Nat) := by omega
  have a5 : (0 : Int) ≤ (m : Nat) := by omega
  have a6 : ((m : Nat) : Int) ≤ 1099511627776 := by omega
  have a7 : ¬ ((m : Nat) : Int) < 0 := by omega
  refine hcalls_of_AWR (pa := []) (fn := Tryz.f68) (rs := [.tmp 2]) follows_mixed Tryz.func68 rfl rfl (by kernel_rfl) (by kernel_rfl) (by rw [Tryz.ntmps68]; simp) ?_
  simp only [go_sem, ↓reduceIte, a3, a4, a5, a6, a7, rep_zero]
  refine AW_while (fun k st => ∃ i, i + k = m ∧ st.τ 10 = .int .i64 (m : Nat) ∧ st.τ 11 = .int .i64 (i : Nat) ∧ (∃ b, st.τ 3 = .own b 0 m 3 ∧ st.h b = some (flatC encB (mark (zeros i) k)) ∧ n ≤ b ∧ b < st.n) ∧ n ≤ st.n ∧ ∀ j, j < n → st.h j = h j) m ?_ ?_
  · refine ⟨0, by omega, by simp only [go_sem, ↓reduceIte], by simp only [go_sem, ↓reduceIte] <;> rfl, ⟨_, by simp only [go_sem, ↓reduceIte] <;> rfl, by simp only [go_sem, ↓reduceIte] <;> rfl, by omega, by simp only [go_sem, ↓reduceIte] <;> omega⟩, by simp only [go_sem, ↓reduceIte] <;> omega, fun j hj => by simp only [go_sem, ↓reduceIte, upd1_old _ _ _ _ _ hj]⟩
  · rintro k st ⟨i, hi, h10, h11, ⟨b, h3, hb, hnb, hbn⟩, hn, hkp⟩ next
    by_cases hlt : i < m
    · obtain ⟨k, rfl⟩ : ∃ j, k = j + 1 := ⟨k - 1, by omega⟩
      have hlt' : ((i : Nat) : Int) < (m : Nat) := by omega
      have hl : (flatC encB (mark (zeros i) (k + 1))).length = m * 3 := by rw [len_b, mark_len]; simp [zeros]; omega
      have hle : i * 3 + 3 ≤ m * 3 := by omega
      have hset := lay_b (D := mark (zeros i) (k + 1)) (i := i) (by rw [mark_len]; simp [zeros]) 0
      have hmk := mark_set (zeros i) k 0
      rw [show (zeros i).length = i by simp [zeros], zeros_snoc] at hmk
      rw [hmk] at hset
      simp only [go_sem, ↓reduceIte, h3, h10, h11, hlt']
      refine callS_p c_q0 ?_
      simp only [go_sem, ↓reduceIte, h3, h10, h11, hlt', hb, hl, hle, encQ, encR, encW]
      refine next k _ (by omega) ⟨i + 1, by omega, by simp only [go_sem, ↓reduceIte, h10], by simp only [go_sem, ↓reduceIte]; rw [wrap64_id (by omega) (by omega)]; rfl, ⟨b, by simp only [go_sem, ↓reduceIte, h3], by simp only [go_sem, ↓reduceIte]; exact congrArg some hset, hnb, by simp only [go_sem, ↓reduceIte]; omega⟩, by simp only [go_sem, ↓reduceIte]; omega, fun j hj => by simp only [go_sem, ↓reduceIte]; rw [upd1_nei (by omega), hkp j hj]⟩
    · have hlt' := dec_false (show ¬ ((i : Nat) : Int) < (m : Nat) by omega)
      have him : i = m := by omega
      have hk0 : k = 0 := by omega
      subst hk0
      subst him
      have hb2 : flatC encB (mark (zeros i) 0) = flatC encQ (zeros i) := by
        simp only [mark, List.replicate_zero, List.append_nil]; exact flat_done _
      rw [hb2] at hb
      simp only [go_sem, ↓reduceIte, h3, h10, h11, hlt']
      refine .mk (.own b 0 i 3) (by simp only [go_sem, ↓reduceIte, resR, resAll, resA] <;> rfl) ⟨⟨b, by simp [zeros], by simp only [go_sem, ↓reduceIte, hb], hnb, by simp only [go_sem, ↓reduceIte]; omega⟩, fun j hj => by simp only [go_sem, ↓reduceIte, hkp j hj]⟩

set_option maxRecDepth 20000 in
theorem c_rnorm (l : List Fr) (hl : l.length ≤ 100000) (hok : ∀ f ∈ l, okR 80000 f) (h : Heap) (n : Nat) : HCalls Tryz.prog 37 [.sl 3 (l.map encR)] h n (fun v h' n' => Own h' n' (l.map rv) v ∧ (∀ b o k e, v = .own b o k e → n ≤ b) ∧ n ≤ n' ∧ ∀ j, j < n → h' j = h j) := by
  refine hcalls_of_AWR (pa := []) (fn := Tryz.f37) (rs := [.tmp 2]) follows_mixed Tryz.func37 rfl rfl (by kernel_rfl) (by kernel_rfl) (by rw [Tryz.ntmps37]; simp) ?_
  simp only [go_sem, ↓reduceIte]
  refine AW_while (fun m st => ∃ i, i + m = l.length ∧ st.τ 6 = .sl 3 (l.map encR) ∧ st.τ 7 = .int .i64 l.length ∧ st.τ 8 = .int .i64 (i : Nat) ∧ Acc 3 encQ st (st.τ 3) ((l.take i).map rv) ∧ (∀ b o k e, st.τ 3 = .own b o k e → n ≤ b) ∧ n ≤ st.n ∧ ∀ j, j < n → st.h j = h j) l.length ?_ ?_
  · exact ⟨0, by omega, by simp only [go_sem, ↓reduceIte], by simp only [go_sem, ↓reduceIte], by simp only [go_sem, ↓reduceIte] <;> rfl, .inl ⟨by simp, by simp only [go_sem, ↓reduceIte]⟩, (fun b o k e he => by simp only [go_sem, ↓reduceIte] at he <;> cases he), by simp only [go_sem, ↓reduceIte] <;> omega, fun j hj => by simp only [go_sem, ↓reduceIte]⟩
  · rintro m st ⟨i, hi, h6, h7, h8, hacc, hub, hn, hkp⟩ next
    by_cases hlt : i < l.length
    · have hlt' : ((i : Nat) : Int) < (l.length : Nat) := by omega
      have hc := c_fnorm l[i] (hok _ (List.getElem_mem hlt))
      simp only [go_sem, ↓reduceIte, h6, h7, h8, hlt', getD_map_lt _ _ _ _ hlt, encR, encW]
      refine callS_p hc ?_
      have hl3 : (flatC encQ ((l.take i).map rv)).length = i * 3 := by rw [len_q]; simp; omega
      have hi38 : i ≤ 274877906944 := by omega
      have htk : ((l.take i).map rv).length = i := by simp; omega
      have htk1 : ((l.take (i + 1)).map rv).length = i + 1 := by simp; omega
      rcases hacc with ⟨hnil, h3⟩ | ⟨b, h3, hb, hbn⟩
      · have hi0 : i = 0 := by rw [hnil] at htk; simp at htk; omega
        subst hi0
        simp only [go_sem, ↓reduceIte, h3, h6, h7, h8, hlt', encQ, encR, encW]
        refine next (m - 1) _ (by omega) ⟨1, by omega, by simp only [go_sem, ↓reduceIte, h6], by simp only [go_sem, ↓reduceIte, h7], by simp only [go_sem, ↓reduceIte] <;> rfl, .inr ⟨_, by rw [htk1]; simp only [go_sem, ↓reduceIte] <;> rfl, by rw [map_take_snoc rv hlt, flatC_snoc, hnil]; simp only [go_sem, ↓reduceIte, flatC_nil, encQ, encR, encW] <;> rfl, by simp only [go_sem, ↓reduceIte] <;> omega⟩, (fun b o k e he => by simp only [go_sem, ↓reduceIte] at he; cases he; omega), by simp only [go_sem, ↓reduceIte] <;> omega, fun j hj => by simp only [go_sem, ↓reduceIte, upd1_old _ _ _ _ _ (show j < st.n by omega), hkp j hj]⟩
      · rw [htk] at h3
        have hnb := hub _ _ _ _ h3
        simp only [go_sem, ↓reduceIte, h3, h6, h7, h8, hlt', encQ, encR, encW, hb, hl3, hi38, upd1_old _ _ _ _ _ hbn, old_ne hbn, new_ne hbn]
        refine next (m - 1) _ (by omega) ⟨i + 1, by omega, by simp only [go_sem, ↓reduceIte, h6], by simp only [go_sem, ↓reduceIte, h7], by simp only [go_sem, ↓reduceIte]; rw [wrap64_id (by omega) (by omega)]; rfl, .inr ⟨_, by rw [htk1]; simp only [go_sem, ↓reduceIte] <;> rfl, by rw [map_take_snoc rv hlt, flatC_snoc]; simp only [go_sem, ↓reduceIte, List.take_of_length_le (Nat.le_of_eq hl3), encQ, encR, encW] <;> rfl, by simp only [go_sem, ↓reduceIte] <;> omega⟩, (fun b o k e he => by simp only [go_sem, ↓reduceIte] at he; cases he; omega), by simp only [go_sem, ↓reduceIte] <;> omega, fun j hj => by simp only [go_sem, ↓reduceIte, upd1_old _ _ _ _ _ (show j < st.n by omega), upd1_nei (show j ≠ b by omega), hkp j hj]⟩
    · have hlt' := dec_false (show ¬ ((i : Nat) : Int) < (l.length : Nat) by omega)
      rw [List.take_of_length_le (by omega)] at hacc
      simp only [go_sem, ↓reduceIte, h6, h7, h8, hlt']
      rcases hacc with ⟨hnil, h3⟩ | ⟨b, h3, hb, hbn⟩
      · refine .mk .nilsl (by simp only [go_sem, ↓reduceIte, resR, resAll, resA, h3] <;> rfl) ⟨.inl ⟨hnil, rfl⟩, (fun _ _ _ _ h => by cases h), by simp only [go_sem, ↓reduceIte]; omega, fun j hj => by simp only [go_sem, ↓reduceIte, hkp j hj]⟩
      · have hnb := hub _ _ _ _ h3
        refine .mk (.own b 0 (l.map rv).length 3) (by simp only [go_sem, ↓reduceIte, resR, resAll, resA, h3] <;> rfl) ⟨.inr ⟨b, rfl, by simp only [go_sem, ↓reduceIte, hb], by simp only [go_sem, ↓reduceIte]; omega⟩, (fun _ _ _ _ h => by cases h; exact hnb), by simp only [go_sem, ↓reduceIte]; omega, fun j hj => by simp only [go_sem, ↓reduceIte, hkp j hj]⟩

set_option maxRecDepth 20000 in
theorem c_rscale (c : Fr) (l : List Fr) (hl : l.length ≤ 100000) (hc : okR 20000 c) (hok : ∀ f ∈ l, okR 20000 f) : PCalls Tryz.prog 28 [encR c, .sl 3 (l.map encR)] (.sl 3 ((l.map fun f => rv c * rv f).map encQ)) := by
  refine pcalls_of_AW (pa := []) (fn := Tryz.f28) (ts := [4]) follows_mixed Tryz.func28 rfl rfl (by kernel_rfl) (by kernel_rfl) (by rw [Tryz.ntmps28]; simp) ?_
  simp only [go_sem, ↓reduceIte, encR, encW]
  refine AW_while (fun m st => ∃ i, i + m = l.length ∧ st.τ 2 = .ptr 0 0 ∧ st.h 0 = some [.bool c.neg, encW c.n, encW c.d] ∧ 1 ≤ st.n ∧ st.τ 8 = .sl 3 (l.map encR) ∧ st.τ 9 = .int .i64 l.length ∧ st.τ 10 = .int .i64 (i : Nat) ∧ Acc 3 encQ st (st.τ 5) ((l.take i).map fun f => rv c * rv f) ∧ (∀ b o k e, st.τ 5 = .own b o k e → 1 ≤ b)) l.length ?_ ?_
  · exact ⟨0, by omega, by simp only [go_sem, ↓reduceIte], by simp only [go_sem, ↓reduceIte, encW], by simp only [go_sem, ↓reduceIte] <;> omega, by simp only [go_sem, ↓reduceIte, encR, encW] <;> rfl, by simp only [go_sem, ↓reduceIte, List.length_map], by simp only [go_sem, ↓reduceIte] <;> rfl, .inl ⟨by simp, by simp only [go_sem, ↓reduceIte]⟩, fun b o k e he => by simp only [go_sem, ↓reduceIte] at he <;> cases he⟩
  · rintro m st ⟨i, hi, h2, h0, hn1, h6, h7, h8, hacc, hub⟩ next
    have n0 : 0 < st.n := hn1
    by_cases hlt : i < l.length
    · have hlt' : ((i : Nat) : Int) < (l.length : Nat) := by omega
      have hcm := c_fmul c l[i] hc (hok _ (List.getElem_mem hlt))
      simp only [encR, encW] at hcm
      simp only [go_sem, ↓reduceIte, h0, h2, h6, h7, h8, hlt', getD_map_lt _ _ _ _ hlt, encR, encW, upd1_old _ _ _ _ _ n0, upd1_old0 _ _ _ _ n0]
      refine callS_p hcm ?_
      have hl3 : (flatC encQ ((l.take i).map fun f => rv c * rv f)).length = i * 3 := by rw [len_q]; simp; omega
      have hi38 : i ≤ 274877906944 := by omega
      have htk : ((l.take i).map fun f => rv c * rv f).length = i := by simp; omega
      have htk1 : ((l.take (i + 1)).map fun f => rv c * rv f).length = i + 1 := by simp; omega
      rcases hacc with ⟨hnil, h3⟩ | ⟨b, h3, hb, hbn⟩
      · have hi0 : i = 0 := by rw [hnil] at htk; simp at htk; omega
        subst hi0
        simp only [go_sem, ↓reduceIte, h0, h2, h3, h6, h7, h8, hlt', encQ, encR, encW]
        refine next (m - 1) _ (by omega) ⟨1, by omega, by simp only [go_sem, ↓reduceIte, h2], by simp only [go_sem, ↓reduceIte, upd1_old _ _ _ _ _ n0, upd1_old0 _ _ _ _ n0, h0, encW], by simp only [go_sem, ↓reduceIte] <;> omega, by simp only [go_sem, ↓reduceIte, h6, encR, encW], by simp only [go_sem, ↓reduceIte, h7], by simp only [go_sem, ↓reduceIte] <;> rfl, .inr ⟨_, by rw [htk1]; simp only [go_sem, ↓reduceIte] <;> rfl, by rw [map_take_snoc _ hlt, flatC_snoc, hnil]; simp only [go_sem, ↓reduceIte, flatC_nil, encQ, encR, encW] <;> rfl, by simp only [go_sem, ↓reduceIte] <;> omega⟩, fun b o k e he => by simp only [go_sem, ↓reduceIte] at he; cases he; omega⟩
      · rw [htk] at h3
        have hnb := hub _ _ _ _ h3
        simp only [go_sem, ↓reduceIte, h0, h2, h3, h6, h7, h8, hlt', encQ, encR, encW, hb, hl3, hi38, upd1_old _ _ _ _ _ hbn, old_ne hbn, new_ne hbn]
        refine next (m - 1) _ (by omega) ⟨i + 1, by omega, by simp only [go_sem, ↓reduceIte, h2], by simp only [go_sem, ↓reduceIte, upd1_old _ _ _ _ _ n0, upd1_old0 _ _ _ _ n0, upd1_nei (show 0 ≠ b by omega), h0, encW], by simp only [go_sem, ↓reduceIte] <;> omega, by simp only [go_sem, ↓reduceIte, h6, encR, encW], by simp only [go_sem, ↓reduceIte, h7], by simp only [go_sem, ↓reduceIte]; rw [wrap64_id (by omega) (by omega)]; rfl, .inr ⟨_, by rw [htk1]; simp only [go_sem, ↓reduceIte] <;> rfl, by rw [map_take_snoc _ hlt, flatC_snoc]; simp only [go_sem, ↓reduceIte, List.take_of_length_le (Nat.le_of_eq hl3), encQ, encR, encW] <;> rfl, by simp only [go_sem, ↓reduceIte] <;> omega⟩, fun b o k e he => by simp only [go_sem, ↓reduceIte] at he; cases he; omega⟩
    · have hlt' := dec_false (show ¬ ((i : Nat) : Int) < (l.length : Nat) by omega)
      rw [List.take_of_length_le (by omega)] at hacc
      simp only [go_sem, ↓reduceIte, h6, h7, h8, hlt']
      refine Acc.ret elt_q ?_
      rcases hacc with ⟨hnil, h3⟩ | ⟨b, h3, hb, hbn⟩
      · exact .inl ⟨hnil, by simp only [go_sem, ↓reduceIte, h3]⟩
      · exact .inr ⟨b, by simp only [go_sem, ↓reduceIte, h3] <;> rfl, by simp only [go_sem, ↓reduceIte, hb] <;> rfl, by simp only [go_sem, ↓reduceIte]; omega⟩
end Go.Proofs.YtopmghclhgihfaaGreatDoor

set_option linter.unusedVariables false
set_option linter.unusedSimpArgs false
set_option maxRecDepth 10000
namespace Go.Proofs.YtopmghclhgihfaaGreatDoor
open Go Go.Ab Go.Num

def vAdd (a b : List Fr) : AV := if a.length = b.length then .tup [.sl 3 ((addL (a.map rv) (b.map rv)).map encQ), .bool true] else .tup [.sl 3 [], .bool false]
/-- Half way: the first 'i' places are sums. -/
def midL (a b : List Rat) (i : Nat) : List Rat := (addL a b).take i ++ a.drop i
theorem midL_len {a b : List Rat} (h : a.length = b.length) (i : Nat) (hi : i ≤ a.length) : (midL a b i).length = a.length := by
  simp only [midL, List.length_append, List.length_take, List.length_drop, addL_len h]; omega
theorem midL_get {a b : List Rat} (h : a.length = b.length) {i : Nat} (hi : i < a.length) : (midL a b i).getD i 0 = a.getD i 0 := by
  unfold midL
  have l1 : ((addL a b).take i).length = i := by rw [List.length_take, addL_len h]; omega
  rw [List.getD_eq_getElem?_getD, List.getElem?_append_right (by omega), l1, Nat.sub_self, List.getElem?_drop, Nat.add_zero, ← List.getD_eq_getElem?_getD]
theorem midL_set {a b : List Rat} (h : a.length = b.length) {i : Nat} (hi : i < a.length) : (midL a b i).set i (a.getD i 0 + b.getD i 0) = midL a b (i + 1) := by
  unfold midL
  have l1 : ((addL a b).take i).length = i := by rw [List.length_take, addL_len h]; omega
  have hi' : i < (addL a b).length := by rw [addL_len h]; exact hi
  rw [List.set_append_right _ _ (by omega), l1, Nat.sub_self, drop_cons hi, List.set_cons_zero, take_snoc hi', List.append_assoc]
  have : (addL a b)[i] = a.getD i 0 + b.getD i 0 := by
    rw [← addL_get h]; simp [hi']
  rw [this]; rfl
theorem lay_q {D : List Rat} {i : Nat} (hi : i < D.length) (q : Rat) : (flatC encQ D).take (i * 3) ++ [.bool (cq q).neg, encW (cq q).n, encW (cq q).d] ++ (flatC encQ D).drop (i * 3 + 3) = flatC encQ (D.set i q) := lay_elt elt_q hi q

theorem e00 : decide ((0 : Int) = 0) = true := rfl
theorem frzQ {h : Heap} {n : Nat} {D : List Rat} {u : AV} (hu : Own h n D u) : (frz1 h u).le (.sl 3 (D.map encQ)) := by
  rcases hu with ⟨h1, rfl⟩ | ⟨b, rfl, h2, _⟩
  · rw [h1]; exact AV.le_nil 3
  · exact AV.le_of_eq (frz1_flatC elt_q h2)
theorem midL_all {a b : List Rat} (h : a.length = b.length) : midL a b a.length = addL a b := by
  unfold midL
  rw [List.drop_length, List.append_nil, List.take_of_length_le (by rw [addL_len h]; exact Nat.le_refl _)]
set_option maxRecDepth 20000 in
set_option maxHeartbeats 1000000 in
theorem c_radd (a b : List Fr) (hla : a.length ≤ 100000) (ha : ∀ f ∈ a, okR 15000 f) (hb : ∀ f ∈ b, okR 15000 f) : PCalls Tryz.prog 14 [.sl 1 [.sl 3 (a.map encR), .sl 3 (b.map encR)]] (vAdd a b) := by
  unfold vAdd
  have hn := c_rnorm a hla (fun f hf => (ha f hf).mono (by omega))
  have sA : ∀ q ∈ a.map rv, qw q ≤ 15000 := fun q hq => by
    obtain ⟨f, hf, rfl⟩ := List.mem_map.1 hq
    exact qw_rv (ha f hf) (by omega)
  have lA : (a.map rv).length = a.length := List.length_map _
  have lB : (b.map rv).length = b.length := List.length_map _
  generalize a.map rv = A at *
  refine pcalls_of_AW (pa := []) (fn := Tryz.f14) (ts := [2, 3]) follows_mixed Tryz.func14 rfl rfl (by kernel_rfl) (by kernel_rfl) (by rw [Tryz.ntmps14]; simp) ?_
  simp only [go_sem, ↓reduceIte, List.length_cons, List.length_nil, cast2, cast1, cast0]
  refine callS_h (hn _ _) ?_
  rintro v h' n' hn' ⟨hown, hub, hnn, hk⟩
  have hv : (A = [] ∧ v = .nilsl) ∨ ∃ c, v = .own c 0 a.length 3 ∧ h' c = some (flatC encQ A) ∧ c < n' := by rw [← lA]; exact hown
  clear hown hub hk
  simp only [go_sem, ↓reduceIte, List.length_cons, List.length_nil, cast2, cast1, cast0]
  refine AW_while (fun m st => ∃ j : Nat, j + m = 1 ∧ st.τ 17 = .sl 1 [.sl 3 (b.map encR)] ∧ st.τ 18 = .int .i64 1 ∧ st.τ 19 = .int .i64 (j : Nat) ∧ (j = 0 ∨ a.length = b.length) ∧ ∃ D : List Rat, D = (if j = 0 then A else addL A (b.map rv)) ∧ ((D = [] ∧ st.τ 4 = .nilsl) ∨ ∃ c, st.τ 4 = .own c 0 a.length 3 ∧ st.h c = some (flatC encQ D) ∧ c < st.n)) 1 ?_ ?_
  · refine ⟨0, rfl, by simp only [go_sem, ↓reduceIte], by simp only [go_sem, ↓reduceIte, List.length_cons, List.length_nil, cast2, cast1, cast0], by simp only [go_sem, ↓reduceIte] <;> rfl, .inl rfl, A, by rw [if_pos rfl], ?_⟩
    rcases hv with ⟨h1, rfl⟩ | ⟨c, rfl, h2, h3⟩
    · exact .inl ⟨h1, by simp only [go_sem, ↓reduceIte]⟩
    · exact .inr ⟨c, by simp only [go_sem, ↓reduceIte], by simp only [go_sem, ↓reduceIte, h2], by simp only [go_sem, ↓reduceIte]; omega⟩
  · rintro m st ⟨j, hj, h17, h18, h19, hjl, D, hD, hacc⟩ next
    by_cases hj0 : j = 0
    case neg =>
      obtain rfl : j = 1 := by omega
      have hab : a.length = b.length := by rcases hjl with h | h <;> omega
      rw [if_neg (by omega)] at hD
      rw [if_pos hab]
      subst hD
      simp only [go_sem, ↓reduceIte, h17, h18, h19, cast1]
      rcases hacc with ⟨h1, h4⟩ | ⟨c, h4, hc, hcn⟩
      · rw [h1]
        refine .mk_le (u := .tup [.nilsl, .bool true]) (by simp only [go_sem, ↓reduceIte, h4] <;> rfl) (AV.le_tup2 (AV.le_nil 3) (AV.le_refl _))
      · have lD : (addL A (b.map rv)).length = a.length := by rw [addL_len (by omega), lA]
        have hf := frz1_flatC elt_q hc
        rw [lD] at hf
        refine .mk_le (u := .tup [frz1 st.h (.own c 0 a.length 3), .bool true]) (by simp only [go_sem, ↓reduceIte, h4]) (by rw [hf]; exact AV.le_refl _)
    subst hj0
    rw [if_pos rfl] at hD
    subst hD
    by_cases hab : a.length = b.length
    case neg =>
      rw [if_neg hab]
      have hne : ¬ ((b.length : Nat) : Int) = (a.length : Nat) := by omega
      rcases hacc with ⟨h1, h4⟩ | ⟨c, h4, hc, hcn⟩
      · have ha0 : a.length = 0 := by rw [← lA, h1]; rfl
        have hne0 : ¬ ((b.length : Nat) : Int) = 0 := by omega
        simp only [go_sem, ↓reduceIte, h4, h17, h18, h19, List.length_cons, List.length_nil, List.getD_cons_zero, cast0, cast1, bne_int, List.length_map, dec_false hne0]
        refine .mk_le (u := .tup [.nilsl, .bool false]) (by simp only [go_sem, ↓reduceIte] <;> rfl) (AV.le_tup2 (AV.le_nil 3) (AV.le_refl _))
      · simp only [go_sem, ↓reduceIte, h4, h17, h18, h19, List.length_cons, List.length_nil, List.getD_cons_zero, cast0, cast1, bne_int, List.length_map, dec_false hne]
        refine .mk_le (u := .tup [.nilsl, .bool false]) (by simp only [go_sem, ↓reduceIte] <;> rfl) (AV.le_tup2 (AV.le_nil 3) (AV.le_refl _))
    have heq : ((b.length : Nat) : Int) = (a.length : Nat) := by omega
    have hAB : D.length = (b.map rv).length := by omega
    rcases hacc with ⟨h1, h4⟩ | ⟨c, h4, hc, hcn⟩
    · have ha0 : a.length = 0 := by rw [← lA, h1]; rfl
      have hb0 : b = [] := List.length_eq_zero_iff.1 (by omega)
      subst hb0
      subst h1
      simp only [go_sem, ↓reduceIte, h4, h17, h18, h19, List.length_cons, List.length_nil, List.getD_cons_zero, cast0, cast1, bne_int, List.length_map, List.map_nil, e00, AW_loop]
      refine next 0 _ (by omega) ⟨1, rfl, by simp only [go_sem, ↓reduceIte, h17, List.map_nil], by simp only [go_sem, ↓reduceIte, h18], by simp only [go_sem, ↓reduceIte, w01] <;> rfl, .inr hab, _, rfl, .inl ⟨rfl, by simp only [go_sem, ↓reduceIte, h4]⟩⟩
    · simp only [go_sem, ↓reduceIte, h4, h17, h18, h19, List.length_cons, List.length_nil, List.getD_cons_zero, cast0, cast1, bne_int, List.length_map, dec_true heq]
      refine AW_while (fun m st => ∃ i, i + m = b.length ∧ st.τ 17 = .sl 1 [.sl 3 (b.map encR)] ∧ st.τ 18 = .int .i64 1 ∧ st.τ 19 = .int .i64 (0 : Nat) ∧ st.τ 4 = .own c 0 a.length 3 ∧ st.h c = some (flatC encQ (midL D (b.map rv) i)) ∧ c < st.n ∧ st.τ 28 = .sl 3 (b.map encR) ∧ st.τ 29 = .int .i64 b.length ∧ st.τ 30 = .int .i64 (i : Nat)) b.length ?_ ?_
      · exact ⟨0, by omega, by simp only [go_sem, ↓reduceIte, h17], by simp only [go_sem, ↓reduceIte, h18], by simp only [go_sem, ↓reduceIte, h19], by simp only [go_sem, ↓reduceIte, h4], by simp only [go_sem, ↓reduceIte, hc, midL, List.take_zero, List.nil_append, List.drop_zero], by simp only [go_sem, ↓reduceIte] <;> omega, by simp only [go_sem, ↓reduceIte], by simp only [go_sem, ↓reduceIte, List.length_map], by simp only [go_sem, ↓reduceIte] <;> rfl⟩
      · rintro m st ⟨i, hi, h17, h18, h19, h4, hc, hcn, h28, h29, h30⟩ next2
        by_cases hlt : i < b.length
        · have hlt' : ((i : Nat) : Int) < (b.length : Nat) := by omega
          have hlta : ((i : Nat) : Int) < (a.length : Nat) := by omega
          have h0i : (0 : Int) ≤ (i : Nat) := by omega
          have hil : i < (midL D (b.map rv) i).length := by rw [midL_len hAB _ (by omega)]; omega
          have ga := get_q hil
          rw [midL_get hAB (by omega)] at ga
          have lm : (flatC encQ (midL D (b.map rv) i)).length = a.length * 3 := by rw [len_q, midL_len hAB _ (by omega), lA]
          have la : i * 3 ≤ a.length * 3 := by omega
          have le : i * 3 + 3 ≤ a.length * 3 := by omega
          have gb := getD_map_lt encR b i .undef hlt
          have hset := lay_q hil (D.getD i 0 + (b.map rv).getD i 0)
          rw [midL_set hAB (by omega)] at hset
          have hD : qw (D.getD i 0) ≤ 15000 := sA _ (by rw [show D.getD i 0 = D[i]'(by omega) by simp [show i < D.length by omega]]; exact List.getElem_mem _)
          have hadd := c_fadd (cq (D.getD i 0)) b[i] (okR_cq (by omega)) ((hb _ (List.getElem_mem hlt)).mono (by omega))
          rw [rv_cq, show rv b[i] = (b.map rv).getD i 0 by simp [hlt]] at hadd
          simp only [encR, encW] at hadd
          simp only [go_sem, ↓reduceIte, h4, h17, h18, h19, h28, h29, h30, hlt', hlta, h0i, hc, hcn, lm, la, le, ga, gb, encR, encW, List.length_map, upd1_old _ _ _ _ _ hcn, upd1_old0 _ _ _ _ hcn, old_ne hcn, new_ne hcn]
          refine callD_p hadd ?_
          simp only [go_sem, ↓reduceIte, h4, h17, h18, h19, h28, h29, h30, hlt', hlta, h0i, hc, hcn, lm, la, le, ga, gb, encQ, encR, encW, List.length_map, upd1_old _ _ _ _ _ hcn, upd1_old0 _ _ _ _ hcn, old_ne hcn, new_ne hcn]
          refine next2 (m - 1) _ (by omega) ⟨i + 1, by omega, by simp only [go_sem, ↓reduceIte, h17], by simp only [go_sem, ↓reduceIte, h18], by simp only [go_sem, ↓reduceIte, h19], by simp only [go_sem, ↓reduceIte, h4], by simp only [go_sem, ↓reduceIte]; exact congrArg some hset, by simp only [go_sem, ↓reduceIte]; omega, by simp only [go_sem, ↓reduceIte, h28], by simp only [go_sem, ↓reduceIte, h29], by simp only [go_sem, ↓reduceIte]; rw [wrap64_id (by omega) (by omega)]; rfl⟩
        · have hlt' := dec_false (show ¬ ((i : Nat) : Int) < (b.length : Nat) by omega)
          have hib : i = D.length := by omega
          rw [hib, midL_all hAB] at hc
          simp only [go_sem, ↓reduceIte, h4, h17, h18, h19, h28, h29, h30, hlt']
          refine next 0 _ (by omega) ⟨1, rfl, by simp only [go_sem, ↓reduceIte, h17], by simp only [go_sem, ↓reduceIte, h18], by simp only [go_sem, ↓reduceIte, cast0, w01] <;> rfl, .inr hab, _, rfl, .inr ⟨c, by simp only [go_sem, ↓reduceIte, h4], by simp only [go_sem, ↓reduceIte, hc] <;> rfl, by simp only [go_sem, ↓reduceIte]; omega⟩⟩

/-- The sum of products; of unlike lengths: none. -/
def vDot (a b : List Fr) : AV := if a.length = b.length then .tup [encQ (dotN a.length (a.map rv) (b.map rv)), .bool true] else .tup [encQ 0, .bool false]
theorem dotN_size {a b : List Rat} {k : Nat} (ha : ∀ q ∈ a, qw q ≤ k) (hb : ∀ q ∈ b, qw q ≤ k) (hk : 1 ≤ k) : ∀ n, qw (dotN n a b) ≤ n * (2 * k + 1) + 1
  | 0 => by rw [dotN, qw_zero]; omega
  | n + 1 => by
    have h1 := dotN_size ha hb hk n
    have h2 := qw_mul (a.getD n 0) (b.getD n 0)
    have h3 := qw_add (dotN n a b) (a.getD n 0 * b.getD n 0)
    have h4 := getD_size ha hk n
    have h5 := getD_size hb hk n
    rw [dotN, Nat.succ_mul]
    omega
set_option maxRecDepth 20000 in
set_option maxHeartbeats 1000000 in
theorem c_rdot (a b : List Fr) (hl : a.length ≤ 20) (ha : ∀ f ∈ a, okR 400 f) (hb : ∀ f ∈ b, okR 400 f) : PCalls Tryz.prog 20 [.sl 3 (a.map encR), .sl 3 (b.map encR)] (vDot a b) := by
  unfold vDot
  have h0 := c_q0
  simp only [encQ, encR, encW] at h0
  by_cases hab : a.length = b.length
  case neg =>
    rw [if_neg hab]
    have h1 : ¬ ((a.length : Nat) : Int) = (b.length : Nat) := by omega
    refine pcalls_of_AWR (pa := []) (fn := Tryz.f20) (rs := [.cell 4 46, .tmp 5]) follows_mixed Tryz.func20 rfl rfl (by kernel_rfl) (by kernel_rfl) (by rw [Tryz.ntmps20]; simp) ?_
    simp only [go_sem, ↓reduceIte]
    refine callS_p h0 ?_
    simp only [go_sem, ↓reduceIte, bne_int, List.length_map, dec_false h1]
    exact .mk (by simp only [go_sem, ↓reduceIte, resR, resAll, resA, encQ, encR, encW] <;> rfl)
  rw [if_pos hab]
  have h1 : ((a.length : Nat) : Int) = (b.length : Nat) := by omega
  have sA : ∀ q ∈ a.map rv, qw q ≤ 400 := fun q hq => by
    obtain ⟨f, hf, rfl⟩ := List.mem_map.1 hq
    exact qw_rv (ha f hf) (by omega)
  have sB : ∀ q ∈ b.map rv, qw q ≤ 400 := fun q hq => by
    obtain ⟨f, hf, rfl⟩ := List.mem_map.1 hq
    exact qw_rv (hb f hf) (by omega)
  refine pcalls_of_AWR (pa := []) (fn := Tryz.f20) (rs := [.cell 4 46, .tmp 5]) follows_mixed Tryz.func20 rfl rfl (by kernel_rfl) (by kernel_rfl) (by rw [Tryz.ntmps20]; simp) ?_
  simp only [go_sem, ↓reduceIte]
  refine callS_p h0 ?_
  simp only [go_sem, ↓reduceIte, bne_int, List.length_map, dec_true h1]
  refine AW_while (fun m st => ∃ i, i + m = a.length ∧ st.τ 1 = .sl 3 (b.map encR) ∧ st.τ 4 = .ptr 0 0 ∧ (∃ cs, st.h 0 = some cs ∧ cs.length = 3) ∧ st.τ 6 = .ptr 3 0 ∧ st.h 3 = some [.bool (cq (dotN i (a.map rv) (b.map rv))).neg, encW (cq (dotN i (a.map rv) (b.map rv))).n, encW (cq (dotN i (a.map rv) (b.map rv))).d] ∧ 5 ≤ st.n ∧ st.τ 16 = .sl 3 (a.map encR) ∧ st.τ 17 = .int .i64 a.length ∧ st.τ 18 = .int .i64 (i : Nat)) a.length ?_ ?_
  · exact ⟨0, by omega, by simp only [go_sem, ↓reduceIte], by simp only [go_sem, ↓reduceIte], ⟨_, by simp only [go_sem, ↓reduceIte] <;> rfl, rfl⟩, by simp only [go_sem, ↓reduceIte], by simp only [go_sem, ↓reduceIte, dotN, encW], by simp only [go_sem, ↓reduceIte] <;> omega, by simp only [go_sem, ↓reduceIte], by simp only [go_sem, ↓reduceIte, List.length_map], by simp only [go_sem, ↓reduceIte] <;> rfl⟩
  · rintro m st ⟨i, hi, e1, h4, ⟨cs, h2, hcs⟩, h6, h7, hn, h16, h17, h18⟩ next
    have n7 : 3 < st.n := by omega
    have n2 : 0 < st.n := by omega
    by_cases hlt : i < a.length
    · have hlt' : ((i : Nat) : Int) < (a.length : Nat) := by omega
      have hltb' : ((i : Nat) : Int) < (b.length : Nat) := by omega
      have h0i : (0 : Int) ≤ (i : Nat) := by omega
      have ga := getD_map_lt encR a i .undef hlt
      have gb := getD_map_lt encR b i .undef (show i < b.length by omega)
      have hm := c_fmul a[i] (b[i]'(by omega)) ((ha _ (List.getElem_mem hlt)).mono (by omega)) ((hb _ (List.getElem_mem _)).mono (by omega))
      rw [show rv a[i] = (a.map rv).getD i 0 by simp [hlt], show rv (b[i]'(by omega)) = (b.map rv).getD i 0 by simp [show i < b.length by omega]] at hm
      have z1 := dotN_size sA sB (by omega) i
      have z2 := qw_mul ((a.map rv).getD i 0) ((b.map rv).getD i 0)
      have z3 := getD_size sA (by omega) i
      have z4 := getD_size sB (by omega) i
      have z5 : i * (2 * 400 + 1) ≤ 20 * (2 * 400 + 1) := Nat.mul_le_mul_right _ (by omega)
      have hs := c_qadd (a := dotN i (a.map rv) (b.map rv)) (b := (a.map rv).getD i 0 * (b.map rv).getD i 0) (by omega) (by omega)
      simp only [encQ, encR, encW] at hm hs
      simp only [go_sem, ↓reduceIte, e1, h4, h6, h7, h16, h17, h18, hlt', hltb', h0i, ga, gb, encR, encW, List.length_map, upd1_old _ _ _ _ _ n7]
      refine callD_p hm ?_
      simp only [go_sem, ↓reduceIte, e1, h4, h6, h7, h16, h17, h18, hlt', hltb', h0i, ga, gb, encR, encW, List.length_map, upd1_old _ _ _ _ _ n7]
      refine callD_p hs ?_
      simp only [go_sem, ↓reduceIte, e1, h4, h6, h7, h16, h17, h18, hlt', hltb', h0i, ga, gb, encR, encW, List.length_map, upd1_old _ _ _ _ _ n7]
      refine next (m - 1) _ (by omega) ⟨i + 1, by omega, by simp only [go_sem, ↓reduceIte, e1], by simp only [go_sem, ↓reduceIte, h4], ⟨cs, by simp only [go_sem, ↓reduceIte, upd1_old _ _ _ _ _ n2, upd1_old0 _ _ _ _ n2, h2], hcs⟩, by simp only [go_sem, ↓reduceIte, h6], by simp only [go_sem, ↓reduceIte, dotN, encW], by simp only [go_sem, ↓reduceIte] <;> omega, by simp only [go_sem, ↓reduceIte, h16], by simp only [go_sem, ↓reduceIte, h17], by simp only [go_sem, ↓reduceIte]; rw [wrap64_id (by omega) (by omega)]; rfl⟩
    · have hlt' := dec_false (show ¬ ((i : Nat) : Int) < (a.length : Nat) by omega)
      have hia : i = a.length := by omega
      rw [hia] at h7
      have hd : cs.drop 3 = [] := List.drop_eq_nil_of_le (by omega)
      simp only [go_sem, ↓reduceIte, e1, h4, h2, h6, h7, h16, h17, h18, hlt', encW, hcs, hd]
      exact .mk (by simp only [go_sem, ↓reduceIte, resR, resAll, resA, encQ, encR, encW, h4] <;> rfl)
end Go.Proofs.YtopmghclhgihfaaGreatDoor

set_option linter.unusedVariables false
set_option linter.unusedSimpArgs false
set_option maxRecDepth 10000
namespace Go.Proofs.YtopmghclhgihfaaGreatDoor
open Go Go.Ab Go.Num

def longR (f : Fr) (k : Int) : Bool := decide (k < (f.n.length : Nat)) || decide (k < (f.d.length : Nat))
theorem c_long09 (f : Fr) (k : Int) : PCalls Tryz.prog 23 [encR f, .int .i64 k] (.bool (longR f k)) := by
  unfold longR
  refine pcalls_of_AW (pa := []) (fn := Tryz.f23) (ts := [4]) follows_mixed Tryz.func23 rfl rfl (by kernel_rfl) (by kernel_rfl) (by rw [Tryz.ntmps23]; simp) ?_
  by_cases h : k < (f.n.length : Nat)
  · simp only [go_sem, ↓reduceIte, encR, encW, dec_true h]
    exact .mk (by simp only [go_sem, ↓reduceIte])
  · simp only [go_sem, ↓reduceIte, encR, encW, dec_false h]
    exact .mk (by simp only [go_sem, ↓reduceIte])

def longRow (l : List Fr) (many words : Int) : Bool := (l.take many.toNat).any (fun f => longR f words) || decide (many < (l.length : Nat))
set_option maxRecDepth 20000 in
theorem c_long11 (l : List Fr) (many words : Int) (hm : 0 ≤ many) (hl : many ≤ 1099511627776) : PCalls Tryz.prog 9 [.sl 3 (l.map encR), .int .i64 many, .int .i64 words] (.bool (longRow l many words)) := by
  unfold longRow
  refine pcalls_of_AW (pa := []) (fn := Tryz.f9) (ts := [6]) follows_mixed Tryz.func9 rfl rfl (by kernel_rfl) (by kernel_rfl) (by rw [Tryz.ntmps9]; simp) ?_
  simp only [go_sem, ↓reduceIte]
  have hk : (l.take many.toNat).length = min many.toNat l.length := by simp
  refine AW_while (fun m st => ∃ i, i + m = l.length ∧ ((l.take many.toNat).drop i).any (fun f => longR f words) = (l.take many.toNat).any (fun f => longR f words) ∧ st.τ 0 = .sl 3 (l.map encR) ∧ st.τ 1 = .int .i64 many ∧ st.τ 2 = .int .i64 words ∧ st.τ 7 = .int .i64 (i : Nat)) l.length ?_ ?_
  · exact ⟨0, by omega, rfl, by simp only [go_sem, ↓reduceIte], by simp only [go_sem, ↓reduceIte], by simp only [go_sem, ↓reduceIte], by simp only [go_sem, ↓reduceIte] <;> rfl⟩
  · rintro m st ⟨i, hi, hs, h0, h1, h2, h7⟩ next
    by_cases hlt : i < l.length
    · have hlt' : ((i : Nat) : Int) < (l.length : Nat) := by omega
      by_cases hmn : (i : Int) < many
      · have hit : i < (l.take many.toNat).length := by omega
        have hc := c_long09 l[i] words
        rw [drop_cons hit, List.any_cons, List.getElem_take] at hs
        simp only [go_sem, ↓reduceIte, h0, h1, h2, h7, hlt', hmn, getD_map_lt _ _ _ _ hlt, encR, encW]
        refine callS_p hc ?_
        cases e : longR l[i] words with
        | true =>
          rw [e, Bool.true_or] at hs
          simp only [go_sem, ↓reduceIte, h0, h1, h2, h7]
          exact .mk (by simp only [go_sem, ↓reduceIte, ← hs])
        | false =>
          rw [e, Bool.false_or] at hs
          simp only [go_sem, ↓reduceIte, h0, h1, h2, h7]
          refine next (m - 1) _ (by omega) ⟨i + 1, by omega, hs, by simp only [go_sem, ↓reduceIte, h0], by simp only [go_sem, ↓reduceIte, h1], by simp only [go_sem, ↓reduceIte, h2], by simp only [go_sem, ↓reduceIte]; rw [wrap64_id (by omega) (by omega)]; rfl⟩
      · rw [List.drop_eq_nil_of_le (by omega), List.any_nil] at hs
        simp only [go_sem, ↓reduceIte, h0, h1, h2, h7, hlt', hmn, ← hs]
        exact .mk (by simp only [go_sem, ↓reduceIte])
    · have hlt' := dec_false (show ¬ ((i : Nat) : Int) < (l.length : Nat) by omega)
      rw [List.drop_eq_nil_of_le (by omega), List.any_nil] at hs
      simp only [go_sem, ↓reduceIte, h0, h1, h2, h7, hlt', ← hs]
      exact .mk (by simp only [go_sem, ↓reduceIte])

def longP (a : Pt) (many words : Int) : Bool := longR a.t words || (longRow a.y many words || longRow a.p many words)
theorem c_long21 (a : Pt) (many words : Int) (hm : 0 ≤ many) (hl : many ≤ 1099511627776) : PCalls Tryz.prog 22 [encPt a, .int .i64 many, .int .i64 words] (.bool (longP a many words)) := by
  unfold longP
  have h1 := c_long09 a.t words
  have h2 := c_long11 a.y many words hm hl
  have h3 := c_long11 a.p many words hm hl
  refine pcalls_of_AW (pa := []) (fn := Tryz.f22) (ts := [6]) follows_mixed Tryz.func22 rfl rfl (by kernel_rfl) (by kernel_rfl) (by rw [Tryz.ntmps22]; simp) ?_
  simp only [go_sem, ↓reduceIte, encPt, encW]
  refine callS_p h1 ?_
  cases e1 : longR a.t words with
  | true =>
    simp only [go_sem, ↓reduceIte]
    exact .mk (by simp only [go_sem, ↓reduceIte])
  | false =>
    simp only [go_sem, ↓reduceIte]
    refine callS_p h2 ?_
    cases e2 : longRow a.y many words with
    | true =>
      simp only [go_sem, ↓reduceIte]
      exact .mk (by simp only [go_sem, ↓reduceIte])
    | false =>
      simp only [go_sem, ↓reduceIte]
      refine callS_p h3 ?_
      simp only [go_sem, ↓reduceIte]
      exact .mk (by simp only [go_sem, ↓reduceIte])

def longT (t : Tp) (many words : Int) : Bool := (t.code.take many.toNat).any (fun i => longR i.n words) || (decide (many < (t.code.length : Nat)) || decide (many < (t.outs.length : Nat)))
set_option maxRecDepth 20000 in
theorem c_long24 (t : Tp) (many words : Int) (hm : 0 ≤ many) (hl : many ≤ 1099511627776) : PCalls Tryz.prog 7 [encT t, .int .i64 many, .int .i64 words] (.bool (longT t many words)) := by
  unfold longT
  refine pcalls_of_AW (pa := []) (fn := Tryz.f7) (ts := [6]) follows_mixed Tryz.func7 rfl rfl (by kernel_rfl) (by kernel_rfl) (by rw [Tryz.ntmps7]; simp) ?_
  simp only [go_sem, ↓reduceIte, encT]
  have hk : (t.code.take many.toNat).length = min many.toNat t.code.length := by simp
  refine AW_while (fun m st => ∃ i, i + m = t.code.length ∧ ((t.code.take many.toNat).drop i).any (fun i => longR i.n words) = (t.code.take many.toNat).any (fun i => longR i.n words) ∧ st.τ 3 = .ptr 0 0 ∧ st.h 0 = some [.sl 6 (t.code.map encI), .sl 1 (t.outs.map i64), .int .i64 t.dim, .int .i64 t.par] ∧ 1 ≤ st.n ∧ st.τ 1 = .int .i64 many ∧ st.τ 2 = .int .i64 words ∧ st.τ 7 = .int .i64 (i : Nat)) t.code.length ?_ ?_
  · exact ⟨0, by omega, rfl, by simp only [go_sem, ↓reduceIte], by simp only [go_sem, ↓reduceIte], by simp only [go_sem, ↓reduceIte] <;> omega, by simp only [go_sem, ↓reduceIte], by simp only [go_sem, ↓reduceIte], by simp only [go_sem, ↓reduceIte] <;> rfl⟩
  · rintro m st ⟨i, hi, hs, h3, hb, hn, h1, h2, h7⟩ next
    have n0 : 0 < st.n := hn
    by_cases hlt : i < t.code.length
    · have hlt' : ((i : Nat) : Int) < (t.code.length : Nat) := by omega
      by_cases hmn : (i : Int) < many
      · have hit : i < (t.code.take many.toNat).length := by omega
        have hc := c_long09 t.code[i].n words
        rw [drop_cons hit, List.any_cons, List.getElem_take] at hs
        simp only [go_sem, ↓reduceIte, h3, hb, h1, h2, h7, hlt', hmn, getD_map_lt _ _ _ _ hlt, encI, encW]
        refine callS_p hc ?_
        cases e : longR t.code[i].n words with
        | true =>
          rw [e, Bool.true_or] at hs
          simp only [go_sem, ↓reduceIte, h3, hb, h1, h2, h7]
          exact .mk (by simp only [go_sem, ↓reduceIte, ← hs])
        | false =>
          rw [e, Bool.false_or] at hs
          simp only [go_sem, ↓reduceIte, h3, hb, h1, h2, h7]
          refine next (m - 1) _ (by omega) ⟨i + 1, by omega, hs, by simp only [go_sem, ↓reduceIte, h3], by simp only [go_sem, ↓reduceIte, hb], by simp only [go_sem, ↓reduceIte] <;> omega, by simp only [go_sem, ↓reduceIte, h1], by simp only [go_sem, ↓reduceIte, h2], by simp only [go_sem, ↓reduceIte]; rw [wrap64_id (by omega) (by omega)]; rfl⟩
      · rw [List.drop_eq_nil_of_le (by omega), List.any_nil] at hs
        by_cases e : many < (t.code.length : Nat)
        · simp only [go_sem, ↓reduceIte, h3, hb, h1, h2, h7, hlt', hmn, ← hs, dec_true e]
          exact .mk (by simp only [go_sem, ↓reduceIte])
        · simp only [go_sem, ↓reduceIte, h3, hb, h1, h2, h7, hlt', hmn, ← hs, dec_false e]
          exact .mk (by simp only [go_sem, ↓reduceIte])
    · have hlt' := dec_false (show ¬ ((i : Nat) : Int) < (t.code.length : Nat) by omega)
      rw [List.drop_eq_nil_of_le (by omega), List.any_nil] at hs
      by_cases e : many < (t.code.length : Nat)
      · simp only [go_sem, ↓reduceIte, h3, hb, h1, h2, h7, hlt', ← hs, dec_true e]
        exact .mk (by simp only [go_sem, ↓reduceIte])
      · simp only [go_sem, ↓reduceIte, h3, hb, h1, h2, h7, hlt', ← hs, dec_false e]
        exact .mk (by simp only [go_sem, ↓reduceIte])
end Go.Proofs.YtopmghclhgihfaaGreatDoor

set_option linter.unusedVariables false
set_option linter.unusedSimpArgs false
set_option maxRecDepth 10000
namespace Go.Proofs.YtopmghclhgihfaaGreatDoor
open Go Go.Ab Go.Num

theorem c_to09 (f : Fr) : PCalls Tryz.prog 25 [encR f] (encR f) := by
  refine pcalls_of_AWR (pa := []) (fn := Tryz.f25) (rs := [.cell 2 46]) follows_mixed Tryz.func25 rfl rfl (by kernel_rfl) (by kernel_rfl) (by rw [Tryz.ntmps25]; simp) ?_
  simp only [go_sem, ↓reduceIte, encR, encW]
  exact .mk (by simp only [go_sem, ↓reduceIte, encR, encW])

theorem len_r (D : List Fr) : (flatC encR D).length = D.length * 3 := flatC_length elt_r D

set_option maxRecDepth 20000 in
theorem c_to11 (l : List Fr) (hl : l.length ≤ 100000) : PCalls Tryz.prog 13 [.sl 3 (l.map encR)] (.sl 3 (l.map encR)) := by
  refine pcalls_of_AW (pa := []) (fn := Tryz.f13) (ts := [2]) follows_mixed Tryz.func13 rfl rfl (by kernel_rfl) (by kernel_rfl) (by rw [Tryz.ntmps13]; simp) ?_
  simp only [go_sem, ↓reduceIte]
  refine AW_while (fun m st => ∃ i, i + m = l.length ∧ st.τ 0 = .sl 3 (l.map encR) ∧ st.τ 4 = .int .i64 (i : Nat) ∧ Acc 3 encR st (st.τ 3) (l.take i)) l.length ?_ ?_
  · exact ⟨0, by omega, by simp only [go_sem, ↓reduceIte], by simp only [go_sem, ↓reduceIte] <;> rfl, .inl ⟨by simp, by simp only [go_sem, ↓reduceIte]⟩⟩
  · rintro m st ⟨i, hi, h0, h4, hacc⟩ next
    by_cases hlt : i < l.length
    · have hlt' : ((i : Nat) : Int) < (l.length : Nat) := by omega
      have hc := c_to09 l[i]
      simp only [go_sem, ↓reduceIte, h0, h4, hlt', getD_map_lt _ _ _ _ hlt, encR, encW]
      refine callS_p hc ?_
      have hl3 : (flatC encR (l.take i)).length = i * 3 := by rw [len_r]; simp; omega
      have hi38 : i ≤ 274877906944 := by omega
      have htk : (l.take i).length = i := by simp; omega
      have htk1 : (l.take (i + 1)).length = i + 1 := by simp; omega
      rcases hacc with ⟨hnil, h3⟩ | ⟨b, h3, hb, hbn⟩
      · have hi0 : i = 0 := by rw [hnil] at htk; simp at htk; omega
        subst hi0
        simp only [go_sem, ↓reduceIte, h3, h0, h4, hlt', encR, encW]
        refine next (m - 1) _ (by omega) ⟨1, by omega, by simp only [go_sem, ↓reduceIte, h0], by simp only [go_sem, ↓reduceIte] <;> rfl, .inr ⟨_, by rw [htk1]; simp only [go_sem, ↓reduceIte] <;> rfl, by rw [take_snoc hlt, flatC_snoc, hnil]; simp only [go_sem, ↓reduceIte, flatC_nil, encR, encW] <;> rfl, by simp only [go_sem, ↓reduceIte] <;> omega⟩⟩
      · rw [htk] at h3
        simp only [go_sem, ↓reduceIte, h3, h0, h4, hlt', encR, encW, hb, hl3, hi38, upd1_old _ _ _ _ _ hbn, old_ne hbn, new_ne hbn]
        refine next (m - 1) _ (by omega) ⟨i + 1, by omega, by simp only [go_sem, ↓reduceIte, h0], by simp only [go_sem, ↓reduceIte]; rw [wrap64_id (by omega) (by omega)]; rfl, .inr ⟨_, by rw [htk1]; simp only [go_sem, ↓reduceIte] <;> rfl, by rw [take_snoc hlt, flatC_snoc]; simp only [go_sem, ↓reduceIte, List.take_of_length_le (Nat.le_of_eq hl3), encR, encW] <;> rfl, by simp only [go_sem, ↓reduceIte] <;> omega⟩⟩
    · have hlt' := dec_false (show ¬ ((i : Nat) : Int) < (l.length : Nat) by omega)
      rw [List.take_of_length_le (by omega)] at hacc
      simp only [go_sem, ↓reduceIte, h0, h4, hlt']
      refine Acc.ret elt_r ?_
      rcases hacc with ⟨hnil, h3⟩ | ⟨b, h3, hb, hbn⟩
      · exact .inl ⟨hnil, by simp only [go_sem, ↓reduceIte, h3]⟩
      · exact .inr ⟨b, by simp only [go_sem, ↓reduceIte, h3] <;> rfl, by simp only [go_sem, ↓reduceIte, hb] <;> rfl, by simp only [go_sem, ↓reduceIte]; omega⟩

theorem c_to21 (a : Pt) (hy : a.y.length ≤ 100000) (hp : a.p.length ≤ 100000) : PCalls Tryz.prog 12 [encPt a] (encPt a) := by
  have h1 := c_to09 a.t
  have h2 := c_to11 a.y hy
  have h3 := c_to11 a.p hp
  refine pcalls_of_AWR (pa := []) (fn := Tryz.f12) (rs := [.cell 2 49]) follows_mixed Tryz.func12 rfl rfl (by kernel_rfl) (by kernel_rfl) (by rw [Tryz.ntmps12]; simp) ?_
  simp only [go_sem, ↓reduceIte, encPt, encW]
  refine callD_p h1 ?_
  simp only [go_sem, ↓reduceIte, encR, encW]
  refine callD_p h2 ?_
  simp only [go_sem, ↓reduceIte, encR, encW]
  refine callD_p h3 ?_
  simp only [go_sem, ↓reduceIte, encR, encW]
  exact .mk (by simp only [go_sem, ↓reduceIte, encPt, encW] <;> rfl)

theorem cast_lt {i n : Nat} (h : i < n) : ((i : Nat) : Int) < (n : Nat) := by omega
set_option maxRecDepth 20000 in
theorem c_rsame (a b : List Rat) (ha : ∀ q ∈ a, qw q ≤ 20000) (hb : ∀ q ∈ b, qw q ≤ 20000) (hl : a.length ≤ 100000) : PCalls Tryz.prog 18 [.sl 3 (a.map encQ), .sl 3 (b.map encQ)] (.bool (decide (a = b))) := by
  refine pcalls_of_AW (pa := []) (fn := Tryz.f18) (ts := [4]) follows_mixed Tryz.func18 rfl rfl (by kernel_rfl) (by kernel_rfl) (by rw [Tryz.ntmps18]; simp) ?_
  by_cases he : a.length = b.length
  case neg =>
    have he' := dec_false (show ¬ ((a.length : Nat) : Int) = (b.length : Nat) by omega)
    have hf := dec_false (show ¬ a = b from fun h => he (by rw [h]))
    simp only [go_sem, ↓reduceIte, bne_int, he', hf]
    exact .mk (by simp only [go_sem, ↓reduceIte])
  have he' := dec_true (show ((a.length : Nat) : Int) = (b.length : Nat) by omega)
  simp only [go_sem, ↓reduceIte, bne_int, he']
  refine AW_while (fun m st => ∃ i, i + m = a.length ∧ decide (a.drop i = b.drop i) = decide (a = b) ∧ st.τ 0 = .sl 3 (a.map encQ) ∧ st.τ 1 = .sl 3 (b.map encQ) ∧ st.τ 12 = .int .i64 a.length ∧ st.τ 13 = .int .i64 (i : Nat)) a.length ?_ ?_
  · exact ⟨0, by omega, rfl, by simp only [go_sem, ↓reduceIte], by simp only [go_sem, ↓reduceIte], by simp only [go_sem, ↓reduceIte], by simp only [go_sem, ↓reduceIte] <;> rfl⟩
  · rintro m st ⟨i, hi, hs, h0, h1, h12, h13⟩ next
    by_cases hlt : i < a.length
    · have hlt2 : i < b.length := by omega
      have hlt' := cast_lt hlt
      have hlt2' := cast_lt hlt2
      have hc := c_fsame (cq a[i]) (cq b[i]) (okR_cq (ha _ (List.getElem_mem hlt))) (okR_cq (hb _ (List.getElem_mem hlt2)))
      rw [rv_cq, rv_cq] at hc
      rw [drop_cons hlt, drop_cons hlt2] at hs
      simp only [go_sem, ↓reduceIte, h0, h1, h12, h13, hlt', hlt2', getD_map_lt _ _ _ _ hlt, getD_map_lt _ _ _ _ hlt2, encQ, encR, encW]
      refine callD_p hc ?_
      by_cases e : a[i] = b[i]
      · simp only [List.cons.injEq, e, true_and] at hs
        simp only [go_sem, ↓reduceIte, h0, h1, h12, h13, dec_true e]
        refine next (m - 1) _ (by omega) ⟨i + 1, by omega, hs, by simp only [go_sem, ↓reduceIte, h0], by simp only [go_sem, ↓reduceIte, h1], by simp only [go_sem, ↓reduceIte, h12], by simp only [go_sem, ↓reduceIte]; rw [wrap64_id (by omega) (by omega)]; rfl⟩
      · simp only [List.cons.injEq, e, false_and, decide_false] at hs
        simp only [go_sem, ↓reduceIte, h0, h1, h12, h13, dec_false e]
        exact .mk (by simp only [go_sem, ↓reduceIte, ← hs])
    · have hlt' := dec_false (show ¬ ((i : Nat) : Int) < (a.length : Nat) by omega)
      rw [List.drop_eq_nil_of_le (by omega), List.drop_eq_nil_of_le (by omega)] at hs
      simp only [go_sem, ↓reduceIte, h0, h1, h12, h13, hlt', ← hs]
      exact .mk (by simp only [go_sem, ↓reduceIte])
end Go.Proofs.YtopmghclhgihfaaGreatDoor

set_option linter.unusedVariables false
set_option linter.unusedSimpArgs false
set_option maxRecDepth 10000
namespace Go.Proofs.YtopmghclhgihfaaGreatDoor
open Go Go.Ab Go.Num

theorem elt_i : Elt 6 encI := ⟨by omega, fun q => ⟨_, rfl, rfl, rfl, rfl⟩⟩
theorem len_i (D : List Ins) : (flatC encI D).length = D.length * 6 := flatC_length elt_i D
theorem flat_i64 (l : List Int) : (l.map i64).flatMap cellsD = l.map i64 := by
  induction l with
  | nil => rfl
  | cons x l ih => rw [List.map_cons, List.flatMap_cons, ih]; rfl

theorem elt_i64 : Elt 1 i64 := ⟨by omega, fun q => ⟨_, rfl, rfl, rfl, rfl⟩⟩
theorem flatC_i64 (l : List Int) : flatC i64 l = l.map i64 := by
  induction l with
  | nil => rfl
  | cons x l ih => simp only [flatC, List.flatMap_cons, List.map_cons] at ih ⊢; rw [ih]; rfl
theorem frz1_i64 {h : Heap} {b : Nat} {l : List Int} (hb : h b = some (l.map i64)) : frz1 h (.own b 0 l.length 1) = .sl 1 (l.map i64) := frz1_flatC elt_i64 (by rw [flatC_i64]; exact hb)

set_option maxRecDepth 20000 in
set_option maxHeartbeats 1000000 in
theorem c_to24 (t : Tp) (hl : t.code.length ≤ 100000) (ho : t.outs.length ≤ 100000) : PCalls Tryz.prog 11 [encT t] (encT t) := by
  have ho38 : t.outs.length ≤ 274877906944 := by omega
  refine pcalls_of_AWR (pa := []) (fn := Tryz.f11) (rs := [.cell 2 41]) follows_mixed Tryz.func11 rfl rfl (by kernel_rfl) (by kernel_rfl) (by rw [Tryz.ntmps11]; simp) ?_
  simp only [go_sem, ↓reduceIte, encT, flat_i64, ho38]
  refine AW_while (fun m st => ∃ i v, i + m = t.code.length ∧ st.τ 1 = .ptr 0 0 ∧ st.τ 2 = .ptr 1 0 ∧ st.τ 3 = .ptr 11 0 ∧ st.τ 4 = .int .i64 (i : Nat) ∧ st.h 0 = some [.sl 6 (t.code.map encI), .sl 1 (t.outs.map i64), .int .i64 t.dim, .int .i64 t.par] ∧ st.h 1 = some [.nilsl, .nilsl, .int .i64 0, .int .i64 0] ∧ st.h 9 = some (t.outs.map i64) ∧ st.h 11 = some [v, .own 9 0 t.outs.length 1, .int .i64 t.dim, .int .i64 t.par] ∧ 14 ≤ st.n ∧ (∀ b o l e, v = .own b o l e → 14 ≤ b) ∧ Acc 6 encI st v (t.code.take i)) t.code.length ?_ ?_
  · exact ⟨0, .nilsl, by omega, by simp only [go_sem, ↓reduceIte], by simp only [go_sem, ↓reduceIte], by simp only [go_sem, ↓reduceIte], by simp only [go_sem, ↓reduceIte] <;> rfl, by simp only [go_sem, ↓reduceIte], by simp only [go_sem, ↓reduceIte], by simp only [go_sem, ↓reduceIte], by simp only [go_sem, ↓reduceIte], by simp only [go_sem, ↓reduceIte] <;> omega, (fun _ _ _ _ h => by cases h), .inl ⟨by simp, rfl⟩⟩
  · rintro m st ⟨i, v, hi, h1, h2, h3, h4, hb0, hb1, hb9, hb11, hn, hv3, hacc⟩ next
    by_cases hlt : i < t.code.length
    · have hlt' : ((i : Nat) : Int) < (t.code.length : Nat) := by omega
      have hc := c_to09 t.code[i].n
      have n0 : 0 < st.n := by omega
      have n1 : 1 < st.n := by omega
      have n9 : 9 < st.n := by omega
      have n11 : 11 < st.n := by omega
      simp only [go_sem, ↓reduceIte, h1, h2, h3, h4, hb0, hb11, hlt', getD_map_lt _ _ _ _ hlt, encI, encR, encW, upd1_old _ _ _ _ _ n11]
      refine callD_p hc ?_
      have hl6 : (flatC encI (t.code.take i)).length = i * 6 := by rw [len_i]; simp; omega
      have hi38 : i ≤ 274877906944 := by omega
      have htk : (t.code.take i).length = i := by simp; omega
      have htk1 : (t.code.take (i + 1)).length = i + 1 := by simp; omega
      rcases hacc with ⟨hnil, rfl⟩ | ⟨b, rfl, hb, hbn⟩
      · have hi0 : i = 0 := by rw [hnil] at htk; simp at htk; omega
        subst hi0
        simp only [go_sem, ↓reduceIte, h1, h2, h3, h4, hb0, hb1, hb9, hb11, encI, encR, encW, upd1_old _ _ _ _ _ n0, upd1_old _ _ _ _ _ n1, upd1_old _ _ _ _ _ n9, upd1_old _ _ _ _ _ n11, old_ne n11, new_ne n11]
        refine next (m - 1) _ (by omega) ⟨1, .own (st.n + 25) 0 1 6, by omega, by simp only [go_sem, ↓reduceIte, h1], by simp only [go_sem, ↓reduceIte, h2], by simp only [go_sem, ↓reduceIte, h3], by simp only [go_sem, ↓reduceIte] <;> rfl, by simp only [go_sem, ↓reduceIte, upd1_old _ _ _ _ _ n0, hb0], by simp only [go_sem, ↓reduceIte, upd1_old _ _ _ _ _ n1, hb1], by simp only [go_sem, ↓reduceIte, upd1_old _ _ _ _ _ n9, hb9], by simp only [go_sem, ↓reduceIte], by simp only [go_sem, ↓reduceIte] <;> omega, (fun _ _ _ _ h => by cases h; omega), .inr ⟨_, by rw [htk1], by rw [take_snoc hlt, flatC_snoc, hnil]; simp only [go_sem, ↓reduceIte, new_ne n11, flatC_nil, encI, encW] <;> rfl, by simp only [go_sem, ↓reduceIte] <;> omega⟩⟩
      · have h3b := hv3 _ _ _ _ rfl
        have e0 : b ≠ 0 := by omega
        have e1 : b ≠ 1 := by omega
        have e9 : b ≠ 9 := by omega
        have e11 : b ≠ 11 := by omega
        simp only [go_sem, ↓reduceIte, h1, h2, h3, h4, hb0, hb1, hb9, hb11, htk, encI, encR, encW, upd1_old _ _ _ _ _ n0, upd1_old _ _ _ _ _ n1, upd1_old _ _ _ _ _ n9, upd1_old _ _ _ _ _ n11, old_ne n11, new_ne n11, upd1_old _ _ _ _ _ hbn, hb, hl6, hi38, old_ne hbn, new_ne hbn, e0, e1, e9, e11, e0.symm, e1.symm, e9.symm, e11.symm]
        refine next (m - 1) _ (by omega) ⟨i + 1, .own (st.n + 25) 0 (i + 1) 6, by omega, by simp only [go_sem, ↓reduceIte, h1], by simp only [go_sem, ↓reduceIte, h2], by simp only [go_sem, ↓reduceIte, h3], by simp only [go_sem, ↓reduceIte]; rw [wrap64_id (by omega) (by omega)]; rfl, by simp only [go_sem, ↓reduceIte, upd1_old _ _ _ _ _ n0, hb0, e0.symm], by simp only [go_sem, ↓reduceIte, upd1_old _ _ _ _ _ n1, hb1, e1.symm], by simp only [go_sem, ↓reduceIte, upd1_old _ _ _ _ _ n9, hb9, e9.symm], by simp only [go_sem, ↓reduceIte], by simp only [go_sem, ↓reduceIte] <;> omega, (fun _ _ _ _ h => by cases h; omega), .inr ⟨_, by rw [htk1], by rw [take_snoc hlt, flatC_snoc]; simp only [go_sem, ↓reduceIte, new_ne n11, List.take_of_length_le (Nat.le_of_eq hl6), encI, encW] <;> rfl, by simp only [go_sem, ↓reduceIte] <;> omega⟩⟩
    · have hlt' := dec_false (show ¬ ((i : Nat) : Int) < (t.code.length : Nat) by omega)
      rw [List.take_of_length_le (by omega)] at hacc
      have key : ∀ H : Heap, (∀ b, b ≠ 1 → H b = st.h b) → (AV.agg [frz1 H v, frz1 H (.own 9 0 t.outs.length 1), .int .i64 t.dim, .int .i64 t.par]).le (.agg [.sl 6 (t.code.map encI), .sl 1 (t.outs.map i64), .int .i64 t.dim, .int .i64 t.par]) := fun H hH => by
        refine AV.le_agg' (.cons ?_ (.cons (AV.le_of_eq (frz1_i64 (by rw [hH 9 (by omega)]; exact hb9))) (.cons (AV.le_refl _) (.cons (AV.le_refl _) .nil))))
        have : Acc 6 encI { st with h := H } v t.code := hacc.keep (Nat.le_refl _) fun b _ _ _ hb _ => hH b (by have := hv3 _ _ _ _ hb; omega)
        exact this.frz elt_i
      have key2 := key (upd1 st.h 1 (some [v, .own 9 0 t.outs.length 1, .int .i64 t.dim, .int .i64 t.par])) (fun b hb => upd1_nei hb)
      rcases hacc with ⟨hnil, rfl⟩ | ⟨b, rfl, hb, hbn⟩
      · simp only [go_sem, ↓reduceIte, h1, h2, h3, h4, hb0, hb1, hb11, hlt']
        refine .mk_le ?_ key2
        simp only [go_sem, ↓reduceIte, resR, resAll, resA, h2]
      · simp only [go_sem, ↓reduceIte, h1, h2, h3, h4, hb0, hb1, hb11, hlt']
        refine .mk_le ?_ key2
        simp only [go_sem, ↓reduceIte, resR, resAll, resA, h2]
end Go.Proofs.YtopmghclhgihfaaGreatDoor

set_option linter.unusedVariables false
set_option linter.unusedSimpArgs false
set_option maxRecDepth 10000
namespace Go.Proofs.YtopmghclhgihfaaGreatDoor
open Go Go.Ab

theorem upd1_oldz (h : Heap) (n j : Nat) (b : Option Blk) (hj : j < n) : upd1 h n b j = h j := by simp only [upd1]; rw [if_neg (by omega)]
theorem upd1_other {H : Heap} {i b : Nat} {x : Option Blk} (h : b ≠ i) : upd1 H i x b = H b := by simp only [upd1]; rw [if_neg h]

/-- What a builder holds. 'c': its bytes' block, if there is one. -/
inductive Bld (H : Heap) (n b : Nat) : ByteArray → Option Nat → Prop
  | nil (a : AV) : (a = .nilp ∨ a = .tptr b 2 178) → H b = some [a, .nilsl] → b < n → Bld H n b ⟨#[]⟩ none
  | row (a : AV) (s : ByteArray) (c : Nat) : (a = .nilp ∨ a = .tptr b 2 178) → H b = some [a, .bsl c s.size 5] → b < n → c ≠ b → c < n → H c = some (strCells s) → Bld H n b s (some c)

theorem Bld.keep {H H' : Heap} {n n' b : Nat} {s : ByteArray} {c : Option Nat} (h : Bld H n b s c) (hn : n ≤ n') (hb : H' b = H b) (hc : ∀ k, c = some k → H' k = H k) : Bld H' n' b s c := by
  cases h with
  | nil a ha h1 h2 => exact .nil a ha (by rw [hb]; exact h1) (by omega)
  | row a s c ha h1 h2 h4 h5 h6 => exact .row a s c ha (by rw [hb]; exact h1) (by omega) h4 (by omega) (by rw [hc c rfl]; exact h6)

theorem c_copyCheck (b : Nat) (a y : AV) (h : Heap) (n : Nat) (ha : a = .nilp ∨ a = .tptr b 2 178) (hb : h b = some [a, y]) (hbn : b < n) :
    HCalls Tryz.prog 114 [.tptr b 2 178] h n (fun v h' n' => v = .tup [] ∧ h' b = some [.tptr b 2 178, y] ∧ ∀ j, j ≠ b → h' j = h j) := by
  refine hcalls_of_AWR (pa := []) (fn := Tryz.f114) (rs := []) follows_mixed Tryz.func114 rfl rfl (by kernel_rfl) (by kernel_rfl) (by rw [Tryz.ntmps114]; simp) ?_
  rcases ha with rfl | rfl
  · simp only [go_sem, ↓reduceIte, hb]
    refine .mk (.tup []) (by simp only [go_sem, ↓reduceIte, resR, resAll, resA]) ⟨rfl, by simp only [go_sem, ↓reduceIte], fun j hj => by simp only [go_sem, ↓reduceIte]; rw [upd1_other hj]⟩
  · simp only [go_sem, ↓reduceIte, hb]
    refine .mk (.tup []) (by simp only [go_sem, ↓reduceIte, resR, resAll, resA]) ⟨rfl, by simp only [go_sem, ↓reduceIte, hb], fun j hj => by simp only [go_sem, ↓reduceIte]⟩

theorem strCells_append (s t : ByteArray) : strCells (s ++ t) = strCells s ++ strCells t := by simp [strCells, ByteArray.data_append]
theorem strCells_len (s : ByteArray) : (strCells s).length = s.size := by simp [strCells]
theorem take_strCells (s : ByteArray) : (strCells s).take s.size = strCells s := List.take_of_length_le (by rw [strCells_len]; exact Nat.le_refl _)
theorem bytesOf_str : ∀ l : List UInt8, bytesOf (l.map fun b => .int .u8 (b.toNat : Int)) = some l
  | [] => rfl
  | b :: l => by
    have h : UInt8.ofNat ((b.toNat : Int).toNat) = b := by simp
    simp only [List.map_cons, bytesOf, h, bytesOf_str l, if_true, Option.map_some]
theorem bytesOf_cells (s : ByteArray) : bytesOf (strCells s) = some s.data.toList := bytesOf_str _
theorem textOf_data (s : ByteArray) : textOf s.data.toList = s := by unfold textOf; simp

/-- What lay in the builder's blocks is changed, and nothing else. -/
def OnlyB (h h' : Heap) (n b : Nat) (c : Option Nat) : Prop := ∀ j, j < n → j ≠ b → some j ≠ c → h' j = h j


theorem size_zero {t : ByteArray} (h : t.size = 0) : t = ⟨#[]⟩ := by
  apply ByteArray.ext
  exact Array.eq_empty_of_size_eq_zero h
theorem c_wstr (b : Nat) (s t : ByteArray) (c : Option Nat) (h : Heap) (n : Nat) (hB : Bld h n b s c) (hs : s.size ≤ 274877906944) (ht : t.size ≤ 274877906944) :
    HCalls Tryz.prog 92 [.tptr b 2 178, .str t] h n (fun v h' n' => v = .tup [.int .i64 t.size, .undef] ∧ (∃ c', Bld h' n' b (s ++ t) c' ∧ (c' = c ∨ ∃ k, c' = some k ∧ n ≤ k)) ∧ OnlyB h h' n b c) := by
  have hap : ∀ u : ByteArray, (⟨#[]⟩ : ByteArray) ++ u = u := fun u => by apply ByteArray.ext; simp
  have hpa : ∀ u : ByteArray, u ++ (⟨#[]⟩ : ByteArray) = u := fun u => by apply ByteArray.ext; simp
  refine hcalls_of_AWR (pa := []) (fn := Tryz.f92) (rs := [.tmp 4, .tmp 5]) follows_mixed Tryz.func92 rfl rfl (by kernel_rfl) (by kernel_rfl) (by rw [Tryz.ntmps92]; simp) ?_
  cases hB with
  | nil a ha hb hbn =>
    simp only [go_sem, ↓reduceIte]
    refine callS_h (c_copyCheck b a .nilsl _ _ ha (by simp only [go_sem, ↓reduceIte, hb]) (by simp only [go_sem, ↓reduceIte] <;> omega)) ?_
    rintro v h' n' hn ⟨rfl, hb', hk⟩
    simp only [go_sem, ↓reduceIte] at hn hk
    have hbn' : b < n' := by omega
    by_cases h0 : t.size = 0
    · have := size_zero h0
      subst this
      simp only [go_sem, ↓reduceIte, hb', ht, h0]
      refine .mk (.tup [.int .i64 0, .undef]) (by simp only [go_sem, ↓reduceIte, resR, resAll, resA] <;> rfl) ⟨rfl, ?_, ?_⟩
      · exact ⟨none, by rw [hap]; exact .nil _ (.inr rfl) (by simp only [go_sem, ↓reduceIte]) (by simp only [go_sem, ↓reduceIte] <;> omega), .inl rfl⟩
      · intro j hj hjb hjc
        simp only [go_sem, ↓reduceIte]
        rw [upd1_other hjb, hk j hjb]
    · simp only [go_sem, ↓reduceIte, hb', ht, h0, old_ne hbn', new_ne hbn', upd1_old _ _ _ _ _ hbn']
      refine .mk (.tup [.int .i64 t.size, .undef]) (by simp only [go_sem, ↓reduceIte, resR, resAll, resA]) ⟨rfl, ?_, ?_⟩
      · refine ⟨some (n' + 6), ?_, .inr ⟨n' + 6, rfl, by omega⟩⟩
        rw [hap]
        exact .row _ t (n' + 6) (.inr rfl) (by simp only [go_sem, ↓reduceIte]) (by simp only [go_sem, ↓reduceIte] <;> omega) (by omega) (by simp only [go_sem, ↓reduceIte] <;> omega) (by simp only [go_sem, ↓reduceIte, new_ne hbn'])
      · intro j hj hjb hjc
        simp only [go_sem, ↓reduceIte]
        rw [upd1_other hjb, upd1_old _ _ _ _ _ (show j < n' by omega), hk j hjb]
  | row a s c ha hb hbn hcb hcn hc =>
    simp only [go_sem, ↓reduceIte]
    refine callS_h (c_copyCheck b a (.bsl c s.size 5) _ _ ha (by simp only [go_sem, ↓reduceIte, hb]) (by simp only [go_sem, ↓reduceIte] <;> omega)) ?_
    rintro v h' n' hn ⟨rfl, hb', hk⟩
    simp only [go_sem, ↓reduceIte] at hn hk
    have hbn' : b < n' := by omega
    have hcn' : c < n' := by omega
    have hc' : h' c = some (strCells s) := by rw [hk c hcb, hc]
    have hls := strCells_len s
    have hbc : ¬ b = c := fun e => hcb e.symm
    simp only [go_sem, ↓reduceIte, hb', ht, hs, hc', hls, take_strCells, hcb, hbc, old_ne hbn', new_ne hbn', upd1_old _ _ _ _ _ hbn', old_ne hcn', new_ne hcn', upd1_old _ _ _ _ _ hcn']
    refine .mk (.tup [.int .i64 t.size, .undef]) (by simp only [go_sem, ↓reduceIte, resR, resAll, resA]) ⟨rfl, ?_, ?_⟩
    · have hsz : (s ++ t).size = s.size + t.size := ByteArray.size_append
      refine ⟨some (n' + 6), .row _ (s ++ t) (n' + 6) (.inr rfl) ?_ (by simp only [go_sem, ↓reduceIte] <;> omega) (by omega) (by simp only [go_sem, ↓reduceIte] <;> omega) ?_, .inr ⟨n' + 6, rfl, by omega⟩⟩
      · rw [hsz]; simp only [go_sem, ↓reduceIte]
      · simp only [go_sem, ↓reduceIte, new_ne hbn', strCells_append]
    · intro j hj hjb hjc
      have hjc' : j ≠ c := fun e => hjc (by rw [e])
      simp only [go_sem, ↓reduceIte]
      rw [upd1_other hjb, upd1_old _ _ _ _ _ (show j < n' by omega), upd1_other hjc', hk j hjb]

theorem c_bstr (b : Nat) (s : ByteArray) (c : Option Nat) (h : Heap) (n : Nat) (hB : Bld h n b s c) (hs : s.size ≤ 274877906944) :
    HCalls Tryz.prog 93 [.tptr b 2 178] h n (fun v h' n' => v = .str s ∧ OnlyB h h' n b c) := by
  refine hcalls_of_AWR (pa := []) (fn := Tryz.f93) (rs := [.tmp 2]) follows_mixed Tryz.func93 rfl rfl (by kernel_rfl) (by kernel_rfl) (by rw [Tryz.ntmps93]; simp) ?_
  cases hB with
  | nil a ha hb hbn =>
    simp only [go_sem, ↓reduceIte, hb]
    refine .mk (.str ⟨#[]⟩) (by simp only [go_sem, ↓reduceIte, resR, resAll, resA]) ⟨rfl, fun j hj hjb hjc => by simp only [go_sem, ↓reduceIte]⟩
  | row a s c ha hb hbn hcb hcn hc =>
    have hls := strCells_len s
    have hbc : ¬ b = c := fun e => hcb e.symm
    by_cases h0 : s.size = 0
    · have := size_zero h0
      subst this
      simp only [go_sem, ↓reduceIte, hb, hc, h0, cast0]
      refine .mk (.str ⟨#[]⟩) (by simp only [go_sem, ↓reduceIte, resR, resAll, resA]) ⟨rfl, fun j hj hjb hjc => by simp only [go_sem, ↓reduceIte]⟩
    have hs40 : ((s.size : Nat) : Int) ≤ 1099511627776 := by omega
    have h0' : (0 : Int) < (s.size : Nat) := by omega
    have h0'' : ¬ ((s.size : Nat) : Int) = 0 := by omega
    simp only [go_sem, ↓reduceIte, hb, hc, hls, hcb, hbc, hs40, h0', h0'', take_strCells, bytesOf_cells, textOf_data]
    refine .mk (.str s) (by simp only [go_sem, ↓reduceIte, resR, resAll, resA]) ⟨rfl, fun j hj hjb hjc => by simp only [go_sem, ↓reduceIte]; exact upd1_other (fun e => hjc (by rw [e]))⟩

theorem c_bgrow0 (b : Nat) (k : Int) (h : Heap) (n : Nat) (hb : h b = some [.tptr b 2 178, .nilsl]) (hbn : b < n) (hk0 : 0 < k) (hk : k ≤ 274877906944) :
    HCalls Tryz.prog 115 [.tptr b 2 178, .int .i64 k] h n (fun v h' n' => v = .tup [] ∧ (∃ c, Bld h' n' b ⟨#[]⟩ (some c) ∧ n ≤ c) ∧ OnlyB h h' n b none) := by
  have w1 : IntKind.i64.wrap (2 * 0) = 0 := by decide
  have w2 : IntKind.i64.wrap (0 + k) = k := by rw [wrap64_id (by omega) (by omega)]; omega
  have hk40 : k ≤ 1099511627776 := by omega
  refine hcalls_of_AWR (pa := []) (fn := Tryz.f115) (rs := []) follows_mixed Tryz.func115 rfl rfl (by kernel_rfl) (by kernel_rfl) (by rw [Tryz.ntmps115]; simp) ?_
  simp only [go_sem, ↓reduceIte, hb, w1, w2, hk0, hk40, cast0, old_ne hbn, new_ne hbn, upd1_old _ _ _ _ _ hbn, upd1_oldz _ _ _ _ hbn]
  refine .mk (.tup []) (by simp only [go_sem, ↓reduceIte, resR, resAll, resA]) ⟨rfl, ⟨n + 8, ?_, by omega⟩, ?_⟩
  · exact .row _ ⟨#[]⟩ (n + 8) (.inr rfl) (by simp only [go_sem, ↓reduceIte] <;> rfl) (by simp only [go_sem, ↓reduceIte] <;> omega) (by omega) (by simp only [go_sem, ↓reduceIte] <;> omega) (by simp only [go_sem, ↓reduceIte, new_ne hbn] <;> rfl)
  · intro j hj hjb hjc
    simp only [go_sem, ↓reduceIte]
    rw [upd1_other hjb, upd1_old _ _ _ _ _ hj]

theorem c_bgrow (b : Nat) (k : Int) (h : Heap) (n : Nat) (a : AV) (ha : a = .nilp ∨ a = .tptr b 2 178) (hb : h b = some [a, .nilsl]) (hbn : b < n) (hk0 : 0 ≤ k) (hk : k ≤ 274877906944) :
    HCalls Tryz.prog 91 [.tptr b 2 178, .int .i64 k] h n (fun v h' n' => v = .tup [] ∧ (∃ c, Bld h' n' b ⟨#[]⟩ c ∧ (c = none ∨ ∃ k, c = some k ∧ n ≤ k)) ∧ OnlyB h h' n b none) := by
  have w1 : IntKind.i64.wrap (0 - 0) = 0 := by decide
  have hneg := dec_false (show ¬ k < 0 by omega)
  refine hcalls_of_AWR (pa := []) (fn := Tryz.f91) (rs := []) follows_mixed Tryz.func91 rfl rfl (by kernel_rfl) (by kernel_rfl) (by rw [Tryz.ntmps91]; simp) ?_
  simp only [go_sem, ↓reduceIte]
  refine callS_h (c_copyCheck b a .nilsl _ _ ha (by simp only [go_sem, ↓reduceIte, hb]) (by simp only [go_sem, ↓reduceIte] <;> omega)) ?_
  rintro v h' n' hn ⟨rfl, hb', hk'⟩
  simp only [go_sem, ↓reduceIte] at hn hk'
  by_cases h0 : 0 < k
  · simp only [go_sem, ↓reduceIte, hneg, hb', w1, cast0, dec_true h0]
    refine callS_h (c_bgrow0 b k _ _ (by simp only [go_sem, ↓reduceIte, hb']) (by simp only [go_sem, ↓reduceIte] <;> omega) h0 hk) ?_
    rintro v h2 n2 hn2 ⟨rfl, ⟨c, hB, hc⟩, hk2⟩
    simp only [go_sem, ↓reduceIte] at hn2 hk2 hc
    simp only [go_sem, ↓reduceIte]
    refine .mk (.tup []) (by simp only [go_sem, ↓reduceIte, resR, resAll, resA]) ⟨rfl, ⟨some c, hB.keep (by simp only [go_sem, ↓reduceIte] <;> omega) (by simp only [go_sem, ↓reduceIte]) (fun k _ => by simp only [go_sem, ↓reduceIte]), .inr ⟨c, rfl, by omega⟩⟩, fun j hj hjb hjc => ?_⟩
    simp only [go_sem, ↓reduceIte]
    rw [hk2 j (by omega) hjb (by simp), hk' j hjb]
  · simp only [go_sem, ↓reduceIte, hneg, hb', w1, cast0, dec_false h0]
    refine .mk (.tup []) (by simp only [go_sem, ↓reduceIte, resR, resAll, resA]) ⟨rfl, ⟨none, .nil _ (.inr rfl) (by simp only [go_sem, ↓reduceIte, hb']) (by simp only [go_sem, ↓reduceIte] <;> omega), .inl rfl⟩, fun j hj hjb hjc => ?_⟩
    simp only [go_sem, ↓reduceIte]
    rw [hk' j hjb]
end Go.Proofs.YtopmghclhgihfaaGreatDoor

set_option linter.unusedVariables false
set_option linter.unusedSimpArgs false
set_option maxRecDepth 10000
namespace Go.Num
open Go.Ab

def dig8 (d : Nat) : UInt8 := UInt8.ofNat (48 + d % 10)
/-- So many digits of a number, the last ones. -/
def decN : Nat → Nat → List UInt8
  | 0, _ => []
  | k + 1, r => decN k (r / 10) ++ [dig8 r]
/-- A number's digits. -/
def decS (n : Nat) : List UInt8 := if h : n < 10 then [dig8 n] else decS (n / 10) ++ [dig8 n]
termination_by n
decreasing_by omega

theorem decN_length (k r : Nat) : (decN k r).length = k := by
  induction k generalizing r with
  | zero => rfl
  | succ k ih => simp [decN, ih]
theorem decN_add (a b r : Nat) : decN (a + b) r = decN a (r / 10 ^ b) ++ decN b r := by
  induction b generalizing r with
  | zero => simp [decN]
  | succ b ih =>
    rw [← Nat.add_assoc, decN, decN, ih, Nat.div_div_eq_div_mul, ← List.append_assoc, Nat.pow_succ, Nat.mul_comm 10]
theorem decN_mod (k r : Nat) : decN k (r % 10 ^ k) = decN k r := by
  induction k generalizing r with
  | zero => rfl
  | succ k ih =>
    rw [decN, decN, ← ih (r / 10), ← ih (r % 10 ^ (k + 1) / 10)]
    have h1 : r % 10 ^ (k + 1) / 10 % 10 ^ k = r / 10 % 10 ^ k := by
      rw [Nat.pow_succ, Nat.mul_comm, Nat.mod_mul_right_div_self, Nat.mod_mod]
    have h2 : dig8 (r % 10 ^ (k + 1)) = dig8 r := by
      unfold dig8
      rw [Nat.pow_succ, Nat.mul_comm, Nat.mod_mul_right_mod]
    rw [h1, h2]
theorem dig8_zero {d : Nat} : dig8 d = 48 ↔ d % 10 = 0 := by
  unfold dig8
  have h : d % 10 < 10 := Nat.mod_lt _ (by omega)
  generalize d % 10 = x at *
  constructor
  · intro he
    have := congrArg UInt8.toNat he
    rw [UInt8.toNat_ofNat_of_lt' (show 48 + x < UInt8.size from by have : UInt8.size = 256 := rfl; omega)] at this
    have h48 : (48 : UInt8).toNat = 48 := rfl
    omega
  · intro h0; subst h0; rfl
def trimZ (l : List UInt8) : List UInt8 := l.dropWhile (· == 48)
theorem decN_zero (k : Nat) : ∀ x ∈ decN k 0, x = 48 := by
  induction k with
  | zero => intro x hx; cases hx
  | succ k ih =>
    intro x hx
    rw [decN, Nat.zero_div, List.mem_append] at hx
    rcases hx with hx | hx
    · exact ih x hx
    · simp at hx; subst hx; exact dig8_zero.2 rfl
theorem trimZ_zeros {l r : List UInt8} (h : ∀ x ∈ l, x = 48) : trimZ (l ++ r) = trimZ r := by
  induction l with
  | nil => rfl
  | cons x l ih =>
    have hx := h x (List.mem_cons_self ..)
    subst hx
    show trimZ (48 :: (l ++ r)) = _
    rw [show trimZ (48 :: (l ++ r)) = trimZ (l ++ r) by simp [trimZ, List.dropWhile_cons]]
    exact ih fun y hy => h y (List.mem_cons_of_mem _ hy)
theorem decS_ne (n : Nat) : decS n ≠ [] := by
  rw [decS]; split <;> simp
theorem trim_dec : ∀ (k n : Nat), n ≠ 0 → n < 10 ^ k → trimZ (decN k n) = decS n
  | 0, n, h0, h => by simp at h; omega
  | k + 1, n, h0, h => by
    rw [decN]
    by_cases hn : n < 10
    · have hd : n / 10 = 0 := by omega
      rw [hd, trimZ_zeros (decN_zero k), decS, dif_pos hn]
      have : dig8 n ≠ 48 := fun e => by have := dig8_zero.1 e; omega
      simp [trimZ, this]
    · have ih := trim_dec k (n / 10) (by omega) (by rw [Nat.pow_succ] at h; omega)
      rw [decS, dif_neg hn, ← ih]
      have hne : trimZ (decN k (n / 10)) ≠ [] := by rw [ih]; exact decS_ne _
      have key : ∀ l r : List UInt8, trimZ l ≠ [] → trimZ (l ++ r) = trimZ l ++ r := fun l r hl => by
        induction l with
        | nil => exact absurd rfl hl
        | cons x l ih =>
          by_cases hx : x = 48
          · subst hx
            have e : ∀ m : List UInt8, trimZ (48 :: m) = trimZ m := fun m => by simp [trimZ, List.dropWhile_cons]
            rw [e] at hl
            rw [List.cons_append, e, e, ih hl]
          · simp [trimZ, List.dropWhile_cons, hx]
      exact key _ _ hne

/-- Groups of nine digits, the last first. -/
def grp (n : Nat) : List Nat := if h : n = 0 then [] else (n % 1000000000) :: grp (n / 1000000000)
termination_by n
decreasing_by omega
theorem grp_zero : grp 0 = [] := by rw [grp]; rfl
theorem grp_pos {n : Nat} (h : n ≠ 0) : grp n = (n % 1000000000) :: grp (n / 1000000000) := by rw [grp, dif_neg h]
theorem grp_text (n : Nat) : (grp n).reverse.flatMap (decN 9) = decN (9 * (grp n).length) n ∧ n < 10 ^ (9 * (grp n).length) := by
  induction n using Nat.strongRecOn with
  | _ n ih =>
    by_cases h : n = 0
    · subst h; rw [grp_zero]; exact ⟨rfl, by decide⟩
    · obtain ⟨h1, h2⟩ := ih (n / 1000000000) (by omega)
      rw [grp_pos h]
      have e9 : (10 : Nat) ^ 9 = 1000000000 := rfl
      simp only [List.reverse_cons, List.flatMap_append, List.flatMap_cons, List.flatMap_nil, List.append_nil, List.length_cons, h1, Nat.mul_succ]
      refine ⟨?_, ?_⟩
      · rw [decN_add, e9, ← decN_mod 9 n, e9]
      · rw [Nat.pow_add, e9]
        have := Nat.div_add_mod n 1000000000
        have := Nat.mod_lt n (show 0 < 1000000000 by omega)
        have : n / 1000000000 + 1 ≤ 10 ^ (9 * (grp (n / 1000000000)).length) := h2
        calc n < (n / 1000000000 + 1) * 1000000000 := by omega
          _ ≤ 10 ^ (9 * (grp (n / 1000000000)).length) * 1000000000 := Nat.mul_le_mul_right _ this
theorem grp_trim {n : Nat} (h : n ≠ 0) : trimZ ((grp n).reverse.flatMap (decN 9)) = decS n := by
  obtain ⟨h1, h2⟩ := grp_text n
  rw [h1]; exact trim_dec _ _ h h2
end Go.Num

set_option linter.unusedVariables false
set_option linter.unusedSimpArgs false
set_option maxRecDepth 10000
namespace Go.Proofs.YtopmghclhgihfaaGreatDoor
open Go Go.Ab Go.Num

def u8c (l : List UInt8) : List AV := l.map fun b => .int .u8 (b.toNat : Int)
theorem u8c_length (l : List UInt8) : (u8c l).length = l.length := by simp [u8c]
theorem bytesOf_u8c (l : List UInt8) : bytesOf (u8c l) = some l := bytesOf_str l

theorem lay_nine (i : Nat) (x : AV) (S : List AV) : (List.replicate (i + 1) (AV.int .u8 0) ++ S).take i ++ (x :: (List.replicate (i + 1) (AV.int .u8 0) ++ S).drop (i + 1)) = List.replicate i (AV.int .u8 0) ++ (x :: S) := by
  have h1 : (List.replicate (i + 1) (AV.int .u8 0) ++ S).take i = List.replicate i (AV.int .u8 0) := by
    rw [List.take_append_of_le_length (by simp), List.take_replicate]; congr 1; omega
  have h2 : (List.replicate (i + 1) (AV.int .u8 0) ++ S).drop (i + 1) = S := by
    have := List.drop_left (l₁ := List.replicate (i + 1) (AV.int .u8 0)) (l₂ := S)
    rwa [List.length_replicate] at this
  rw [h1, h2]
theorem decN_cons (k r : Nat) : decN (k + 1) r = dig8 (r / 10 ^ k) :: decN k r := by
  rw [Nat.add_comm, decN_add]; rfl

set_option maxHeartbeats 1000000 in
theorem c_nine (r : Nat) (hr : r < 4294967296) : PCalls Tryz.prog 112 [.int .u32 (r : Nat)] (.str (textOf (decN 9 r))) := by
  refine pcalls_of_AW (pa := []) (fn := Tryz.f112) (ts := [2]) follows_mixed Tryz.func112 rfl rfl (by kernel_rfl) (by kernel_rfl) (by rw [Tryz.ntmps112]; simp) ?_
  simp only [go_sem, ↓reduceIte]
  refine AW_while (fun m st => m ≤ 9 ∧ st.τ 3 = .ptr 1 0 ∧ st.τ 4 = .int .i64 ((m : Int) - 1) ∧ st.τ 0 = .int .u32 ((r / 10 ^ (9 - m) : Nat) : Int) ∧ 2 ≤ st.n ∧ st.h 1 = some (List.replicate m (.int .u8 0) ++ u8c (decN (9 - m) r))) 9 ?_ ?_
  · exact ⟨by omega, by simp only [go_sem, ↓reduceIte], by simp only [go_sem, ↓reduceIte] <;> rfl, by simp only [go_sem, ↓reduceIte, Nat.sub_self, Nat.pow_zero, Nat.div_one], by simp only [go_sem, ↓reduceIte] <;> omega, by simp only [go_sem, ↓reduceIte] <;> rfl⟩
  · rintro m st ⟨hm, h3, h4, h0, hn, hb⟩ next
    rcases Nat.eq_zero_or_pos m with hz | hz
    · subst hz
      have hd := dec_false (show ¬ (0 : Int) ≤ ((0 : Nat) : Int) - 1 by omega)
      have hl : (u8c (decN 9 r)).length = 9 := by rw [u8c_length, decN_length]
      have ht : (u8c (decN 9 r)).take 9 = u8c (decN 9 r) := List.take_of_length_le (by omega)
      simp only [List.replicate_zero, List.nil_append, Nat.sub_zero] at hb
      simp only [go_sem, ↓reduceIte, h3, h4, h0, hd, hb, hl, ht, bytesOf_u8c]
      exact .mk (by simp only [go_sem, ↓reduceIte])
    · obtain ⟨i, rfl⟩ : ∃ i, m = i + 1 := ⟨m - 1, by omega⟩
      have e1 : ((i + 1 : Nat) : Int) - 1 = (i : Nat) := by omega
      rw [e1] at h4
      have hd := dec_true (show (0 : Int) ≤ (i : Nat) by omega)
      have hi9 : ((i : Nat) : Int) < (9 : Nat) := by omega
      have hr9 : r / 10 ^ (9 - (i + 1)) < 4294967296 := Nat.lt_of_le_of_lt (Nat.div_le_self _ _) hr
      generalize hq : r / 10 ^ (9 - (i + 1)) = q at *
      have hrem : ((q : Nat) : Int).tmod 10 = ((q % 10 : Nat) : Int) := tmod_nat q 10
      have hquo : IntKind.u32.wrap (((q : Nat) : Int).tdiv 10) = ((q / 10 : Nat) : Int) := by
        rw [show ((q : Nat) : Int).tdiv 10 = ((q / 10 : Nat) : Int) from rfl, wrapu32_id (by omega) (by omega)]
      have hadd : IntKind.u32.wrap (48 + ((q % 10 : Nat) : Int)) = ((48 + q % 10 : Nat) : Int) := by rw [wrapu32_id (by omega) (by omega)]; omega
      have hu8 : IntKind.u8.wrap ((48 + q % 10 : Nat) : Int) = ((dig8 q).toNat : Int) := by
        have h1 : (dig8 q).toNat = 48 + q % 10 := by
          unfold dig8
          rw [UInt8.toNat_ofNat_of_lt' (show 48 + q % 10 < UInt8.size from by have : UInt8.size = 256 := rfl; omega)]
        rw [h1]
        unfold IntKind.wrap
        simp only [show IntKind.u8.bits = 8 from rfl, show IntKind.u8.signed = false from rfl, Bool.false_and, Bool.false_eq_true, if_false]
        omega
      have hlen : (List.replicate (i + 1) (AV.int .u8 0) ++ u8c (decN (9 - (i + 1)) r)).length = 9 := by rw [List.length_append, List.length_replicate, u8c_length, decN_length]; omega
      have hle : i + 1 ≤ 9 := by omega
      have hlay := lay_nine i (.int .u8 ((dig8 q).toNat : Int)) (u8c (decN (9 - (i + 1)) r))
      have he : 9 - i = (9 - (i + 1)) + 1 := by omega
      have hp : r / 10 ^ (9 - i) = q / 10 := by rw [he, Nat.pow_succ, ← Nat.div_div_eq_div_mul, hq]
      have hD : decN (9 - i) r = dig8 q :: decN (9 - (i + 1)) r := by rw [he, decN_cons, hq]
      simp only [go_sem, ↓reduceIte, h3, h4, h0, hd, hi9, hrem, hadd, hu8, hquo, hb, hlen, hle]
      refine next i _ (by omega) ⟨by omega, by simp only [go_sem, ↓reduceIte, h3], by simp only [go_sem, ↓reduceIte]; rw [wrap64_id (by omega) (by omega)], by simp only [go_sem, ↓reduceIte, hp], by simp only [go_sem, ↓reduceIte] <;> omega, ?_⟩
      simp only [go_sem, ↓reduceIte]
      rw [List.append_assoc, List.cons_append, List.nil_append, hlay, hD]
      rfl

theorem textOf_size (l : List UInt8) : (textOf l).size = l.length := by simp [textOf, ByteArray.size]
theorem textOf_tail (x : UInt8) (l : List UInt8) : (textOf (x :: l)).extract 1 (l.length + 1) = textOf l := by
  apply ByteArray.ext
  simp [textOf, ByteArray.data_extract]
theorem textOf_head (x : UInt8) (l : List UInt8) : (textOf (x :: l))[0]? = some x := by
  rw [getElem?_pos (textOf (x :: l)) 0 (by rw [textOf_size]; exact Nat.succ_pos _)]
  rfl
set_option maxHeartbeats 1000000 in
theorem c_trimByte (l : List UInt8) (hl : l.length ≤ 1099511627776) : PCalls Tryz.prog 131 [.str (textOf l), .int .u8 48] (.str (textOf (trimZ l))) := by
  refine pcalls_of_AW (pa := []) (fn := Tryz.f131) (ts := [4]) follows_mixed Tryz.func131 rfl rfl (by kernel_rfl) (by kernel_rfl) (by rw [Tryz.ntmps131]; simp) ?_
  simp only [go_sem, ↓reduceIte]
  refine AW_while (fun m st => ∃ r : List UInt8, m = r.length ∧ trimZ r = trimZ l ∧ r.length ≤ 1099511627776 ∧ st.τ 0 = .str (textOf r) ∧ st.τ 1 = .int .u8 48) l.length ?_ ?_
  · exact ⟨l, rfl, rfl, hl, by simp only [go_sem, ↓reduceIte], by simp only [go_sem, ↓reduceIte]⟩
  · rintro m st ⟨r, hm, hs, hrl, h0, h1⟩ next
    cases r with
    | nil =>
      have hd : decide ((0 : Int) < ((textOf []).size : Nat)) = false := rfl
      simp only [go_sem, ↓reduceIte, h0, h1, hd]
      exact .mk (by simp only [go_sem, ↓reduceIte, ← hs] <;> rfl)
    | cons x r =>
      have hsz := textOf_size (x :: r)
      have hd := dec_true (show (0 : Int) < ((textOf (x :: r)).size : Nat) by rw [hsz]; simp only [List.length_cons]; omega)
      by_cases hx : x = 48
      · subst hx
        have hx' : ((((48 : UInt8).toNat : Nat) : Int) == 48) = true := rfl
        have hb : (0 : Int) ≤ 1 ∧ (1 : Int) ≤ ((textOf (48 :: r)).size : Nat) := by rw [hsz]; simp only [List.length_cons]; omega
        have hb1 : (1 : Int) ≤ ((textOf (48 :: r)).size : Nat) := hb.2
        have ht := textOf_tail 48 r
        rw [show r.length + 1 = (48 :: r).length from rfl, ← hsz] at ht
        simp only [go_sem, ↓reduceIte, h0, h1, hd, textOf_head, hx', hb1, Int.le_refl, ht]
        refine next r.length _ (by rw [hm]; simp) ⟨r, rfl, by rw [← hs]; simp [trimZ], by simp only [List.length_cons] at hrl; omega, by simp only [go_sem, ↓reduceIte], by simp only [go_sem, ↓reduceIte, h1]⟩
      · have hx' : ((((x).toNat : Nat) : Int) == 48) = false := by
          rw [beq_int]
          refine decide_eq_false fun h => hx ?_
          have h48 : (48 : UInt8).toNat = 48 := rfl
          exact UInt8.toNat_inj.1 (by omega)
        have ht : trimZ (x :: r) = x :: r := by simp [trimZ, hx]
        rw [ht] at hs
        simp only [go_sem, ↓reduceIte, h0, h1, hd, textOf_head, hx']
        exact .mk (by simp only [go_sem, ↓reduceIte, ← hs])

set_option maxHeartbeats 1000000 in
theorem c_trimLeft (l : List UInt8) (hl : l.length ≤ 1099511627776) : PCalls Tryz.prog 113 [.str (textOf l), .str ⟨#[48]⟩] (.str (textOf (trimZ l))) := by
  have hc := c_trimByte l hl
  have h48 : ((⟨#[48]⟩ : ByteArray)[0]?) = some 48 := rfl
  have hsz : (⟨#[48]⟩ : ByteArray).size = 1 := rfl
  have he1 : ((⟨#[48]⟩ : ByteArray).toList == (⟨#[]⟩ : ByteArray).toList) = false := by rw [ByteArray.toList_eq, ByteArray.toList_eq]; rfl
  have h8 : (((48 : UInt8).toNat : Nat) : Int) = 48 := rfl
  refine pcalls_of_AW (pa := []) (fn := Tryz.f113) (ts := [4]) follows_mixed Tryz.func113 rfl rfl (by kernel_rfl) (by kernel_rfl) (by rw [Tryz.ntmps113]; simp) ?_
  cases l with
  | nil =>
    have he0 : ((textOf []).toList == (⟨#[]⟩ : ByteArray).toList) = true := by rw [ByteArray.toList_eq, ByteArray.toList_eq]; rfl
    simp only [go_sem, ↓reduceIte, astrop, he0]
    exact .mk (by simp only [go_sem, ↓reduceIte] <;> rfl)
  | cons x l =>
    have he0 : ((textOf (x :: l)).toList == (⟨#[]⟩ : ByteArray).toList) = false := by rw [ByteArray.toList_eq, ByteArray.toList_eq]; rfl
    simp only [go_sem, ↓reduceIte, astrop, he0, he1, hsz, h48, h8, cast1]
    refine callS_p hc ?_
    simp only [go_sem, ↓reduceIte]
    exact .mk (by simp only [go_sem, ↓reduceIte])
end Go.Proofs.YtopmghclhgihfaaGreatDoor

set_option linter.unusedVariables false
set_option linter.unusedSimpArgs false
set_option maxRecDepth 10000
namespace Go.Proofs.YtopmghclhgihfaaGreatDoor
open Go Go.Ab Go.Num

def enc9 (r : Nat) : AV := .str (textOf (decN 9 r))
theorem elt_9 : Elt 1 enc9 := ⟨by omega, fun q => ⟨_, rfl, rfl, rfl, rfl⟩⟩
theorem flat_9 (L : List Nat) : flatC enc9 L = L.map enc9 := by
  induction L with
  | nil => rfl
  | cons x l ih => simp only [flatC, List.flatMap_cons, List.map_cons] at ih ⊢; rw [ih]; rfl
theorem textOf_append (a b : List UInt8) : textOf a ++ textOf b = textOf (a ++ b) := by
  apply ByteArray.ext; simp [textOf, ByteArray.data_append]
theorem grp_len : ∀ (k n : Nat), n < 2 ^ k → (grp n).length ≤ k
  | 0, n, h => by simp at h; subst h; rw [grp_zero]; simp
  | k + 1, n, h => by
    by_cases h0 : n = 0
    · subst h0; rw [grp_zero]; simp
    · rw [grp_pos h0]
      have := grp_len k (n / 1000000000) (by rw [Nat.pow_succ] at h; omega)
      simp only [List.length_cons]; omega
theorem text9_len (L : List Nat) : (L.flatMap (decN 9)).length = 9 * L.length := by
  induction L with
  | nil => rfl
  | cons x l ih => simp only [List.flatMap_cons, List.length_append, decN_length, ih, List.length_cons]; omega

set_option maxHeartbeats 2000000 in
theorem c_dtext (a : List Nat) (ha : Wd a) (hl : a.length < 100000) : PCalls Tryz.prog 90 [encW a] (.str (textOf (decS (val a)))) := by
  have hz := c_zero a ha (by omega)
  refine pcalls_of_AW (pa := []) (fn := Tryz.f90) (ts := [2]) follows_mixed Tryz.func90 rfl rfl (by kernel_rfl) (by kernel_rfl) (by rw [Tryz.ntmps90]; simp) ?_
  simp only [go_sem, ↓reduceIte, encW]
  refine callS_p hz ?_
  by_cases h0 : val a = 0
  · simp only [go_sem, ↓reduceIte, dec_true h0]
    have : textOf (decS 0) = ⟨#[48]⟩ := by rw [decS, dif_pos (by omega)]; rfl
    rw [h0, this]
    exact .mk (by simp only [go_sem, ↓reduceIte])
  simp only [go_sem, ↓reduceIte, dec_false h0]
  have hbig : (grp (val a)).length ≤ 3200000 := by
    have h1 := grp_len (32 * a.length) (val a) (by rw [← Bpow]; exact val_lt ha)
    omega
  refine AW_while (fun m st => ∃ x L, m = val x ∧ Wd x ∧ x.length < 100000 ∧ st.τ 0 = encW x ∧ grp (val a) = L ++ grp (val x) ∧ Acc 1 enc9 st (st.τ 3) L) (val a) ?_ ?_
  · exact ⟨a, [], rfl, ha, hl, by simp only [go_sem, ↓reduceIte, encW], rfl, .inl ⟨rfl, by simp only [go_sem, ↓reduceIte]⟩⟩
  · rintro m st ⟨x, L, hm, hx, hxl, h0', hg, hacc⟩ next
    have hzx := c_zero x hx (by omega)
    have hLl : L.length ≤ 3200000 := by have := congrArg List.length hg; rw [List.length_append] at this; omega
    by_cases hx0 : val x = 0
    case neg =>
      have hw := c_qword x 1000000000 hx (by omega) (by omega) (by omega)
      have hn := c_nine (val x % 1000000000) (by omega)
      simp only [go_sem, ↓reduceIte, h0', encW]
      refine callS_p hzx ?_
      simp only [go_sem, ↓reduceIte, h0', encW, dec_false hx0]
      refine callS_p hw ?_
      simp only [go_sem, ↓reduceIte, h0', encW]
      refine callS_p hn ?_
      have hg' : grp (val a) = (L ++ [val x % 1000000000]) ++ grp (val (dig (val x / 1000000000))) := by rw [hg, grp_pos hx0, val_dig, List.append_assoc]; rfl
      have hxl' : (dig (val x / 1000000000)).length < 100000 := by
        have h1 := dig_len_mono (Nat.div_le_self (val x) 1000000000)
        have h2 := dig_len_val hx
        omega
      have hL1 : (L ++ [val x % 1000000000]).length = L.length + 1 := by simp
      have hfl : (flatC enc9 L).length = L.length := by rw [flat_9]; simp
      have hi38 : L.length ≤ 274877906944 := by omega
      have hdec : val (dig (val x / 1000000000)) < m := by rw [val_dig, hm]; omega
      rcases hacc with ⟨hnil, h3⟩ | ⟨b, h3, hb, hbn⟩
      · subst hnil
        simp only [go_sem, ↓reduceIte, h0', h3, encW]
        refine next _ _ hdec ⟨_, [] ++ [val x % 1000000000], rfl, wd_dig _, hxl', by simp only [go_sem, ↓reduceIte, encW], hg', .inr ⟨_, by simp only [go_sem, ↓reduceIte] <;> rfl, by simp only [go_sem, ↓reduceIte] <;> rfl, by simp only [go_sem, ↓reduceIte] <;> omega⟩⟩
      · simp only [go_sem, ↓reduceIte, h0', h3, encW, hb, hfl, hi38, upd1_old _ _ _ _ _ hbn, old_ne hbn, new_ne hbn]
        refine next _ _ hdec ⟨_, L ++ [val x % 1000000000], rfl, wd_dig _, hxl', by simp only [go_sem, ↓reduceIte, encW], hg', .inr ⟨_, by rw [hL1]; simp only [go_sem, ↓reduceIte] <;> rfl, by rw [flatC_snoc]; simp only [go_sem, ↓reduceIte, List.take_of_length_le (Nat.le_of_eq hfl)] <;> rfl, by simp only [go_sem, ↓reduceIte] <;> omega⟩⟩
    case pos =>
      rw [hx0, grp_zero, List.append_nil] at hg
      have hLne : L ≠ [] := fun h => by rw [h, grp_pos h0] at hg; cases hg
      rcases hacc with ⟨hnil, h3⟩ | ⟨g, h3, hb, hbn⟩
      · exact absurd hnil hLne
      have hlen1 : IntKind.i64.wrap ((L.length : Int) - 1) = (L.length : Int) - 1 := wrap64_id (by omega) (by omega)
      simp only [go_sem, ↓reduceIte, h0', encW]
      refine callS_p hzx ?_
      simp only [go_sem, ↓reduceIte, h0', h3, encW, dec_true hx0, hlen1]
      have hget : ∀ i, i < L.length → (flatC enc9 L).drop i = enc9 (L.getD i 0) :: (flatC enc9 L).drop (i + 1) := fun i hi => by
        rw [flat_9, List.drop_eq_getElem_cons (by simpa using hi)]
        simp [List.getD, hi]
      have hfl : (flatC enc9 L).length = L.length := by rw [flat_9]; simp
      have hem : textOf [] = (⟨#[]⟩ : ByteArray) := rfl
      refine AW_while (fun m st' => ∃ c, m ≤ L.length ∧ st'.τ 3 = .own g 0 L.length 1 ∧ st'.τ 7 = .tptr (st.n + 3) 2 178 ∧ st'.τ 8 = .int .i64 ((m : Int) - 1) ∧ st'.h g = some (flatC enc9 L) ∧ g < st'.n ∧ some g ≠ c ∧ Bld st'.h st'.n (st.n + 3) (textOf ((L.drop m).reverse.flatMap (decN 9))) c) L.length ?_ ?_
      · refine ⟨none, by omega, by simp only [go_sem, ↓reduceIte, h3], by simp only [go_sem, ↓reduceIte], by simp only [go_sem, ↓reduceIte], by simp only [go_sem, ↓reduceIte, hb, upd1_old _ _ _ _ _ hbn], by simp only [go_sem, ↓reduceIte] <;> omega, by simp, ?_⟩
        rw [List.drop_length]
        exact .nil _ (.inl rfl) (by simp only [go_sem, ↓reduceIte]) (by simp only [go_sem, ↓reduceIte] <;> omega)
      · have hne : g ≠ st.n + 3 := by omega
        generalize st.n + 3 = bb at *
        clear next hb hbn h3 h0' hm hx hxl hzx
        clear st
        rintro m' st ⟨c, hm, h3, h7, h8, hb, hbn, hgc, hB⟩ next
        have hsz : (textOf ((L.drop m').reverse.flatMap (decN 9))).size ≤ 274877906944 := by
          rw [textOf_size, text9_len, List.length_reverse, List.length_drop]; omega
        rcases Nat.eq_zero_or_pos m' with hz0 | hz0
        · subst hz0
          have hd := dec_false (show ¬ (0 : Int) ≤ ((0 : Nat) : Int) - 1 by omega)
          rw [List.drop_zero] at hB hsz
          rw [← hg] at hB hsz
          have htl := c_trimLeft ((grp (val a)).reverse.flatMap (decN 9)) (by rw [textOf_size] at hsz; omega)
          rw [grp_trim h0] at htl
          simp only [go_sem, ↓reduceIte, h3, h7, h8, hd]
          refine callS_h (c_bstr bb _ c _ _ (hB.keep (by simp only [go_sem, ↓reduceIte] <;> omega) (by simp only [go_sem, ↓reduceIte]) (fun k _ => by simp only [go_sem, ↓reduceIte])) hsz) ?_
          rintro v h' n' hn ⟨rfl, hk⟩
          simp only [go_sem, ↓reduceIte]
          refine callS_p htl ?_
          simp only [go_sem, ↓reduceIte]
          exact .mk (by simp only [go_sem, ↓reduceIte])
        · obtain ⟨i, rfl⟩ : ∃ i, m' = i + 1 := ⟨m' - 1, by omega⟩
          have e1 : ((i + 1 : Nat) : Int) - 1 = (i : Nat) := by omega
          rw [e1] at h8
          have hd := dec_true (show (0 : Int) ≤ (i : Nat) by omega)
          have hil : ((i : Nat) : Int) < (L.length : Nat) := by omega
          have hgi := hget i (by omega)
          have hle : i ≤ L.length := by omega
          have h9 : (textOf (decN 9 (L.getD i 0))).size ≤ 274877906944 := by rw [textOf_size, decN_length]; omega
          simp only [go_sem, ↓reduceIte, h3, h7, h8, hd, hil, hb, hgi, hfl, hle, enc9]
          refine callS_h (c_wstr bb _ _ c _ _ (hB.keep (by simp only [go_sem, ↓reduceIte] <;> omega) (by simp only [go_sem, ↓reduceIte]) (fun k _ => by simp only [go_sem, ↓reduceIte])) hsz h9) ?_
          rintro v h' n' hn ⟨rfl, ⟨c', hB', hcc⟩, hk⟩
          simp only [go_sem, ↓reduceIte] at hn
          have hg' : h' g = some (flatC enc9 L) := by rw [hk g (by simp only [go_sem, ↓reduceIte] <;> omega) hne hgc]; simp only [go_sem, ↓reduceIte, hb]
          have hgc' : some g ≠ c' := by
            rcases hcc with rfl | ⟨k, rfl, hk2⟩
            · exact hgc
            · intro e; cases e; simp only [go_sem, ↓reduceIte] at hk2; omega
          have htx : textOf ((L.drop (i + 1)).reverse.flatMap (decN 9)) ++ textOf (decN 9 (L.getD i 0)) = textOf ((L.drop i).reverse.flatMap (decN 9)) := by
            have hi : i < L.length := by omega
            rw [textOf_append, show L.getD i 0 = L[i] by simp [List.getD, hi], drop_cons hi, List.reverse_cons, List.flatMap_append, List.flatMap_cons, List.flatMap_nil, List.append_nil]
          rw [htx] at hB'
          simp only [go_sem, ↓reduceIte, h3, h7, h8]
          refine next i _ (by omega) ⟨c', by omega, by simp only [go_sem, ↓reduceIte, h3], by simp only [go_sem, ↓reduceIte, h7], by simp only [go_sem, ↓reduceIte]; rw [wrap64_id (by omega) (by omega)], by simp only [go_sem, ↓reduceIte, hg'], by simp only [go_sem, ↓reduceIte] <;> omega, hgc', hB'.keep (by simp only [go_sem, ↓reduceIte] <;> omega) (by simp only [go_sem, ↓reduceIte]) (fun k _ => by simp only [go_sem, ↓reduceIte])⟩
end Go.Proofs.YtopmghclhgihfaaGreatDoor

set_option linter.unusedVariables false
set_option linter.unusedSimpArgs false
set_option maxRecDepth 10000
namespace Go.Proofs.YtopmghclhgihfaaGreatDoor
open Go Go.Ab Go.Num

def txtZ (z : Int) : List UInt8 := if z < 0 then 45 :: decS z.natAbs else decS z.natAbs
def txtQ (q : Rat) : List UInt8 := if q.den = 1 then txtZ q.num else txtZ q.num ++ 47 :: decS q.den
theorem decS_len : ∀ (k n : Nat), n < 2 ^ k → (decS n).length ≤ k + 1
  | 0, n, h => by simp at h; subst h; rw [decS, dif_pos (by omega)]; simp
  | k + 1, n, h => by
    rw [decS]
    split
    · simp
    · have := decS_len k (n / 10) (by rw [Nat.pow_succ] at h; omega)
      simp only [List.length_append, List.length_singleton]; omega
theorem decS_len' {a : List Nat} (h : Wd a) : (decS (val a)).length ≤ 32 * a.length + 1 := decS_len _ _ (by rw [← Bpow]; exact val_lt h)

theorem astr_add {a b : List UInt8} (h : a.length + b.length ≤ 1099511627776) : astrop .add (textOf a) (textOf b) = some (.str (textOf (a ++ b))) := by
  have hm : ¬ (((textOf a).size + (textOf b).size : Nat) : Int) > IntKind.i64.max := by
    rw [textOf_size, textOf_size, show IntKind.i64.max = 9223372036854775807 from rfl]; omega
  simp only [astrop, if_neg hm, textOf_append]

theorem c_wtext (neg : Bool) (a : List Nat) (ha : Wd a) (hl : a.length < 100000) : PCalls Tryz.prog 88 [encH neg a] (.str (textOf (txtZ (sg neg (val a))))) := by
  have h1 := c_dtext a ha hl
  have h2 := c_wsign neg a ha (by omega)
  have hlen := decS_len' ha
  have hn : (sg neg (val a)).natAbs = val a := sg_natAbs _ _
  unfold txtZ
  rw [hn]
  refine pcalls_of_AW (pa := []) (fn := Tryz.f88) (ts := [2]) follows_mixed Tryz.func88 rfl rfl (by kernel_rfl) (by kernel_rfl) (by rw [Tryz.ntmps88]; simp) ?_
  simp only [go_sem, ↓reduceIte, encH, encW]
  refine callS_p h1 ?_
  simp only [go_sem, ↓reduceIte]
  refine callS_p h2 ?_
  by_cases h : sg neg (val a) < 0
  · have hs : decide ((sg neg (val a)).sign < 0) = true := decide_eq_true (by rw [Int.sign_eq_neg_one_of_neg h]; omega)
    have ha := astr_add (a := [45]) (b := decS (val a)) (by simp only [List.length_singleton]; omega)
    rw [show textOf [45] = (⟨#[45]⟩ : ByteArray) from rfl] at ha
    rw [if_pos h]
    simp only [go_sem, ↓reduceIte, hs, ha]
    exact .mk (by simp only [go_sem, ↓reduceIte] <;> rfl)
  · have hs : decide ((sg neg (val a)).sign < 0) = false := decide_eq_false (by
      intro h'
      exact h (Int.sign_neg_iff.1 h'))
    rw [if_neg h]
    simp only [go_sem, ↓reduceIte, hs]
    exact .mk (by simp only [go_sem, ↓reduceIte])

theorem c_ftext (f : Fr) (hf : okR 20000 f) : PCalls Tryz.prog 62 [encR f] (.str (textOf (txtQ (rv f)))) := by
  have hn := c_fnorm f (hf.mono (by omega))
  have hw := qw_rv hf (by omega)
  generalize rv f = q at *
  have hl1 : (dig q.num.natAbs).length ≤ 20000 := by unfold qw at hw; omega
  have hl2 : (dig q.den).length ≤ 20000 := by unfold qw at hw; omega
  have h1 := c_wtext (decide (q.num < 0)) (dig q.num.natAbs) (wd_dig _) (by omega)
  rw [val_dig, sg_self] at h1
  have h2 := c_of 1 (by omega)
  rw [dig_one (by omega) (by decide)] at h2
  have h3 := c_ncmp (dig q.den) [1] (wd_dig _) (.cons (by decide) .nil) (by omega) (by decide)
  have h4 := c_dtext (dig q.den) (wd_dig _) (by omega)
  rw [val_dig] at h3 h4
  rw [show val [1] = 1 from rfl] at h3
  have d1 := decS_len' (wd_dig q.den)
  have d2 := decS_len' (wd_dig q.num.natAbs)
  rw [val_dig] at d1 d2
  have d3 : (txtZ q.num).length ≤ 700000 := by
    unfold txtZ
    split
    · simp only [List.length_cons]; omega
    · omega
  unfold txtQ
  refine pcalls_of_AW (pa := []) (fn := Tryz.f62) (ts := [2]) follows_mixed Tryz.func62 rfl rfl (by kernel_rfl) (by kernel_rfl) (by rw [Tryz.ntmps62]; simp) ?_
  simp only [go_sem, ↓reduceIte, encR, encW]
  refine callS_p hn ?_
  simp only [go_sem, ↓reduceIte, encQ, encR, cq, encW]
  refine callS_p h1 ?_
  simp only [go_sem, ↓reduceIte, encQ, encR, cq, encW]
  refine callD_p h2 ?_
  simp only [go_sem, ↓reduceIte, encQ, encR, cq, encW]
  refine callD_p h3 ?_
  by_cases hd : q.den = 1
  · rw [if_pos hd]
    have hc : (cmpN q.den 1 != 0) = false := by rw [bne_int, decide_eq_true (cmpN_zero.2 hd)]; rfl
    simp only [go_sem, ↓reduceIte, encW, hc]
    exact .mk (by simp only [go_sem, ↓reduceIte])
  · rw [if_neg hd]
    have hc : (cmpN q.den 1 != 0) = true := by rw [bne_int, decide_eq_false (fun h => hd (cmpN_zero.1 h))]; rfl
    have ha := astr_add (a := [47]) (b := decS q.den) (by simp only [List.length_singleton]; omega)
    rw [show textOf [47] = (⟨#[47]⟩ : ByteArray) from rfl] at ha
    have hb := astr_add (a := txtZ q.num) (b := [47] ++ decS q.den) (by simp only [List.length_append, List.length_singleton]; omega)
    simp only [List.cons_append, List.nil_append] at ha hb
    simp only [go_sem, ↓reduceIte, encW, hc]
    refine callS_p h4 ?_
    simp only [go_sem, ↓reduceIte, encW, ha, hb]
    exact .mk (by simp only [go_sem, ↓reduceIte] <;> rfl)
end Go.Proofs.YtopmghclhgihfaaGreatDoor

set_option linter.unusedVariables false
set_option linter.unusedSimpArgs false
set_option maxRecDepth 10000
namespace Go.Proofs.YtopmghclhgihfaaGreatDoor
open Go Go.Ab Go.Num

def encS (l : List UInt8) : AV := .str (textOf l)
def joinL (sep : List UInt8) : List (List UInt8) → List UInt8
  | [] => []
  | x :: r => x ++ r.flatMap (fun y => sep ++ y)
def sumL (l : List (List UInt8)) : Nat := (l.map (·.length)).sum
theorem cast_lt0 {i n : Nat} (h : i < n) : ((i : Nat) : Int) < (n : Nat) := by omega
theorem sumL_snoc {l : List (List UInt8)} {i : Nat} (h : i < l.length) : sumL (l.take (i + 1)) = sumL (l.take i) + l[i].length := by
  rw [sumL, take_snoc h, List.map_append, List.sum_append]; simp [sumL]
theorem sumL_le (l : List (List UInt8)) (i : Nat) : sumL (l.take i) ≤ sumL l := by
  conv => rhs; rw [← List.take_append_drop i l]
  rw [sumL, sumL, List.map_append, List.sum_append]; omega
theorem flat_len (sep : List UInt8) (l : List (List UInt8)) : (l.flatMap (fun y => sep ++ y)).length = sep.length * l.length + sumL l := by
  induction l with
  | nil => simp [sumL]
  | cons x l ih =>
    simp only [List.flatMap_cons, List.length_append, ih, List.length_cons, sumL, List.map_cons, List.sum_cons, Nat.mul_succ] at ih ⊢
    omega

set_option maxHeartbeats 2000000 in
theorem c_join (sep : List UInt8) (xs : List (List UInt8)) (hN : xs.length ≤ 100000) (hs : sep.length ≤ 1000) (ht : sumL xs ≤ 100000000000) :
    PCalls Tryz.prog 63 [.sl 1 (xs.map encS), .str (textOf sep)] (.str (textOf (joinL sep xs))) := by
  have hsz := textOf_size sep
  refine pcalls_of_AW (pa := []) (fn := Tryz.f63) (ts := [4]) follows_mixed Tryz.func63 rfl rfl (by kernel_rfl) (by kernel_rfl) (by rw [Tryz.ntmps63]; simp) ?_
  match xs, hN, ht with
  | [], _, _ =>
    simp only [go_sem, ↓reduceIte, cast0]
    exact .mk (by simp only [go_sem, ↓reduceIte] <;> rfl)
  | [x], _, _ =>
    simp only [go_sem, ↓reduceIte, cast1, encS]
    exact .mk (by simp only [go_sem, ↓reduceIte, joinL, List.flatMap_nil, List.append_nil])
  | x :: y :: r, hN, ht =>
  have hlen : (x :: y :: r).length = r.length + 2 := rfl
  have d0 : ((((x :: y :: r).length : Nat) : Int) == 0) = false := by rw [beq_int]; exact decide_eq_false (by rw [hlen]; omega)
  have d1 : ((((x :: y :: r).length : Nat) : Int) == 1) = false := by rw [beq_int]; exact decide_eq_false (by rw [hlen]; omega)
  generalize hxs : x :: y :: r = zs at *
  simp only [go_sem, ↓reduceIte, d0, d1]
  have hz2 : 2 ≤ zs.length := by rw [hlen]; omega
  have hK : sep.length * (zs.length - 1) ≤ 100000000 := by
    have := Nat.mul_le_mul hs (show zs.length - 1 ≤ 100000 by omega); omega
  refine AW_cut (fun st => st.τ 0 = .sl 1 (zs.map encS) ∧ st.τ 1 = .str (textOf sep) ∧ st.τ 5 = .int .i64 ((sep.length * (zs.length - 1) : Nat) : Int)) rfl ?_ ?_
  · by_cases hp : 0 < sep.length
    · have e0 := dec_true (show (0 : Int) < ((textOf sep).size : Nat) by rw [hsz]; omega)
      have w1 : IntKind.i64.wrap ((zs.length : Int) - 1) = ((zs.length - 1 : Nat) : Int) := by rw [wrap64_id (by omega) (by omega)]; omega
      have hnz : ¬ ((zs.length - 1 : Nat) : Int) = 0 := by omega
      obtain ⟨Q, hQ⟩ : ∃ Q, Q = 9223372036854775807 / (zs.length - 1) := ⟨_, rfl⟩
      have hq : (9223372036854775807 : Int).tdiv ((zs.length - 1 : Nat) : Int) = (Q : Int) := by rw [hQ]; rfl
      have hql : Q ≤ 9223372036854775807 := by rw [hQ]; exact Nat.div_le_self _ _
      have w2 : IntKind.i64.wrap (Q : Int) = (Q : Int) := wrap64_id (by omega) (by omega)
      have hge : 1001 ≤ Q := by
        rw [hQ, Nat.le_div_iff_mul_le (by omega)]
        have := Nat.mul_le_mul (Nat.le_refl 1001) (show zs.length - 1 ≤ 100000 by omega); omega
      have d2 := dec_false (show ¬ (Q : Int) ≤ ((textOf sep).size : Nat) by rw [hsz]; omega)
      have w3 : IntKind.i64.wrap (((textOf sep).size : Int) * ((zs.length - 1 : Nat) : Int)) = ((sep.length * (zs.length - 1) : Nat) : Int) := by
        rw [hsz, ← Int.natCast_mul, wrap64_id (by omega) (by omega)]
      have w4 : IntKind.i64.wrap (0 + ((sep.length * (zs.length - 1) : Nat) : Int)) = ((sep.length * (zs.length - 1) : Nat) : Int) := by rw [Int.zero_add, wrap64_id (by omega) (by omega)]
      simp only [go_sem, ↓reduceIte, e0, w1, hnz, hq, w2, d2, w3, w4]
    · have hl0 : sep.length = 0 := by omega
      have e0 := dec_false (show ¬ (0 : Int) < ((textOf sep).size : Nat) by rw [hsz]; omega)
      simp only [go_sem, ↓reduceIte, e0, hl0]
      rfl
  · clear d0 d1
    rintro st ⟨h0, h1, h5⟩
    simp only [go_sem, ↓reduceIte, h0, h1, h5]
    refine AW_while (fun m st => ∃ i, i + m = zs.length ∧ st.τ 0 = .sl 1 (zs.map encS) ∧ st.τ 1 = .str (textOf sep) ∧ st.τ 5 = .int .i64 ((sep.length * (zs.length - 1) + sumL (zs.take i) : Nat) : Int) ∧ st.τ 39 = .sl 1 (zs.map encS) ∧ st.τ 40 = .int .i64 zs.length ∧ st.τ 41 = .int .i64 (i : Nat)) zs.length ?_ ?_
    · exact ⟨0, by omega, by simp only [go_sem, ↓reduceIte, h0], by simp only [go_sem, ↓reduceIte, h1], by simp only [go_sem, ↓reduceIte, h5, List.take_zero] <;> rfl, by simp only [go_sem, ↓reduceIte], by simp only [go_sem, ↓reduceIte], by simp only [go_sem, ↓reduceIte] <;> rfl⟩
    · clear h0 h1 h5
      clear st
      rintro m st ⟨i, hi, h0, h1, h5, h39, h40, h41⟩ next
      by_cases hlt : i < zs.length
      · have hlt' := cast_lt0 hlt
        have hsn := sumL_snoc hlt
        have hle := sumL_le zs (i + 1)
        have hzl := textOf_size zs[i]
        have w1 : IntKind.i64.wrap (9223372036854775807 - ((sep.length * (zs.length - 1) + sumL (zs.take i) : Nat) : Int)) = 9223372036854775807 - ((sep.length * (zs.length - 1) + sumL (zs.take i) : Nat) : Int) := wrap64_id (by omega) (by omega)
        have d2 := dec_false (show ¬ (9223372036854775807 - ((sep.length * (zs.length - 1) + sumL (zs.take i) : Nat) : Int)) < ((textOf zs[i]).size : Nat) by rw [hzl]; omega)
        have w2 : IntKind.i64.wrap (((sep.length * (zs.length - 1) + sumL (zs.take i) : Nat) : Int) + ((textOf zs[i]).size : Nat)) = ((sep.length * (zs.length - 1) + sumL (zs.take (i + 1)) : Nat) : Int) := by rw [hzl, wrap64_id (by omega) (by omega)]; omega
        simp only [go_sem, ↓reduceIte, h0, h1, h5, h39, h40, h41, hlt', getD_map_lt _ _ _ _ hlt, encS, w1, d2, w2]
        refine next (m - 1) _ (by omega) ⟨i + 1, by omega, by simp only [go_sem, ↓reduceIte, h0] <;> rfl, by simp only [go_sem, ↓reduceIte, h1], by simp only [go_sem, ↓reduceIte], by simp only [go_sem, ↓reduceIte, h39] <;> rfl, by simp only [go_sem, ↓reduceIte, h40], by simp only [go_sem, ↓reduceIte]; rw [wrap64_id (by omega) (by omega)]; rfl⟩
      · have hlt' := dec_false (show ¬ ((i : Nat) : Int) < (zs.length : Nat) by omega)
        rw [List.take_of_length_le (by omega)] at h5
        have hz0 : (0 : Int) < (zs.length : Nat) := by omega
        have hgz : (zs.map encS).getD 0 .undef = encS x := by rw [← hxs]; rfl
        have htot : sep.length * (zs.length - 1) + sumL zs ≤ 200000000000 := by omega
        simp only [go_sem, ↓reduceIte, h0, h1, h5, h39, h40, h41, hlt']
        refine callS_h (c_bgrow (st.n + 1) _ _ _ .nilp (.inl rfl) (by simp only [go_sem, ↓reduceIte]) (by simp only [go_sem, ↓reduceIte] <;> omega) (by omega) (by omega)) ?_
        rintro v h1' n1 hn1 ⟨rfl, ⟨c1, hB1, hc1⟩, hk1⟩
        simp only [go_sem, ↓reduceIte] at hn1
        have hx0 : x.length ≤ sumL zs := by rw [← hxs]; simp only [sumL, List.map_cons, List.sum_cons]; omega
        simp only [go_sem, ↓reduceIte, h0, h1, hz0, hgz, encS]
        refine callS_h (c_wstr (st.n + 1) ⟨#[]⟩ (textOf x) c1 _ _ (hB1.keep (by simp only [go_sem, ↓reduceIte] <;> omega) (by simp only [go_sem, ↓reduceIte]) (fun k _ => by simp only [go_sem, ↓reduceIte])) (by show 0 ≤ _; omega) (by rw [textOf_size]; omega)) ?_
        rintro v h2' n2 hn2 ⟨rfl, ⟨c2, hB2, hc2⟩, hk2⟩
        simp only [go_sem, ↓reduceIte] at hn2
        rw [show (⟨#[]⟩ : ByteArray) ++ textOf x = textOf x by apply ByteArray.ext; simp] at hB2
        have hdr : (zs.map encS).drop 1 = (y :: r).map encS := by rw [← hxs]; rfl
        have htk : (zs.map encS).take zs.length = zs.map encS := List.take_of_length_le (by simp)
        have hz1 : (1 : Int) ≤ (zs.length : Nat) := by omega
        have hjl : joinL sep zs = x ++ (y :: r).flatMap (fun y => sep ++ y) := by rw [← hxs]; rfl
        have hyl : (y :: r).length = zs.length - 1 := by rw [← hxs]; rfl
        have hjlen : (joinL sep zs).length ≤ 200000000000 := by
          rw [hjl, List.length_append, flat_len, hyl]
          have : x.length + sumL (y :: r) = sumL zs := by rw [← hxs]; simp [sumL]
          omega
        simp only [go_sem, ↓reduceIte, h0, h1, hz1, hdr, htk, Int.le_refl]
        generalize st.n + 1 = bb at *
        have l1 : (y :: r).length = r.length + 1 := rfl
        refine AW_while (fun m st => ∃ i c, i + m = r.length + 1 ∧ st.τ 1 = .str (textOf sep) ∧ st.τ 8 = .tptr bb 2 178 ∧ st.τ 63 = .sl 1 ((y :: r).map encS) ∧ st.τ 64 = .int .i64 ((r.length + 1 : Nat) : Int) ∧ st.τ 65 = .int .i64 (i : Nat) ∧ Bld st.h st.n bb (textOf (x ++ ((y :: r).take i).flatMap (fun y => sep ++ y))) c) (r.length + 1) ?_ ?_
        · refine ⟨0, c2, by omega, by simp only [go_sem, ↓reduceIte, h1], by simp only [go_sem, ↓reduceIte], by simp only [go_sem, ↓reduceIte] <;> rfl, by simp only [go_sem, ↓reduceIte] <;> rfl, by simp only [go_sem, ↓reduceIte] <;> rfl, ?_⟩
          rw [List.take_zero, List.flatMap_nil, List.append_nil]
          exact hB2.keep (by simp only [go_sem, ↓reduceIte] <;> omega) (by simp only [go_sem, ↓reduceIte]) (fun k _ => by simp only [go_sem, ↓reduceIte])
        · clear h0 h1 h5 h39 h40 h41 hlt hlt' next hi hk1 hk2 hB1 hB2 hc1 hc2 hn1 hn2
          clear st m i
          rintro m st ⟨i, c, hi, h1, h8, h63, h64, h65, hB⟩ next
          have hpre : (x ++ ((y :: r).take i).flatMap (fun y => sep ++ y)).length ≤ 200000000000 := by
            refine Nat.le_trans ?_ hjlen
            rw [hjl]
            conv => rhs; rw [← List.take_append_drop i (y :: r)]
            simp only [List.length_append, List.flatMap_append]; omega
          by_cases hlt : i < (y :: r).length
          · have hlt' : ((i : Nat) : Int) < ((r.length + 1 : Nat) : Int) := by omega
            have hel : (y :: r)[i].length ≤ 100000000000 := by
              have h1 := sumL_snoc hlt
              have h2 := sumL_le (y :: r) (i + 1)
              have h3 : sumL (y :: r) ≤ sumL zs := by rw [← hxs]; simp only [sumL, List.map_cons, List.sum_cons]; omega
              omega
            have hgd := getD_map_lt encS (y :: r) i .undef hlt
            simp only [List.map_cons] at hgd h63
            replace hgd : (encS y :: List.map encS r).getD i .undef = .str (textOf (y :: r)[i]) := hgd
            simp only [go_sem, ↓reduceIte, h1, h8, h63, h64, h65, hlt', hgd]
            refine callS_h (c_wstr bb _ (textOf sep) c _ _ (hB.keep (by simp only [go_sem, ↓reduceIte] <;> omega) (by simp only [go_sem, ↓reduceIte]) (fun k _ => by simp only [go_sem, ↓reduceIte])) (by rw [textOf_size]; omega) (by rw [textOf_size]; omega)) ?_
            rintro v h1' n1 hn1 ⟨rfl, ⟨c1, hB1, hc1⟩, hk1⟩
            simp only [go_sem, ↓reduceIte] at hn1
            rw [textOf_append] at hB1
            simp only [go_sem, ↓reduceIte, h1, h8, h63, h64, h65]
            refine callS_h (c_wstr bb _ (textOf (y :: r)[i]) c1 _ _ (hB1.keep (by simp only [go_sem, ↓reduceIte] <;> omega) (by simp only [go_sem, ↓reduceIte]) (fun k _ => by simp only [go_sem, ↓reduceIte])) (by rw [textOf_size, List.length_append]; omega) (by rw [textOf_size]; omega)) ?_
            rintro v h2' n2 hn2 ⟨rfl, ⟨c2, hB2, hc2⟩, hk2⟩
            simp only [go_sem, ↓reduceIte] at hn2
            have e : x ++ ((y :: r).take i).flatMap (fun y => sep ++ y) ++ sep ++ (y :: r)[i] = x ++ ((y :: r).take (i + 1)).flatMap (fun y => sep ++ y) := by
              rw [take_snoc hlt, List.flatMap_append, List.flatMap_cons, List.flatMap_nil, List.append_nil]
              simp only [List.append_assoc]
            rw [textOf_append, e] at hB2
            simp only [go_sem, ↓reduceIte, h1, h8, h63, h64, h65]
            refine next (m - 1) _ (by omega) ⟨i + 1, c2, by omega, by simp only [go_sem, ↓reduceIte, h1], by simp only [go_sem, ↓reduceIte, h8], by simp only [go_sem, ↓reduceIte, h63] <;> rfl, by simp only [go_sem, ↓reduceIte, h64], by simp only [go_sem, ↓reduceIte]; rw [wrap64_id (by omega) (by omega)]; rfl, hB2.keep (by simp only [go_sem, ↓reduceIte] <;> omega) (by simp only [go_sem, ↓reduceIte]) (fun k _ => by simp only [go_sem, ↓reduceIte])⟩
          · have hlt' := dec_false (show ¬ ((i : Nat) : Int) < ((r.length + 1 : Nat) : Int) by omega)
            rw [List.take_of_length_le (by omega), ← hjl] at hB
            simp only [go_sem, ↓reduceIte, h1, h8, h63, h64, h65, hlt']
            refine callS_h (c_bstr bb _ c _ _ (hB.keep (by simp only [go_sem, ↓reduceIte] <;> omega) (by simp only [go_sem, ↓reduceIte]) (fun k _ => by simp only [go_sem, ↓reduceIte])) (by rw [textOf_size]; omega)) ?_
            rintro v h' n' hn ⟨rfl, hk⟩
            simp only [go_sem, ↓reduceIte]
            exact .mk (by simp only [go_sem, ↓reduceIte])
end Go.Proofs.YtopmghclhgihfaaGreatDoor

set_option linter.unusedVariables false
set_option linter.unusedSimpArgs false
set_option maxRecDepth 10000
namespace Go.Proofs.YtopmghclhgihfaaGreatDoor
open Go Go.Ab Go.Num

theorem elt_s : Elt 1 encS := ⟨by omega, fun q => ⟨_, rfl, rfl, rfl, rfl⟩⟩
theorem flat_s (L : List (List UInt8)) : flatC encS L = L.map encS := by
  induction L with
  | nil => rfl
  | cons x l ih => simp only [flatC, List.flatMap_cons, List.map_cons] at ih ⊢; rw [ih]; rfl
def rowT (l : List Rat) : List UInt8 := joinL [44] (l.map txtQ)
theorem txtQ_len {q : Rat} {k : Nat} (h : qw q ≤ k) : (txtQ q).length ≤ 64 * k + 4 := by
  have h1 := decS_len' (wd_dig q.num.natAbs)
  have h2 := decS_len' (wd_dig q.den)
  rw [val_dig] at h1 h2
  have hz : (txtZ q.num).length ≤ (decS q.num.natAbs).length + 1 := by
    unfold txtZ
    split
    · simp only [List.length_cons]; omega
    · omega
  unfold qw at h
  unfold txtQ
  split
  · omega
  · simp only [List.length_append, List.length_cons]; omega
theorem sumL_txt {k : Nat} : ∀ {l : List Rat}, (∀ q ∈ l, qw q ≤ k) → sumL (l.map txtQ) ≤ l.length * (64 * k + 4)
  | [], _ => by simp [sumL]
  | q :: l, h => by
    have h1 := txtQ_len (h q (List.mem_cons_self ..))
    have h2 := sumL_txt (l := l) fun q hq => h q (List.mem_cons_of_mem _ hq)
    simp only [sumL, List.map_cons, List.sum_cons, List.length_cons, Nat.succ_mul] at h2 ⊢
    omega

set_option maxHeartbeats 1000000 in
theorem c_rtext (l : List Rat) (hl : l.length ≤ 1000) (hq : ∀ q ∈ l, qw q ≤ 20000) : PCalls Tryz.prog 36 [.sl 3 (l.map encQ)] (.str (textOf (rowT l))) := by
  have hsum : sumL (l.map txtQ) ≤ 100000000000 := by
    have h1 := sumL_txt hq
    have h2 := Nat.mul_le_mul hl (show 64 * 20000 + 4 ≤ 1280004 by omega)
    omega
  have hj := c_join [44] (l.map txtQ) (by simp; omega) (by decide) hsum
  rw [show joinL [44] (l.map txtQ) = rowT l from rfl, show textOf [44] = (⟨#[44]⟩ : ByteArray) from rfl] at hj
  refine pcalls_of_AW (pa := []) (fn := Tryz.f36) (ts := [2]) follows_mixed Tryz.func36 rfl rfl (by kernel_rfl) (by kernel_rfl) (by rw [Tryz.ntmps36]; simp) ?_
  simp only [go_sem, ↓reduceIte]
  refine AW_while (fun m st => ∃ i, i + m = l.length ∧ st.τ 6 = .sl 3 (l.map encQ) ∧ st.τ 7 = .int .i64 l.length ∧ st.τ 8 = .int .i64 (i : Nat) ∧ Acc 1 encS st (st.τ 3) ((l.take i).map txtQ)) l.length ?_ ?_
  · exact ⟨0, by omega, by simp only [go_sem, ↓reduceIte], by simp only [go_sem, ↓reduceIte], by simp only [go_sem, ↓reduceIte] <;> rfl, .inl ⟨by simp, by simp only [go_sem, ↓reduceIte]⟩⟩
  · rintro m st ⟨i, hi, h6, h7, h8, hacc⟩ next
    by_cases hlt : i < l.length
    · have hlt' : ((i : Nat) : Int) < (l.length : Nat) := by omega
      have hc := c_ftext (cq l[i]) (okR_cq (hq _ (List.getElem_mem hlt)))
      rw [rv_cq] at hc
      simp only [go_sem, ↓reduceIte, h6, h7, h8, hlt', getD_map_lt _ _ _ _ hlt, encQ, encR, encW]
      refine callS_p hc ?_
      have hl1 : (flatC encS ((l.take i).map txtQ)).length = i := by rw [flat_s]; simp; omega
      have hi38 : i ≤ 274877906944 := by omega
      have htk : ((l.take i).map txtQ).length = i := by simp; omega
      have htk1 : ((l.take (i + 1)).map txtQ).length = i + 1 := by simp; omega
      rcases hacc with ⟨hnil, h3⟩ | ⟨b, h3, hb, hbn⟩
      · have hi0 : i = 0 := by rw [hnil] at htk; simp at htk; omega
        subst hi0
        simp only [go_sem, ↓reduceIte, h3, h6, h7, h8, hlt']
        refine next (m - 1) _ (by omega) ⟨1, by omega, by simp only [go_sem, ↓reduceIte, h6], by simp only [go_sem, ↓reduceIte, h7], by simp only [go_sem, ↓reduceIte] <;> rfl, .inr ⟨_, by rw [htk1]; simp only [go_sem, ↓reduceIte] <;> rfl, by rw [map_take_snoc txtQ hlt, flatC_snoc, hnil]; simp only [go_sem, ↓reduceIte, flatC_nil, encS] <;> rfl, by simp only [go_sem, ↓reduceIte] <;> omega⟩⟩
      · rw [htk] at h3
        simp only [go_sem, ↓reduceIte, h3, h6, h7, h8, hlt', hb, hl1, hi38, upd1_old _ _ _ _ _ hbn, old_ne hbn, new_ne hbn]
        refine next (m - 1) _ (by omega) ⟨i + 1, by omega, by simp only [go_sem, ↓reduceIte, h6], by simp only [go_sem, ↓reduceIte, h7], by simp only [go_sem, ↓reduceIte]; rw [wrap64_id (by omega) (by omega)]; rfl, .inr ⟨_, by rw [htk1]; simp only [go_sem, ↓reduceIte] <;> rfl, by rw [map_take_snoc txtQ hlt, flatC_snoc]; simp only [go_sem, ↓reduceIte, List.take_of_length_le (Nat.le_of_eq hl1), encS] <;> rfl, by simp only [go_sem, ↓reduceIte] <;> omega⟩⟩
    · have hlt' := dec_false (show ¬ ((i : Nat) : Int) < (l.length : Nat) by omega)
      rw [List.take_of_length_le (by omega)] at hacc
      rcases hacc with ⟨hnil, h3⟩ | ⟨b, h3, hb, hbn⟩
      · rw [hnil] at hj
        simp only [go_sem, ↓reduceIte, h3, h6, h7, h8, hlt']
        refine callS_p (hj.args_le (.cons (AV.le_nil 1) (LeL.refl _))) ?_
        simp only [go_sem, ↓reduceIte]
        exact .mk (by simp only [go_sem, ↓reduceIte])
      · have hll : (l.map txtQ).length = l.length := by simp
        have hfz := frz1_flatC elt_s (h := st.h) hb
        rw [hll] at hfz
        simp only [go_sem, ↓reduceIte, h3, h6, h7, h8, hlt']
        refine callS_q (ids' := [b]) hj ?_ ?_ ?_
        · skip
          exact congrArg (fun z => [z, AV.str ⟨#[44]⟩]) hfz
        · rfl
        · simp only [go_sem, ↓reduceIte]
          exact .mk (by simp only [go_sem, ↓reduceIte])
end Go.Proofs.YtopmghclhgihfaaGreatDoor

set_option linter.unusedVariables false
set_option linter.unusedSimpArgs false
set_option maxRecDepth 10000
namespace Go.Proofs.YtopmghclhgihfaaGreatDoor
open Go Go.Ab Go.Num

theorem take_getD_snoc {V : List Rat} {i : Nat} (h : i < V.length) : V.take (i + 1) = V.take i ++ [V.getD i 0] := by
  rw [take_snoc h]; congr 1; simp [h]
set_option maxRecDepth 20000 in
set_option maxHeartbeats 1000000 in
theorem c_outs (t : Tp) (L : List Rat) (ht : okT t) (hw : wrongI t = -1) (hL : L.length = t.code.length) (hs : ∀ q ∈ L, qw q ≤ 80000) : PCalls Tryz.prog 51 [encT t, .sl 3 (L.map encQ)] (.sl 3 ((outsL t L).map encQ)) := by
  have hr := c_right t ht
  obtain ⟨hwh, _, hob⟩ := right_parts hw
  have hto := (whole_le ht hwh).2.1
  have hdm := (whole_le ht hwh).2.2.2.1
  have ho : ∀ o ∈ t.outs, 0 ≤ o ∧ o < L.length := fun o h => by rw [hL]; exact belowB_iff.1 (List.all_eq_true.1 hob o h)
  rw [hw] at hr
  simp only [encT] at hr
  have hLe : ((L.length : Nat) : Int) = (t.code.length : Nat) := by omega
  generalize hV : outsL t L = V
  have lV : V.length = t.outs.length := by rw [← hV]; simp [outsL]
  refine pcalls_of_AW (pa := []) (fn := Tryz.f51) (ts := [4]) follows_mixed Tryz.func51 rfl rfl (by kernel_rfl) (by kernel_rfl) (by rw [Tryz.ntmps51]; simp) ?_
  simp only [go_sem, ↓reduceIte, encT]
  refine callS_p hr ?_
  simp only [go_sem, ↓reduceIte, bne_int, List.length_map, dec_true hLe, (show decide ((-1 : Int) = -1) = true from rfl)]
  refine AW_while (fun m st => ∃ i, i + m = t.outs.length ∧ st.τ 1 = .sl 3 (L.map encQ) ∧ st.τ 20 = .sl 1 (t.outs.map i64) ∧ st.τ 21 = .int .i64 t.outs.length ∧ st.τ 22 = .int .i64 (i : Nat) ∧ Acc 3 encQ st (st.τ 5) (V.take i)) t.outs.length ?_ ?_
  · exact ⟨0, by omega, by simp only [go_sem, ↓reduceIte], by simp only [go_sem, ↓reduceIte], by simp only [go_sem, ↓reduceIte, List.length_map], by simp only [go_sem, ↓reduceIte] <;> rfl, .inl ⟨by simp, by simp only [go_sem, ↓reduceIte]⟩⟩
  · rintro m st ⟨i, hi, e1, h20, h21, h22, hacc⟩ next
    by_cases hlt : i < t.outs.length
    · have hlt' : ((i : Nat) : Int) < (t.outs.length : Nat) := by omega
      have hgo := getD_map_lt i64 t.outs i .undef hlt
      have hoo := ho t.outs[i] (List.getElem_mem hlt)
      have eV : V.take (i + 1) = V.take i ++ [L.getD t.outs[i].toNat 0] := by
        rw [take_snoc (by omega)]
        congr 1
        subst hV
        simp only [outsL, List.getElem_map]
      generalize t.outs[i] = o at *
      obtain ⟨o1, o2⟩ := hoo
      have o3 : o.toNat < L.length := by omega
      have o4 : o < (L.length : Nat) := by omega
      have hgl : (L.map encQ).getD o.toNat .undef = encQ (L.getD o.toNat 0) := by simp [List.getD, o3]
      have hc := c_qnorm (a := L.getD o.toNat 0) (hs _ (by rw [show L.getD o.toNat 0 = L[o.toNat] by simp [o3]]; exact List.getElem_mem _))
      simp only [encQ, encR, encW] at hc
      have h0i : (0 : Int) ≤ (i : Nat) := by omega
      simp only [go_sem, ↓reduceIte, e1, h20, h21, h22, hlt', h0i, hgo, i64, o1, o4, hgl, encQ, encR, encW, List.length_map]
      refine callS_p hc ?_
      have hl3 : (flatC encQ (V.take i)).length = i * 3 := by rw [len_q]; simp; omega
      have hi38 : i ≤ 274877906944 := by omega
      have htk : (V.take i).length = i := by simp; omega
      have htk1 : (V.take (i + 1)).length = i + 1 := by simp; omega
      rcases hacc with ⟨hnil, h3⟩ | ⟨b, h3, hb, hbn⟩
      · have hi0 : i = 0 := by rw [hnil] at htk; simp at htk; omega
        subst hi0
        simp only [go_sem, ↓reduceIte, h3, e1, h20, h21, h22, hlt', encQ, encR, encW]
        refine next (m - 1) _ (by omega) ⟨1, by omega, by simp only [go_sem, ↓reduceIte, e1, encQ, encR, encW], by simp only [go_sem, ↓reduceIte, h20], by simp only [go_sem, ↓reduceIte, h21], by simp only [go_sem, ↓reduceIte] <;> rfl, .inr ⟨_, by rw [htk1]; simp only [go_sem, ↓reduceIte] <;> rfl, by rw [eV, flatC_snoc, hnil]; simp only [go_sem, ↓reduceIte, flatC_nil, encQ, encR, encW] <;> rfl, by simp only [go_sem, ↓reduceIte] <;> omega⟩⟩
      · rw [htk] at h3
        simp only [go_sem, ↓reduceIte, h3, e1, h20, h21, h22, hlt', encQ, encR, encW, hb, hl3, hi38, upd1_old _ _ _ _ _ hbn, old_ne hbn, new_ne hbn]
        refine next (m - 1) _ (by omega) ⟨i + 1, by omega, by simp only [go_sem, ↓reduceIte, e1, encQ, encR, encW], by simp only [go_sem, ↓reduceIte, h20], by simp only [go_sem, ↓reduceIte, h21], by simp only [go_sem, ↓reduceIte]; rw [wrap64_id (by omega) (by omega)]; rfl, .inr ⟨_, by rw [htk1]; simp only [go_sem, ↓reduceIte] <;> rfl, by rw [eV, flatC_snoc]; simp only [go_sem, ↓reduceIte, List.take_of_length_le (Nat.le_of_eq hl3), encQ, encR, encW] <;> rfl, by simp only [go_sem, ↓reduceIte] <;> omega⟩⟩
    · have hlt' := dec_false (show ¬ ((i : Nat) : Int) < (t.outs.length : Nat) by omega)
      rw [List.take_of_length_le (by omega)] at hacc
      simp only [go_sem, ↓reduceIte, e1, h20, h21, h22, hlt']
      refine Acc.ret elt_q ?_
      rcases hacc with ⟨hnil, h3⟩ | ⟨b, h3, hb, hbn⟩
      · exact .inl ⟨hnil, by simp only [go_sem, ↓reduceIte, h3]⟩
      · exact .inr ⟨b, by simp only [go_sem, ↓reduceIte, h3] <;> rfl, by simp only [go_sem, ↓reduceIte, hb] <;> rfl, by simp only [go_sem, ↓reduceIte]; omega⟩

/-- What a tape tells: its values; or the fault. -/
def fieldR (t : Tp) (r : List Rat × Int × Int) : List Rat × Int × Int := if r.2.1 = 0 then (outsL t r.1, 0, 0) else ([], r.2)
theorem runT_ok {t : Tp} {T : Rat} {Y P : List Rat} {l : Int} (h : (runT t T Y P l).2.1 = 0) : wrongI t = -1 ∧ (runT t T Y P l).1.length = t.code.length ∧ (runT t T Y P l).2.2 = 0 := by
  unfold runT at h ⊢
  by_cases hw : wrongI t = -1 ∧ (Y.length : Int) = t.dim ∧ (P.length : Int) = t.par
  · rw [if_pos hw] at h ⊢
    obtain ⟨h1, _⟩ := runL_prefix T Y P l t.code [] h
    refine ⟨hw.1, by simpa using h1, ?_⟩
    have : ∀ (c : List Ins) (D : List Rat), (runL T Y P l c D).2.1 = 0 → (runL T Y P l c D).2.2 = 0 := by
      intro c
      induction c with
      | nil => intro D _; rfl
      | cons i r ih =>
        intro D h
        rw [runL] at h ⊢
        cases e : stepQ T Y P i D with
        | none => rw [e] at h; simp at h
        | some q =>
          rw [e] at h
          by_cases hf : fitQ l q = true
          · simp only [if_pos hf] at h ⊢; exact ih _ h
          · simp only [if_neg hf] at h; simp at h
    exact this _ _ h
  · rw [if_neg hw] at h; simp at h
theorem runL_sz (T : Rat) (Y P : List Rat) (l : Int) (hl : l ≤ 4096) : ∀ (c : List Ins) (D : List Rat), (∀ q ∈ D, qw q ≤ 200) → ∀ q ∈ (runL T Y P l c D).1, qw q ≤ 200
  | [], D, h => h
  | i :: r, D, h => by
    rw [runL]
    cases e : stepQ T Y P i D with
    | none => intro q hq; simp at hq
    | some q =>
      by_cases hf : fitQ l q = true
      · simp only [if_pos hf]
        refine runL_sz T Y P l hl r _ fun x hx => ?_
        rcases List.mem_append.1 hx with hx | hx
        · exact h x hx
        · rw [List.mem_singleton] at hx; subst hx; exact fit_size hl hf
      · simp only [if_neg hf]; intro q hq; simp at hq
theorem runT_sz (t : Tp) (T : Rat) (Y P : List Rat) {l : Int} (hl : l ≤ 4096) : ∀ q ∈ (runT t T Y P l).1, qw q ≤ 200 := by
  unfold runT
  split
  · exact runL_sz T Y P l hl _ _ (fun q hq => by simp at hq)
  · intro q hq; simp at hq
set_option maxRecDepth 20000 in
set_option maxHeartbeats 1000000 in
theorem c_rfield (t : Tp) (a : Pt) (bits : Int) (ht : okT t) (ha : okP 9000 a) : PCalls Tryz.prog 27 [encT t, encPt a, .int .i64 bits] (vT (fieldR t (runT t (rv a.t) (a.y.map rv) (a.p.map rv) (clampB bits)))) := by
  have hc := c_tape t a bits ht ha
  have hok := fun h => runT_ok (t := t) (T := rv a.t) (Y := a.y.map rv) (P := a.p.map rv) (l := clampB bits) h
  have hsz := runT_sz t (rv a.t) (a.y.map rv) (a.p.map rv) (l := clampB bits) (by unfold clampB; omega)
  generalize runT t (rv a.t) (a.y.map rv) (a.p.map rv) (clampB bits) = r at hc hok hsz ⊢
  obtain ⟨L, k, p⟩ := r
  simp only [vT, encF, encT, encPt, encW] at hc
  unfold fieldR
  by_cases hk : k = 0
  case neg =>
    rw [if_neg hk]
    refine pcalls_of_AWR (pa := []) (fn := Tryz.f27) (rs := [.tmp 6, .cell 7 56]) follows_mixed Tryz.func27 rfl rfl (by kernel_rfl) (by kernel_rfl) (by rw [Tryz.ntmps27]; simp) ?_
    simp only [go_sem, ↓reduceIte, encT, encPt, encW]
    refine callS_p hc ?_
    simp only [go_sem, ↓reduceIte, beq_int, dec_false hk]
    refine .mk_le (u := .tup [.nilsl, encF k p]) (by simp only [go_sem, ↓reduceIte, resR, resAll, resA, encF] <;> rfl) (AV.le_tup2 (AV.le_nil 3) (AV.le_refl _))
  obtain ⟨hw, hl, h0⟩ := hok hk
  simp only at hl h0
  subst h0
  subst hk
  rw [if_pos rfl]
  have ho := c_outs t L ht hw hl (fun q hq => Nat.le_trans (hsz q hq) (by omega))
  simp only [encT] at ho
  refine pcalls_of_AWR (pa := []) (fn := Tryz.f27) (rs := [.tmp 6, .cell 7 56]) follows_mixed Tryz.func27 rfl rfl (by kernel_rfl) (by kernel_rfl) (by rw [Tryz.ntmps27]; simp) ?_
  simp only [go_sem, ↓reduceIte, encT, encPt, encW]
  refine callS_p hc ?_
  simp only [go_sem, ↓reduceIte, beq_int, e00]
  refine callD_p ho ?_
  simp only [go_sem, ↓reduceIte]
  exact .mk (by simp only [go_sem, ↓reduceIte, resR, resAll, resA, vT, encF] <;> rfl)
end Go.Proofs.YtopmghclhgihfaaGreatDoor

set_option linter.unusedVariables false
set_option linter.unusedSimpArgs false
set_option maxRecDepth 10000
namespace Go.Proofs.YtopmghclhgihfaaGreatDoor
open Go Go.Ab Go.Num

theorem map_cq (l : List Rat) : (l.map cq).map encR = l.map encQ := by rw [List.map_map]; rfl
theorem map_rvcq (l : List Rat) : (l.map cq).map rv = l := by
  rw [List.map_map]
  have : (rv ∘ cq) = id := funext rv_cq
  rw [this, List.map_id]
def vAddQ (A B : List Rat) : AV := if A.length = B.length then .tup [.sl 3 ((addL A B).map encQ), .bool true] else .tup [.sl 3 [], .bool false]
theorem c_raddQ (A : List Rat) (b : List Fr) (hl : A.length ≤ 100000) (ha : ∀ q ∈ A, qw q ≤ 15000) (hb : ∀ f ∈ b, okR 15000 f) : PCalls Tryz.prog 14 [.sl 1 [.sl 3 (A.map encQ), .sl 3 (b.map encR)]] (vAddQ A (b.map rv)) := by
  have h := c_radd (A.map cq) b (by simpa using hl) (fun f hf => by
    obtain ⟨q, hq, rfl⟩ := List.mem_map.1 hf
    exact okR_cq (ha q hq)) hb
  rw [map_cq] at h
  unfold vAdd at h
  unfold vAddQ
  rw [map_rvcq, List.length_map] at h
  rw [List.length_map]
  exact h
theorem c_raddQQ (A B : List Rat) (hl : A.length ≤ 100000) (ha : ∀ q ∈ A, qw q ≤ 15000) (hb : ∀ q ∈ B, qw q ≤ 15000) : PCalls Tryz.prog 14 [.sl 1 [.sl 3 (A.map encQ), .sl 3 (B.map encQ)]] (vAddQ A B) := by
  have h := c_raddQ A (B.map cq) hl ha (fun f hf => by
    obtain ⟨q, hq, rfl⟩ := List.mem_map.1 hf
    exact okR_cq (hb q hq))
  rwa [map_cq, map_rvcq] at h
theorem c_rscaleQ (c : Fr) (A : List Rat) (hl : A.length ≤ 100000) (hc : okR 20000 c) (ha : ∀ q ∈ A, qw q ≤ 20000) : PCalls Tryz.prog 28 [encR c, .sl 3 (A.map encQ)] (.sl 3 ((A.map fun q => rv c * q).map encQ)) := by
  have h := c_rscale c (A.map cq) (by simpa using hl) hc (fun f hf => by
    obtain ⟨q, hq, rfl⟩ := List.mem_map.1 hf
    exact okR_cq (ha q hq))
  rw [map_cq] at h
  have e : (A.map cq).map (fun f => rv c * rv f) = A.map fun q => rv c * q := by
    rw [List.map_map]; congr 1; funext q; simp only [Function.comp, rv_cq]
  rwa [e] at h
theorem add_scale (k : Rat) (a b : List Rat) : addL (a.map fun q => k * q) b = linL k a b := by
  unfold addL linL
  rw [List.zipWith_map_left]

def longW (a b : Pt) (bits : Int) : Bool := longP a 6 2 || (longP b 6 2 || decide (bits > 500))
def encWay (a b : Pt) (bits : Int) : AV := .agg [.bool a.t.neg, encW a.t.n, encW a.t.d, .sl 3 (a.y.map encR), .sl 3 (a.p.map encR), .bool b.t.neg, encW b.t.n, encW b.t.d, .sl 3 (b.y.map encR), .sl 3 (b.p.map encR), .int .i64 bits]
theorem c_long27 (a b : Pt) (bits : Int) : PCalls Tryz.prog 8 [encWay a b bits] (.bool (longW a b bits)) := by
  unfold longW
  have h1 := c_long21 a 6 2 (by omega) (by omega)
  have h2 := c_long21 b 6 2 (by omega) (by omega)
  simp only [encPt, encW] at h1 h2
  refine pcalls_of_AW (pa := []) (fn := Tryz.f8) (ts := [2]) follows_mixed Tryz.func8 rfl rfl (by kernel_rfl) (by kernel_rfl) (by rw [Tryz.ntmps8]; simp) ?_
  simp only [go_sem, ↓reduceIte, encWay, encW]
  refine callS_p h1 ?_
  cases e1 : longP a 6 2 with
  | true =>
    simp only [go_sem, ↓reduceIte]
    exact .mk (by simp only [go_sem, ↓reduceIte])
  | false =>
    simp only [go_sem, ↓reduceIte]
    refine callS_p h2 ?_
    cases e2 : longP b 6 2 with
    | true =>
      simp only [go_sem, ↓reduceIte]
      exact .mk (by simp only [go_sem, ↓reduceIte])
    | false =>
      simp only [go_sem, ↓reduceIte]
      exact .mk (by simp only [go_sem, ↓reduceIte])

/-- A direction, taken 'c' times, and another one. -/
def alongP (a : Pt) (c : Fr) (b : Pt) : Pt := ⟨cq (rv c * rv a.t + rv b.t), (if a.y.length = b.y.length then linL (rv c) (a.y.map rv) (b.y.map rv) else []).map cq, (if a.p.length = b.p.length then linL (rv c) (a.p.map rv) (b.p.map rv) else []).map cq⟩
def alongB (a b : Pt) : Bool := decide (a.y.length = b.y.length) && decide (a.p.length = b.p.length)
theorem sum_small {c : Fr} {l m : List Fr} (hc : okR 2 c) (hl : ∀ f ∈ l, okR 2 f) (hm : ∀ f ∈ m, okR 2 f) : ∀ q ∈ linL (rv c) (l.map rv) (m.map rv), qw q ≤ 9 := fun q hq => by
  obtain ⟨i, hi, rfl⟩ := List.mem_iff_getElem.1 hq
  simp only [linL, List.getElem_zipWith, List.getElem_map]
  have h0 := qw_rv hc (by omega)
  have hi' : i < l.length ∧ i < m.length := by simpa [linL, Nat.lt_min] using hi
  have h1 := qw_rv (hl (l[i]'hi'.1) (List.getElem_mem _)) (by omega)
  have h2 := qw_rv (hm (m[i]'hi'.2) (List.getElem_mem _)) (by omega)
  have h3 := qw_mul (rv c) (rv (l[i]'hi'.1))
  have h4 := qw_add (rv c * rv (l[i]'hi'.1)) (rv (m[i]'hi'.2))
  omega
theorem along_ok {a b : Pt} {c : Fr} (ha : okP 2 a) (hc : okR 2 c) (hb : okP 2 b) : okP 9000 (alongP a c b) := by
  have h1 := qw_mul (rv c) (rv a.t)
  have h2 := qw_add (rv c * rv a.t) (rv b.t)
  have h3 := qw_rv hc (by omega)
  have h4 := qw_rv ha.t (by omega)
  have h5 := qw_rv hb.t (by omega)
  have hl : ∀ (l m : List Fr), (linL (rv c) (l.map rv) (m.map rv)).length ≤ l.length := fun l m => by
    simp [linL]; omega
  refine ⟨okR_cq (by omega), fun f hf => ?_, fun f hf => ?_, ?_, ?_⟩
  · obtain ⟨q, hq, rfl⟩ := List.mem_map.1 hf
    split at hq
    · exact okR_cq (Nat.le_trans (sum_small hc ha.y hb.y q hq) (by omega))
    · simp at hq
  · obtain ⟨q, hq, rfl⟩ := List.mem_map.1 hf
    split at hq
    · exact okR_cq (Nat.le_trans (sum_small hc ha.p hb.p q hq) (by omega))
    · simp at hq
  · have := hl a.y b.y; have := ha.ly
    simp only [alongP, List.length_map]; split <;> simp <;> omega
  · have := hl a.p b.p; have := ha.lp
    simp only [alongP, List.length_map]; split <;> simp <;> omega

/-- The rows' part. -/
def vRow (c : Fr) (l m : List Fr) : AV := .tup [.sl 3 ((if l.length = m.length then linL (rv c) (l.map rv) (m.map rv) else []).map encQ), .bool (decide (l.length = m.length))]
theorem c_rowsum (c : Fr) (l m : List Fr) (hl : l.length ≤ 100000) (hc : okR 2 c) (h1 : ∀ f ∈ l, okR 2 f) (h2 : ∀ f ∈ m, okR 2 f) : PCalls Tryz.prog 14 [.sl 1 [.sl 3 ((l.map fun f => rv c * rv f).map encQ), .sl 3 (m.map encR)]] (vRow c l m) := by
  have h := c_raddQ (l.map fun f => rv c * rv f) m (by simpa using hl) (fun q hq => by
    obtain ⟨f, hf, rfl⟩ := List.mem_map.1 hq
    have := qw_mul (rv c) (rv f)
    have := qw_rv hc (by omega)
    have := qw_rv (h1 f hf) (by omega)
    omega) (fun f hf => (h2 f hf).mono (by omega))
  unfold vAddQ at h
  unfold vRow
  rw [List.length_map, List.length_map] at h
  have e : (l.map fun f => rv c * rv f) = (l.map rv).map fun q => rv c * q := by rw [List.map_map]; rfl
  rw [e, add_scale] at h
  rw [e]
  by_cases hlm : l.length = m.length
  · rw [if_pos hlm] at h ⊢
    rw [decide_eq_true hlm]; exact h
  · rw [if_neg hlm] at h ⊢
    rw [decide_eq_false hlm]; exact h
set_option maxRecDepth 20000 in
set_option maxHeartbeats 1000000 in
theorem c_along (a b : Pt) (c : Fr) (ha : okP 2 a) (hc : okR 2 c) (hb : okP 2 b) : PCalls Tryz.prog 26 [encPt a, encR c, encPt b] (.tup [encPt (alongP a c b), .bool (alongB a b)]) := by
  have s1 := c_rscale c a.y ha.ly (hc.mono (by omega)) (fun f hf => (ha.y f hf).mono (by omega))
  have s2 := c_rscale c a.p ha.lp (hc.mono (by omega)) (fun f hf => (ha.p f hf).mono (by omega))
  have r1 := c_rowsum c a.y b.y ha.ly hc ha.y hb.y
  have r2 := c_rowsum c a.p b.p ha.lp hc ha.p hb.p
  have m1 := c_fmul c a.t (hc.mono (by omega)) (ha.t.mono (by omega))
  have h1 := qw_mul (rv c) (rv a.t)
  have h3 := qw_rv hc (by omega)
  have h4 := qw_rv ha.t (by omega)
  have m2 := c_fadd (cq (rv c * rv a.t)) b.t (okR_cq (by omega)) (hb.t.mono (by omega))
  rw [rv_cq] at m2
  unfold vRow at r1 r2
  simp only [encR, encW] at s1 s2
  simp only [encQ, encR, encW] at m1 m2
  have eb : alongB a b = (decide (a.y.length = b.y.length) && decide (a.p.length = b.p.length)) := rfl
  have my := map_cq (if a.y.length = b.y.length then linL (rv c) (a.y.map rv) (b.y.map rv) else [])
  have mp := map_cq (if a.p.length = b.p.length then linL (rv c) (a.p.map rv) (b.p.map rv) else [])
  generalize hp1 : (if a.y.length = b.y.length then linL (rv c) (a.y.map rv) (b.y.map rv) else []) = LY at *
  generalize hp2 : (if a.p.length = b.p.length then linL (rv c) (a.p.map rv) (b.p.map rv) else []) = LP at *
  have ep : encPt (alongP a c b) = .agg [.bool (cq (rv c * rv a.t + rv b.t)).neg, encW (cq (rv c * rv a.t + rv b.t)).n, encW (cq (rv c * rv a.t + rv b.t)).d, .sl 3 (LY.map encQ), .sl 3 (LP.map encQ)] := by
    rw [← my, ← mp, ← hp1, ← hp2]; rfl
  rw [ep, eb]
  refine pcalls_of_AWR (pa := [19, 30]) (fn := Tryz.f26) (rs := [.cell 6 49, .tmp 7]) follows_mixed Tryz.func26 rfl rfl (by kernel_rfl) (by kernel_rfl) (by rw [Tryz.ntmps26]; simp) ?_
  simp only [go_sem, ↓reduceIte, encPt, encR, encW]
  refine callD_p s1 ?_
  simp only [go_sem, ↓reduceIte]
  refine callD_p r1 ?_
  simp only [go_sem, ↓reduceIte]
  refine callD_p s2 ?_
  simp only [go_sem, ↓reduceIte]
  refine callD_p r2 ?_
  simp only [go_sem, ↓reduceIte]
  refine callD_p m1 ?_
  simp only [go_sem, ↓reduceIte]
  refine callD_p m2 ?_
  cases e1 : decide (a.y.length = b.y.length) with
  | false =>
    simp only [go_sem, ↓reduceIte]
    exact .mk (by simp only [go_sem, ↓reduceIte, resR, resAll, resA, encW] <;> rfl)
  | true =>
    simp only [go_sem, ↓reduceIte]
    exact .mk (by simp only [go_sem, ↓reduceIte, resR, resAll, resA, encW] <;> rfl)

/-! ### The example -/
def z0 : Fr := ⟨false, [], []⟩
def exP : Tp := ⟨[⟨3, 0, 0, z0⟩, ⟨11, 0, 2, z0⟩], [1], 1, 0⟩
theorem exP_wrong : wrongI exP = -1 := by decide
theorem fit100 {n : Nat} (h : n < 1000) : fitQ 100 ((n : Int) : Rat) = true := by
  unfold fitQ fsz
  simp only [cq, val_dig, Rat.num_intCast, Rat.den_intCast, Int.natAbs_natCast]
  have h1 : blen n ≤ 10 := by
    exact blen_le.2 (by omega)
  have h2 : blen 1 ≤ 10 := by decide
  exact decide_eq_true (by omega)
theorem exP_run : pushT exP 0 0 [3] [] [1] [] (clampB 100) = ([(3, 1), (9, 6)], 0, 0, 0) := by
  have f3 : fitQ 100 3 = true := fit100 (n := 3) (by omega)
  have f1 : fitQ 100 1 = true := fit100 (n := 1) (by omega)
  have f9 : fitQ 100 9 = true := fit100 (n := 9) (by omega)
  have f6 : fitQ 100 6 = true := fit100 (n := 6) (by omega)
  have s1 : stepD (0, 0) [(3, 1)] [] ⟨3, 0, 0, z0⟩ [] = some (3, 1) := rfl
  have p9 : powQ 3 2 = 9 := by decide +kernel
  have p1 : powQ 3 (2 - 1) = 3 := by decide +kernel
  have s2 : stepD (0, 0) [(3, 1)] [] ⟨11, 0, 2, z0⟩ [(3, 1)] = some (9, 6) := by
    have e1 : stepQ 0 [3] [] ⟨11, 0, 2, z0⟩ [3] = some 9 := by
      show powO 3 2 = some 9
      rw [powO, if_neg (by decide +kernel), p9]
    have e2 : dQ [3] [1] 9 ⟨11, 0, 2, z0⟩ 0 [1] [] = 6 := by
      show ((2 : Int) : Rat) * turnQ 3 2 9 * 1 = 6
      rw [turnQ, if_pos (by decide), p1]
      decide +kernel
    show (match stepQ 0 [3] [] ⟨11, 0, 2, z0⟩ [3] with | none => none | some v => some (v, dQ [3] [1] v ⟨11, 0, 2, z0⟩ 0 [1] [])) = _
    rw [e1]
    show some ((9 : Rat), dQ [3] [1] 9 ⟨11, 0, 2, z0⟩ 0 [1] []) = _
    rw [e2]
  rw [pushT, if_pos ⟨rfl, rfl⟩, if_pos ⟨exP_wrong, rfl, rfl⟩, show clampB 100 = 100 from rfl]
  show runD (0, 0) [(3, 1)] [] 100 [⟨3, 0, 0, z0⟩, ⟨11, 0, 2, z0⟩] [] = _
  simp only [runD, s1, f3, f1, if_true, List.nil_append, s2, f9, f6, List.cons_append]
end Go.Proofs.YtopmghclhgihfaaGreatDoor

set_option linter.unusedVariables false
set_option linter.unusedSimpArgs false
set_option maxRecDepth 10000
namespace Go.Proofs.YtopmghclhgihfaaGreatDoor
open Go.ChangeShapes Go.WideShapes Go.ChangeAt Go.RowKit Go.Ab Go.Num

def encWy (w : Pt × Pt × Int) : AV := encWay w.1 w.2.1 w.2.2
theorem readsWay (W : World) : ReadsC Tryz.prog W 33 (QR encWy (fun w => wdP w.1 ∧ wdP w.2.1)) := fun H enc base sp held fuel cs x h => by
  obtain ⟨ys, ⟨a, b, rfl, ⟨f, hf, ha⟩, c, d, rfl, ⟨l, hl, hc⟩, e, g, rfl, ⟨m, hm, he⟩, rfl⟩, hr⟩ := readsC_st (P := Tryz.prog) (w := W) (Qs := [QR encPt wdP, QR encPt wdP, QR (fun n : Int => .int .i64 n) (fun n => (Lit.int .i64 n).wf = true)]) Tryz.underlying33 (by kernel_rfl)
    ⟨readsPt W, readsPt W, (readsJ W).toC, trivial⟩ H enc base sp held fuel cs x h
  cases ha; cases hc; cases he
  exact ⟨_, ⟨(f, l, m), ⟨hf, hl⟩, rfl⟩, hr⟩
theorem readsFrC (W : World) : ReadsC Tryz.prog W 28 (QR encR wdR) := (readsFr W).toC
end Go.Proofs.YtopmghclhgihfaaGreatDoor

set_option linter.unusedVariables false
set_option linter.unusedSimpArgs false
set_option maxRecDepth 10000
namespace Go.Ab
open Go.RowKit

theorem PRel.refit {I I' : Imm} {M' M'' : Mp} {x : AV} {v : Value} (h : PRel I x v) : ∀ {u : Value}, VRel I' M' x u → VRel I' M'' x u := by
  induction h with
  | undef v => exact fun _ => .pure _ _ (.undef _)
  | int k n => intro u hu; obtain rfl := hu.int_inv; exact .pure _ _ (.int _ _)
  | bool b => intro u hu; obtain rfl := hu.bool_inv; exact .pure _ _ (.bool _)
  | str s => intro u hu; obtain rfl := hu.str_inv; exact .pure _ _ (.str _)
  | agg cs vs hs h ih =>
    intro u hu
    obtain ⟨us, rfl, h1, h2⟩ := hu.agg_inv
    refine .agg _ _ h1 fun i x v hx hv => ?_
    have hi : i < cs.length := (List.getElem?_eq_some_iff.1 hx).1
    exact ih i x (vs[i]'(by omega)) hx (Array.getElem?_eq_getElem (by omega)) (h2 i x v hx hv)
  | tup cs vs hs h ih =>
    intro u hu
    obtain ⟨us, rfl, h1, h2⟩ := hu.tup_inv
    refine .tup _ _ h1 fun i x v hx hv => ?_
    have hi : i < cs.length := (List.getElem?_eq_some_iff.1 hx).1
    exact ih i x (vs[i]'(by omega)) hx (Array.getElem?_eq_getElem (by omega)) (h2 i x v hx hv)
  | nilsl => intro u hu; obtain rfl := hu.nilsl_inv; exact .pure _ _ .nilsl
  | sl0 e a cap => intro u hu; exact .pure _ _ hu.sl_inv
  | sl => intro u hu; exact .pure _ _ hu.sl_inv
  | pp => intro u hu; exact .pure _ _ hu.pp_inv
  | nilp => intro u hu; obtain rfl := hu.nilp_inv; exact .pure _ _ .nilp
  | func f cap vs hs h ih =>
    intro u hu
    obtain ⟨us, rfl, h1, h2⟩ := hu.func_inv
    refine .func _ _ _ h1 fun i x v hx hv => ?_
    have hi : i < cap.length := (List.getElem?_eq_some_iff.1 hx).1
    exact ih i x (vs[i]'(by omega)) hx (Array.getElem?_eq_getElem (by omega)) (h2 i x v hx hv)
  | ifc t x v h ih =>
    intro u hu
    obtain ⟨u', rfl, h2⟩ := hu.ifc_inv
    exact .ifc _ _ _ (ih h2)
  | opq v hv =>
    intro u hu
    cases hu with | pure _ _ h => exact .pure _ _ h

/-- What names no number that is new is as good in another numbering of the new ones. -/
theorem VRel.refit {I I' : Imm} {M M' M'' : Mp} {x : AV} {v : Value} (h : VRel I M x v) (hM : ∀ i, M i ≠ .fresh → M'' i = M' i) : ∀ {u : Value}, VRel I' M' x u → VRel I' M'' x u := by
  induction h with
  | pure x v h => exact h.refit
  | own b off len e B sz A cap h1 =>
    intro u hu
    obtain ⟨A', cap', rfl, g1, g2, g3⟩ := hu.own_inv
    rw [← hM b (by rw [h1]; exact fun h => by cases h)] at g3
    exact .own_mk g1 g2 g3
  | ownG b off len e A cap h1 =>
    intro u hu
    obtain ⟨A', cap', rfl, g1, g2, g3⟩ := hu.own_inv
    rw [← hM b (by rw [h1]; exact fun h => by cases h)] at g3
    exact .own_mk g1 g2 g3
  | ptr b off A sz h1 =>
    intro u hu
    obtain ⟨A', rfl, g1, g2⟩ := hu.ptr_inv
    rw [← hM b (by rw [h1]; exact fun h => by cases h)] at g2
    exact .ptr_mk g1 g2
  | ptrG b off A h1 =>
    intro u hu
    obtain ⟨A', rfl, g1, g2⟩ := hu.ptr_inv
    rw [← hM b (by rw [h1]; exact fun h => by cases h)] at g2
    exact .ptr_mk g1 g2
  | agg cs vs hs h ih =>
    intro u hu
    obtain ⟨us, rfl, h1, h2⟩ := hu.agg_inv
    refine .agg _ _ h1 fun i x v hx hv => ?_
    have hi : i < cs.length := (List.getElem?_eq_some_iff.1 hx).1
    exact ih i x (vs[i]'(by omega)) hx (Array.getElem?_eq_getElem (by omega)) (h2 i x v hx hv)
  | tup cs vs hs h ih =>
    intro u hu
    obtain ⟨us, rfl, h1, h2⟩ := hu.tup_inv
    refine .tup _ _ h1 fun i x v hx hv => ?_
    have hi : i < cs.length := (List.getElem?_eq_some_iff.1 hx).1
    exact ih i x (vs[i]'(by omega)) hx (Array.getElem?_eq_getElem (by omega)) (h2 i x v hx hv)
  | func f cap vs hs h ih =>
    intro u hu
    obtain ⟨us, rfl, h1, h2⟩ := hu.func_inv
    refine .func _ _ _ h1 fun i x v hx hv => ?_
    have hi : i < cap.length := (List.getElem?_eq_some_iff.1 hx).1
    exact ih i x (vs[i]'(by omega)) hx (Array.getElem?_eq_getElem (by omega)) (h2 i x v hx hv)
  | tptr b k t B h1 =>
    intro u hu
    obtain ⟨A, rfl, g1, g2⟩ := hu.tptr_inv
    rw [← hM b (by rw [h1]; exact fun h => by cases h)] at g2
    rcases g2 with g2 | ⟨B', g2, rfl⟩
    · exact .tptrG _ _ _ _ g2 g1
    · exact .tptr _ _ _ _ g2
  | tptrG b k t A h1 =>
    intro u hu
    obtain ⟨A, rfl, g1, g2⟩ := hu.tptr_inv
    rw [← hM b (by rw [h1]; exact fun h => by cases h)] at g2
    rcases g2 with g2 | ⟨B', g2, rfl⟩
    · exact .tptrG _ _ _ _ g2 g1
    · exact .tptr _ _ _ _ g2
  | bsl b len t B k cap h1 =>
    intro u hu
    obtain ⟨A, cap', rfl, g1, g3, g4, g2⟩ := hu.bsl_inv
    rw [← hM b (by rw [h1]; exact fun h => by cases h)] at g2
    rcases g2 with g2 | ⟨B', k', g2, rfl, g5⟩
    · exact .bslG _ _ _ _ _ g2 g1 g3 g4
    · exact .bsl _ _ _ _ _ _ g2 g3 g4 g5
  | bslG b len t A cap h1 =>
    intro u hu
    obtain ⟨A, cap', rfl, g1, g3, g4, g2⟩ := hu.bsl_inv
    rw [← hM b (by rw [h1]; exact fun h => by cases h)] at g2
    rcases g2 with g2 | ⟨B', k', g2, rfl, g5⟩
    · exact .bslG _ _ _ _ _ g2 g1 g3 g4
    · exact .bsl _ _ _ _ _ _ g2 g3 g4 g5
  | bptr b t B k h1 =>
    intro u hu
    obtain ⟨A, rfl, g1, g2⟩ := hu.bptr_inv
    rw [← hM b (by rw [h1]; exact fun h => by cases h)] at g2
    rcases g2 with g2 | ⟨B', k', g2, rfl⟩
    · exact .bptrG _ _ _ g2 g1
    · exact .bptr _ _ _ _ g2
  | bptrG b t A h1 =>
    intro u hu
    obtain ⟨A, rfl, g1, g2⟩ := hu.bptr_inv
    rw [← hM b (by rw [h1]; exact fun h => by cases h)] at g2
    rcases g2 with g2 | ⟨B', k', g2, rfl⟩
    · exact .bptrG _ _ _ g2 g1
    · exact .bptr _ _ _ _ g2
  | ifc t x v h ih =>
    intro u hu
    obtain ⟨u', rfl, h2⟩ := hu.ifc_inv
    exact .ifc _ _ _ (ih h2)

section
variable {P : Program} {f : FuncId} {args : List AV} {h : Heap}

theorem HRel.lt {I : Imm} {M : Mp} {h : Heap} {n : Nat} {w : World} (H : HRel I M h n w) {b : Nat} {blk : Blk} (hb : h b = some blk) : b < n := by
  rcases Nat.lt_or_ge b n with h1 | h1
  · exact h1
  · rw [H.no b (fun A sz h2 => by rw [H.fr b h1] at h2; cases h2)] at hb; cases hb

/-- A call that writes to rows that it was given; what it makes of its own is left behind. -/
theorem OLoc.of_eff {up : List (Nat × Option Blk)} {rd : List Nat} (hc : Callable P f) (hup : ∀ b ∈ up.map (·.1), ∃ blk, h b = some blk) (hfl : ∀ b ∈ up.map (·.1), ∀ g : Heap, ∃ blk, updH g up b = some blk ∧ blk.all (·.flat1) = true)
    (hH : ∀ h' n, (∀ b ∈ rd ++ up.map (·.1), h' b = h b) → (∀ b ∈ rd ++ up.map (·.1), (∃ blk, h b = some blk) → b < n) → HCalls P f args h' n (fun v h2 n2 => v = .tup [] ∧ ∀ j, j < n → h2 j = updH h' up j)) :
    OLoc P f args h { v := .tup [], up, rd } := by
  refine ⟨hc, fun h' hag I M n w cargs H hargs _ => ?_⟩
  have hag' : ∀ b ∈ rd ++ up.map (·.1), h' b = h b := hag
  have hlt : ∀ b ∈ rd ++ up.map (·.1), (∃ blk, h b = some blk) → b < n := fun b hb ⟨blk, hbk⟩ => H.lt ((hag' b hb).trans hbk)
  have hult : ∀ b ∈ up.map (·.1), b < n := fun b hb => hlt b (List.mem_append_right _ hb) (hup b hb)
  refine ((hH h' n hag' hlt).2 I M w cargs H hargs).mono fun e w' ⟨cv, v, I', M', h2, n2, he, ⟨hv0, heq⟩, hv, hh, hx, hnn, hfr⟩ => ?_
  subst hv0
  have hM : ∀ i, i < n → (if i < n then M' i else MS.fresh) = M' i := fun i hi => if_pos hi
  refine ⟨cv, I', fun i => if i < n then M' i else .fresh, he, ?_, ⟨hh.imm, fun i hi => if_neg (by omega), fun i hi => ?_, fun i A sz hm => ?_, fun i j A sz B sz' hi hj hb => ?_⟩,
    ⟨hx.os, hx.tape, hx.output, hx.size, hx.keep, hx.imm, fun i => ?_, hx.newI, fun b ⟨i, A, sz, hm, hb⟩ => ?_⟩, fun j _ hj => ?_⟩
  · obtain ⟨vs, rfl, h1, _⟩ := hv.tup_inv
    exact .pure _ _ (.tup _ _ h1 fun i x v hx => by simp at hx)
  · by_cases hin : i < n
    · rw [← heq i hin]
      exact hh.no i fun A sz hm => hi A sz (by simp only [if_pos hin]; exact hm)
    · show updH h' up i = none
      rw [updH_other up h' i fun hm => hin (hult i hm)]
      exact H.no i fun A sz hm => by rw [H.fr i (by omega)] at hm; cases hm
  · by_cases hin : i < n
    case neg => simp only [if_neg hin] at hm; cases hm
    simp only [if_pos hin] at hm
    obtain ⟨g1, g2, blk, c, el, g3, g4, g5, g6, g7, g8⟩ := hh.live i A sz hm
    refine ⟨g1, g2, blk, c, el, by rw [← g3]; exact (heq i hin).symm, g4, g5, g6, g7, fun j x u hx hu => ?_⟩
    have hxu := g8 j x u hx hu
    by_cases hiu : i ∈ up.map (·.1)
    · obtain ⟨blk', e1, e2⟩ := hfl i hiu h'
      have : blk' = blk := Option.some.inj (e1.symm.trans ((heq i hin).symm.trans g3))
      subst this
      exact .pure _ _ (flat1_rel ((List.all_eq_true.1 e2) x (List.mem_of_getElem? hx)) hxu)
    · have e0 : h' i = some blk := by rw [← g3, heq i hin, updH_other up h' i hiu]
      cases hmi : M i with
      | fresh => rw [H.no i (fun A sz h => by rw [hmi] at h; cases h)] at e0; cases e0
      | gone => rw [H.no i (fun A sz h => by rw [hmi] at h; cases h)] at e0; cases e0
      | live A' sz' =>
        obtain ⟨k1, k2, blk0, c0, el0, k3, k4, k5, k6, k7, k8⟩ := H.live i A' sz' hmi
        rw [e0] at k3
        cases k3
        have hjl : j < blk.length := (List.getElem?_eq_some_iff.1 hx).1
        have hc0 : c0.size = sz'.1 := congrArg Prod.fst k5
        exact (k8 j x (c0[A'.off + j]'(by omega)) hx (Array.getElem?_eq_getElem (by omega))).refit (fun i hi => by
          have : i < n := by
            rcases Nat.lt_or_ge i n with h | h
            · exact h
            · exact absurd (H.fr i h) hi
          exact hM i this) hxu
  · replace hi : (if i < n then M' i else MS.fresh) = .live A sz := hi
    replace hj : (if j < n then M' j else MS.fresh) = .live B sz' := hj
    split at hi
    · split at hj
      · exact hh.inj i j A sz B sz' hi hj hb
      · cases hj
    · cases hi
  · have := hx.mp i
    cases hmi : M i with
    | fresh => trivial
    | gone =>
      rw [hmi] at this
      have hin : i < n := by
        rcases Nat.lt_or_ge i n with h | h
        · exact h
        · rw [H.fr i h] at hmi; cases hmi
      simp only [if_pos hin]; exact this
    | live A sz =>
      rw [hmi] at this
      have hin : i < n := by
        rcases Nat.lt_or_ge i n with h | h
        · exact h
        · rw [H.fr i h] at hmi; cases hmi
      simp only [if_pos hin]; exact this
  · replace hm : (if i < n then M' i else MS.fresh) = .live A sz := hm
    split at hm
    · exact hx.newL b ⟨i, A, sz, hm, hb⟩
    · cases hm
  · show (if j < n then M' j else MS.fresh) = _
    split
    · rename_i hjn; exact hfr j hjn hj
    · rfl

/-- A call that makes two new rows. -/
theorem OLoc.of_new2 {cs : List AV} {e1 e2 l1 l2 s1 s2 : Nat} {B1 B2 : Blk} (hc : Callable P f) (hcs : cs.all (·.flat1) = true) (f1 : B1.all (·.flat1) = true) (f2 : B2.all (·.flat1) = true) (h1 : h e1 = none) (h2 : h e2 = none) (hne : e1 ≠ e2)
    (hH : ∀ h' n, HCalls P f args h' n (fun v h2 n2 => ∃ b1 b2, v = .agg (cs ++ [.own b1 0 l1 s1, .own b2 0 l2 s2]) ∧ h2 b1 = some B1 ∧ h2 b2 = some B2 ∧ n ≤ b1 ∧ n ≤ b2 ∧ b1 ≠ b2 ∧ ∀ j, j < n → h2 j = h' j)) :
    OLoc P f args h { v := .agg (cs ++ [.own e1 0 l1 s1, .own e2 0 l2 s2]), up := [(e1, some B1), (e2, some B2)] } := by
  refine ⟨hc, fun h' hag I M n w cargs H hargs hfresh => ?_⟩
  have a1 : h' e1 = none := (hag e1 (by simp)).trans h1
  have a2 : h' e2 = none := (hag e2 (by simp)).trans h2
  obtain ⟨m1, n1⟩ := hfresh e1 (by simp) a1
  obtain ⟨m2, n2⟩ := hfresh e2 (by simp) a2
  refine ((hH h' n).2 I M w cargs H hargs).mono fun e w' ⟨cv, v, I', M', g, n', he, ⟨b1, b2, hv0, g1, g2, hb1, hb2, hbb, heq⟩, hv, hh, hx, hnn, hfr⟩ => ?_
  subst hv0
  have live_of : ∀ b blk, g b = some blk → ∃ A sz, M' b = .live A sz := fun b blk hb => by
    cases hm : M' b with
    | live A sz => exact ⟨A, sz, rfl⟩
    | fresh => rw [hh.no b (fun A sz h => by rw [hm] at h; cases h)] at hb; cases hb
    | gone => rw [hh.no b (fun A sz h => by rw [hm] at h; cases h)] at hb; cases hb
  obtain ⟨A1, z1, L1⟩ := live_of b1 B1 g1
  obtain ⟨A2, z2, L2⟩ := live_of b2 B2 g2
  let R : Nat → Nat := fun i => if i = e1 then b1 else if i = e2 then b2 else i
  let M2 : Mp := fun i => if i < n then M' (R i) else .fresh
  have R1 : R e1 = b1 := if_pos rfl
  have R2 : R e2 = b2 := by show (if e2 = e1 then b1 else if e2 = e2 then b2 else e2) = b2; rw [if_neg (Ne.symm hne), if_pos rfl]
  have R0 : ∀ i, i ≠ e1 → i ≠ e2 → R i = i := fun i h h' => by simp only [R]; rw [if_neg h, if_neg h']
  have Mlt : ∀ i, i < n → M2 i = M' (R i) := fun i hi => if_pos hi
  have Mge : ∀ i, n ≤ i → M2 i = .fresh := fun i hi => if_neg (by omega)
  have M1 : M2 e1 = M' b1 := by rw [Mlt e1 n1, R1]
  have M22 : M2 e2 = M' b2 := by rw [Mlt e2 n2, R2]
  have Mold : ∀ i, M i ≠ .fresh → M2 i = M' i := fun i hi => by
    have hin : i < n := by
      rcases Nat.lt_or_ge i n with h | h
      · exact h
      · exact absurd (H.fr i h) hi
    rw [Mlt i hin, R0 i (fun h => hi (h ▸ m1)) (fun h => hi (h ▸ m2))]
  have upd : ∀ i, i ≠ e1 → i ≠ e2 → updH h' [(e1, some B1), (e2, some B2)] i = h' i := fun i h h' => by simp only [updH]; rw [if_neg h', if_neg h]
  have upd1 : updH h' [(e1, some B1), (e2, some B2)] e1 = some B1 := by show (if e1 = e2 then some B2 else if e1 = e1 then some B1 else h' e1) = _; rw [if_neg hne, if_pos rfl]
  have upd2 : updH h' [(e1, some B1), (e2, some B2)] e2 = some B2 := by show (if e2 = e2 then some B2 else _) = _; rw [if_pos rfl]
  have cellsOk : ∀ b blk, blk.all (·.flat1) = true → g b = some blk → ∀ A sz, M' b = .live A sz → A.spot = none ∧ I' A.block = none ∧ ∃ blk' c el, some blk = some blk' ∧ w'.heap[A.block]? = some (.cells c el (0, 0)) ∧ (c.size, el) = sz ∧
      A.off + blk'.length ≤ sz.1 ∧ blk'.all (·.single) = true ∧ ∀ (j : Nat) x v, blk'[j]? = some x → c[A.off + j]? = some v → VRel I' M2 x v := fun b blk hfl hb A sz hm => by
    obtain ⟨k1, k2, blk', c, el, k3, k4, k5, k6, k7, k8⟩ := hh.live b A sz hm
    rw [hb] at k3
    cases k3
    exact ⟨k1, k2, blk, c, el, rfl, k4, k5, k6, k7, fun j x u hx hu => .pure _ _ (flat1_rel ((List.all_eq_true.1 hfl) x (List.mem_of_getElem? hx)) (k8 j x u hx hu))⟩
  refine ⟨cv, I', M2, he, ?_, ⟨hh.imm, Mge, fun i hi => ?_, fun i A sz hm => ?_, fun i j A sz B sz' hi hj hb => ?_⟩,
    ⟨hx.os, hx.tape, hx.output, hx.size, hx.keep, hx.imm, fun i => ?_, hx.newI, fun b ⟨i, A, sz, hm, hb⟩ => ?_⟩, fun j hju hj => ?_⟩
  · obtain ⟨vs, rfl, s1', s2'⟩ := hv.agg_inv
    refine .agg _ _ (by simpa using s1') fun i x u hx hu => ?_
    by_cases hi : i < cs.length
    · rw [List.getElem?_append_left hi] at hx
      have := s2' i x u (by rw [List.getElem?_append_left hi]; exact hx) hu
      exact .pure _ _ (flat1_rel ((List.all_eq_true.1 hcs) x (List.mem_of_getElem? hx)) this)
    · rw [List.getElem?_append_right (by omega)] at hx
      have h3 : ∀ y, [AV.own b1 0 l1 s1, AV.own b2 0 l2 s2][i - cs.length]? = some y → VRel I' M' y u := fun y hy => s2' i y u (by rw [List.getElem?_append_right (by omega)]; exact hy) hu
      match hk : i - cs.length with
      | 0 =>
        rw [hk] at hx h3
        simp at hx
        subst hx
        obtain ⟨A', cap', rfl, q1, q2, q3⟩ := (h3 _ rfl).own_inv
        rw [← M1] at q3
        exact .own_mk q1 q2 q3
      | 1 =>
        rw [hk] at hx h3
        simp at hx
        subst hx
        obtain ⟨A', cap', rfl, q1, q2, q3⟩ := (h3 _ rfl).own_inv
        rw [← M22] at q3
        exact .own_mk q1 q2 q3
      | k + 2 => rw [hk] at hx; simp at hx
  · by_cases i1 : i = e1
    · subst i1; exact absurd (M1.trans L1) (hi A1 z1)
    by_cases i2 : i = e2
    · subst i2; exact absurd (M22.trans L2) (hi A2 z2)
    rw [upd i i1 i2]
    by_cases hin : i < n
    · rw [← heq i hin]
      exact hh.no i fun A sz hm => hi A sz (by rw [Mlt i hin, R0 i i1 i2]; exact hm)
    · exact H.no i fun A sz hm => by rw [H.fr i (by omega)] at hm; cases hm
  · by_cases i1 : i = e1
    · subst i1
      rw [upd1]
      exact cellsOk b1 B1 f1 g1 A sz (M1 ▸ hm)
    by_cases i2 : i = e2
    · subst i2
      rw [upd2]
      exact cellsOk b2 B2 f2 g2 A sz (M22 ▸ hm)
    rw [upd i i1 i2]
    have hin : i < n := by
      rcases Nat.lt_or_ge i n with h | h
      · exact h
      · rw [Mge i h] at hm; cases hm
    rw [Mlt i hin, R0 i i1 i2] at hm
    obtain ⟨k1, k2, blk, c, el, k3, k4, k5, k6, k7, k8⟩ := hh.live i A sz hm
    have e0 : h' i = some blk := (heq i hin).symm.trans k3
    refine ⟨k1, k2, blk, c, el, e0, k4, k5, k6, k7, fun j x u hx hu => ?_⟩
    cases hmi : M i with
    | fresh => rw [H.no i (fun A sz h => by rw [hmi] at h; cases h)] at e0; cases e0
    | gone => rw [H.no i (fun A sz h => by rw [hmi] at h; cases h)] at e0; cases e0
    | live A' sz' =>
      obtain ⟨q1, q2, blk0, c0, el0, q3, q4, q5, q6, q7, q8⟩ := H.live i A' sz' hmi
      rw [e0] at q3
      cases q3
      have hjl : j < blk.length := (List.getElem?_eq_some_iff.1 hx).1
      have hc0 : c0.size = sz'.1 := congrArg Prod.fst q5
      exact (q8 j x (c0[A'.off + j]'(by omega)) hx (Array.getElem?_eq_getElem (by omega))).refit Mold (k8 j x u hx hu)
  · have hin : i < n := by
      rcases Nat.lt_or_ge i n with h | h
      · exact h
      · rw [Mge i h] at hi; cases hi
    have hjn : j < n := by
      rcases Nat.lt_or_ge j n with h | h
      · exact h
      · rw [Mge j h] at hj; cases hj
    rw [Mlt i hin] at hi
    rw [Mlt j hjn] at hj
    have hR := hh.inj _ _ A sz B sz' hi hj hb
    simp only [R] at hR
    split at hR <;> split at hR <;> first | omega | (split at hR <;> first | omega | (split at hR <;> omega))
  · have := hx.mp i
    cases hmi : M i with
    | fresh => trivial
    | gone => rw [hmi] at this; simp only at this ⊢; rw [Mold i (by rw [hmi]; exact fun h => by cases h)]; exact this
    | live A sz => rw [hmi] at this; simp only at this ⊢; rw [Mold i (by rw [hmi]; exact fun h => by cases h)]; exact this
  · have hin : i < n := by
      rcases Nat.lt_or_ge i n with h | h
      · exact h
      · rw [Mge i h] at hm; cases hm
    rw [Mlt i hin] at hm
    exact hx.newL b ⟨_, A, sz, hm, hb⟩
  · simp at hju
    by_cases hjn : j < n
    · rw [Mlt j hjn, R0 j hju.1 hju.2]; exact hfr j hjn hj
    · exact Mge j (by omega)
end
end Go.Ab

set_option linter.unusedVariables false
set_option linter.unusedSimpArgs false
set_option maxRecDepth 10000
namespace Go.Proofs.YtopmghclhgihfaaGreatDoor
open Go Go.Ab Go.Num

/-- More sent to a place. -/
def zsend (Z : List (Rat × Bool)) (a : Nat) (x : Rat) : List (Rat × Bool) := Z.set a ((Z.getD a (0, true)).1 + x, false)
theorem zsend_len (Z : List (Rat × Bool)) (a : Nat) (x : Rat) : (zsend Z a x).length = Z.length := by simp [zsend]
theorem zsend_fst {Z : List (Rat × Bool)} {a : Nat} (ha : a < Z.length) (x : Rat) : (zsend Z a x).map (·.1) = bump (Z.map (·.1)) a x := by
  unfold zsend bump
  rw [List.map_set, show (Z.map (·.1)).getD a 0 = (Z.getD a (0, true)).1 by simp [ha]]
theorem zsend_ok {Z : List (Rat × Bool)} (h : okB Z) (a : Nat) (x : Rat) : okB (zsend Z a x) := fun p hp ht => by
  rcases List.mem_or_eq_of_mem_set hp with h1 | h1
  · exact h p h1 ht
  · subst h1; cases ht
theorem getD_okB {Z : List (Rat × Bool)} (h : okB Z) {a : Nat} (ha : a < Z.length) : (Z.getD a (0, true)).2 = true → (Z.getD a (0, true)).1 = 0 := h _ (by
  rw [show Z.getD a (0, true) = Z[a] by simp [ha]]; exact List.getElem_mem _)
theorem flat_set (Z : List (Rat × Bool)) : (flatC encB Z).all (·.flat1) = true := flatC_flat elt_b Z

set_option maxRecDepth 20000 in
set_option maxHeartbeats 1000000 in
theorem c_send (b c : Nat) (Z : List (Rat × Bool)) (a : Nat) (f : Fr) (x0 x1 x2 x3 x4 x6 x7 x8 x9 x10 : AV) (h : Heap) (n : Nat) (hb : h b = some [x0, x1, x2, x3, x4, .own c 0 Z.length 3, x6, x7, x8, x9, x10]) (hc : h c = some (flatC encB Z)) (hbn : b < n) (hcn : c < n) (hbc : b ≠ c)
    (ha : a < Z.length) (hz : okB Z) (hs : qw (Z.getD a (0, true)).1 ≤ 15000) (hf : okR 15000 f) :
    HCalls Tryz.prog 41 [.ptr b 0, .int .i64 a, encR f] h n (fun v h' n' => v = .tup [] ∧ h' c = some (flatC encB (zsend Z a (rv f))) ∧ ∀ j, j < n → j ≠ c → h' j = h j) := by
  have hadd0 : PCalls Tryz.prog 38 [encB (Z.getD a (0, true)), encR f] (encQ ((Z.getD a (0, true)).1 + rv f)) := by
    have h1 := c_fadd (frB (Z.getD a (0, true))) f (ok_b (by omega)) (hf.mono (by omega))
    rw [rv_b (getD_okB hz ha)] at h1
    exact h1.args_le (.cons (le_b _) (.cons (AV.le_refl _) .nil))
  have gb := get_b ha
  have hset := lay_b ha ((Z.getD a (0, true)).1 + rv f)
  have lz := len_b Z
  have la : a * 3 ≤ Z.length * 3 := by omega
  have le : a * 3 + 3 ≤ Z.length * 3 := by omega
  have ha' : ((a : Nat) : Int) < (Z.length : Nat) := by omega
  have h0a : (0 : Int) ≤ (a : Nat) := by omega
  have hset' : (flatC encB Z).take (a * 3) ++ [.bool (cq ((Z.getD a (0, true)).1 + rv f)).neg, encW (cq ((Z.getD a (0, true)).1 + rv f)).n, encW (cq ((Z.getD a (0, true)).1 + rv f)).d] ++ (flatC encB Z).drop (a * 3 + 3) = flatC encB (zsend Z a (rv f)) := hset
  generalize hp : Z.getD a (0, true) = p at *
  obtain ⟨q, fl⟩ := p
  cases fl with
  | true =>
    simp only [encB, if_true, Bool.false_eq_true, if_false, encQ, encR, encW] at hadd0 gb
    refine hcalls_of_AWR (pa := []) (fn := Tryz.f41) (rs := []) follows_mixed Tryz.func41 rfl rfl (by kernel_rfl) (by kernel_rfl) (by rw [Tryz.ntmps41]; simp) ?_
    simp only [go_sem, ↓reduceIte, encR, encW, hb, hc, upd1_old _ _ _ _ _ hbn, upd1_old0 _ _ _ _ hbn, upd1_old _ _ _ _ _ hcn, upd1_old0 _ _ _ _ hcn, old_ne hbn, new_ne hbn, old_ne hcn, new_ne hcn, old_ne0 hcn, new_ne0 hcn, ha', h0a, gb, lz, la, le]
    refine callD_p hadd0 ?_
    simp only [go_sem, ↓reduceIte, encR, encW, hb, hc, upd1_old _ _ _ _ _ hbn, upd1_old0 _ _ _ _ hbn, upd1_old _ _ _ _ _ hcn, upd1_old0 _ _ _ _ hcn, old_ne hbn, new_ne hbn, old_ne hcn, new_ne hcn, old_ne0 hcn, new_ne0 hcn, ha', h0a, gb, lz, la, le]
    refine .mk (.tup []) (by simp only [go_sem, ↓reduceIte, resR, resAll, resA] <;> rfl) ⟨rfl, by simp only [go_sem, ↓reduceIte]; exact congrArg some hset', fun j hj hjc => by simp only [go_sem, ↓reduceIte, upd1_old _ _ _ _ _ hj, upd1_old0 _ _ _ _ hj, upd1_nei hjc]⟩
  | false =>
    simp only [encB, if_true, Bool.false_eq_true, if_false, encQ, encR, encW] at hadd0 gb
    refine hcalls_of_AWR (pa := []) (fn := Tryz.f41) (rs := []) follows_mixed Tryz.func41 rfl rfl (by kernel_rfl) (by kernel_rfl) (by rw [Tryz.ntmps41]; simp) ?_
    simp only [go_sem, ↓reduceIte, encR, encW, hb, hc, upd1_old _ _ _ _ _ hbn, upd1_old0 _ _ _ _ hbn, upd1_old _ _ _ _ _ hcn, upd1_old0 _ _ _ _ hcn, old_ne hbn, new_ne hbn, old_ne hcn, new_ne hcn, old_ne0 hcn, new_ne0 hcn, ha', h0a, gb, lz, la, le]
    refine callD_p hadd0 ?_
    simp only [go_sem, ↓reduceIte, encR, encW, hb, hc, upd1_old _ _ _ _ _ hbn, upd1_old0 _ _ _ _ hbn, upd1_old _ _ _ _ _ hcn, upd1_old0 _ _ _ _ hcn, old_ne hbn, new_ne hbn, old_ne hcn, new_ne hcn, old_ne0 hcn, new_ne0 hcn, ha', h0a, gb, lz, la, le]
    refine .mk (.tup []) (by simp only [go_sem, ↓reduceIte, resR, resAll, resA] <;> rfl) ⟨rfl, by simp only [go_sem, ↓reduceIte]; exact congrArg some hset', fun j hj hjc => by simp only [go_sem, ↓reduceIte, upd1_old _ _ _ _ _ hj, upd1_old0 _ _ _ _ hj, upd1_nei hjc]⟩
end Go.Proofs.YtopmghclhgihfaaGreatDoor

set_option linter.unusedVariables false
set_option linter.unusedSimpArgs false
set_option maxRecDepth 10000
namespace Go.Proofs.YtopmghclhgihfaaGreatDoor
open Go Go.Ab Go.Num

theorem oloc_send (b c : Nat) (Z : List (Rat × Bool)) (a : Nat) (f : Fr) (x0 x1 x2 x3 x4 x6 x7 x8 x9 x10 : AV) (h : Heap) (hb : h b = some [x0, x1, x2, x3, x4, .own c 0 Z.length 3, x6, x7, x8, x9, x10]) (hc : h c = some (flatC encB Z)) (hbc : b ≠ c)
    (ha : a < Z.length) (hz : okB Z) (hs : qw (Z.getD a (0, true)).1 ≤ 15000) (hf : okR 15000 f) :
    OLoc Tryz.prog 41 [.ptr b 0, .int .i64 a, encR f] h { v := .tup [], up := [(c, some (flatC encB (zsend Z a (rv f))))], rd := [b] } := by
  refine OLoc.of_eff (c_send b c Z a f x0 x1 x2 x3 x4 x6 x7 x8 x9 x10 h (b + c + 1) hb hc (by omega) (by omega) hbc ha hz hs hf).1 (fun x hx => ?_) (fun x hx g => ?_) fun h' n hag hlt => ?_
  · simp only [List.map_cons, List.map_nil, List.mem_singleton] at hx; subst hx; exact ⟨_, hc⟩
  · simp only [List.map_cons, List.map_nil, List.mem_singleton] at hx; subst hx
    exact ⟨flatC encB (zsend Z a (rv f)), by simp only [updH, if_true], flat_set _⟩
  · have H := c_send b c Z a f x0 x1 x2 x3 x4 x6 x7 x8 x9 x10 h' n ((hag b (by simp)).trans hb) ((hag c (by simp)).trans hc) (hlt b (by simp) ⟨_, hb⟩) (hlt c (by simp) ⟨_, hc⟩) hbc ha hz hs hf
    exact ⟨H.1, fun I M w cargs hr hargs => (H.2 I M w cargs hr hargs).mono fun e w' ⟨cv, v, I', M', h2, n2, he, ⟨hv, h3, h4⟩, hvr, hh, hx, hnn, hfr⟩ => ⟨cv, v, I', M', h2, n2, he, ⟨hv, fun j hj => by
      by_cases hjc : j = c
      · subst hjc; rw [h3]; simp only [updH, if_true]
      · rw [h4 j hj hjc]; simp only [updH]; rw [if_neg hjc]⟩, hvr, hh, hx, hnn, hfr⟩⟩
theorem newOk_one {lo hi : Nat} {h : Heap} {log : List (Nat × Out)} {c : Nat} {blk blk' : Blk} {v : AV} {rd : List Nat} (hc : h c = some blk) : newOk lo hi h log { v, up := [(c, some blk')], rd } := fun e he hn => by
  simp only [List.map_cons, List.map_nil, List.mem_singleton] at he
  subst he
  rw [hc] at hn; cases hn

/-- The way back's own rows, where they lie. -/
structure BkH (h : Heap) (b c y p : Nat) (t : Tp) (D : List Rat) (S : Bk) (Z : List (Rat × Bool)) : Prop where
  hb : h b = some [.sl 6 (t.code.map encI), .sl 1 (t.outs.map i64), .int .i64 t.dim, .int .i64 t.par, .sl 3 (D.map encQ), .own c 0 Z.length 3, .bool (cq S.t).neg, encW (cq S.t).n, encW (cq S.t).d, .own y 0 S.y.length 3, .own p 0 S.p.length 3]
  hc : h c = some (flatC encB Z)
  hy : h y = some (flatC encQ S.y)
  hp : h p = some (flatC encQ S.p)
  co : Z.map (·.1) = S.co
  ok : okB Z
  bc : b ≠ c
  bY : b ≠ y
  bP : b ≠ p
  cY : c ≠ y
  cP : c ≠ p
  yP : y ≠ p
/-- What a step on the way back leaves. -/
def BkPost (h : Heap) (n b c y p : Nat) (t : Tp) (D : List Rat) (S : Bk) (v : AV) (h' : Heap) (n' : Nat) : Prop := v = .tup [] ∧ (∃ Z, BkH h' b c y p t D S Z) ∧ ∀ j, j < n → j ≠ b → j ≠ c → j ≠ y → j ≠ p → h' j = h j

section
variable (b c : Nat) (Z : List (Rat × Bool)) (D : List Rat) (i : Ins) (x0 x1 x2 x3 x6 x7 x8 x9 x10 : AV) (h : Heap) (n : Nat)
set_option maxRecDepth 20000 in
set_option maxHeartbeats 1000000 in
theorem c_bquo (q r : Rat) (hb : h b = some [x0, x1, x2, x3, .sl 3 (D.map encQ), .own c 0 Z.length 3, x6, x7, x8, x9, x10]) (hc : h c = some (flatC encB Z)) (hbn : b < n) (hcn : c < n) (hbc : b ≠ c)
    (a0 : 0 ≤ i.a) (a1 : i.a.toNat < Z.length) (b0 : 0 ≤ i.b) (b1 : i.b.toNat < Z.length) (hD : D.length = Z.length) (hz : okB Z) (hs : ∀ p ∈ Z, qw p.1 ≤ 14000) (hq : qw q ≤ 50) (hr : qw r ≤ 50) (hd : ∀ x ∈ D, qw x ≤ 50) :
    HCalls Tryz.prog 74 [.ptr b 0, encI i, encQ q, encQ r] h n (fun v h' n' => v = .tup [] ∧ h' c = some (flatC encB (zsend (zsend Z i.a.toNat (q / D.getD i.b.toNat 0)) i.b.toNat (-(q / D.getD i.b.toNat 0 * r)))) ∧ ∀ j, j < n → j ≠ c → h' j = h j) := by
  have b1' : i.b.toNat < D.length := by omega
  have b2 : i.b < (D.length : Nat) := by omega
  have gd : (D.map encQ).getD i.b.toNat .undef = encQ (D.getD i.b.toNat 0) := by simp [List.getD, b1']
  have zd := hd _ (show D.getD i.b.toNat 0 ∈ D by rw [show D.getD i.b.toNat 0 = D[i.b.toNat] by simp [b1']]; exact List.getElem_mem _)
  have z1 := qw_div q (D.getD i.b.toNat 0)
  have z2 := qw_mul (q / D.getD i.b.toNat 0) r
  have z3 := qw_neg (q / D.getD i.b.toNat 0 * r)
  have hc1 := c_qquo (a := q) (b := D.getD i.b.toNat 0) (by omega) (by omega)
  have hc2 := c_qmul (a := q / D.getD i.b.toNat 0) (b := r) (by omega) (by omega)
  have hc3 := c_qneg (a := q / D.getD i.b.toNat 0 * r) (by omega)
  have gz : ∀ k, k < Z.length → qw (Z.getD k (0, true)).1 ≤ 14000 := fun k hk => hs _ (by rw [show Z.getD k (0, true) = Z[k] by simp [hk]]; exact List.getElem_mem _)
  have ga := gz _ a1
  have hsend := fun H N e1 e2 e3 e4 => c_send b c Z i.a.toNat (cq (q / D.getD i.b.toNat 0)) x0 x1 x2 x3 (.sl 3 (D.map encQ)) x6 x7 x8 x9 x10 H N e1 e2 e3 e4 hbc a1 hz (by omega) (okR_cq (by omega))
  have gz2 : qw ((zsend Z i.a.toNat (q / D.getD i.b.toNat 0)).getD i.b.toNat (0, true)).1 ≤ 15000 := by
    have g1 := gz _ b1
    by_cases e : i.a.toNat = i.b.toNat
    · have := qw_add (Z.getD i.a.toNat (0, true)).1 (q / D.getD i.b.toNat 0)
      have e2 : (zsend Z i.a.toNat (q / D.getD i.b.toNat 0)).getD i.b.toNat (0, true) = ((Z.getD i.a.toNat (0, true)).1 + q / D.getD i.b.toNat 0, false) := by
        rw [← e]; simp [zsend, a1]
      rw [e2]; simp only; omega
    · have e2 : (zsend Z i.a.toNat (q / D.getD i.b.toNat 0)).getD i.b.toNat (0, true) = Z.getD i.b.toNat (0, true) := by
        simp [zsend, List.getD_eq_getElem?_getD, List.getElem?_set, e]
      rw [e2]; omega
  have hsend2 := fun H e1 e2 => oloc_send b c (zsend Z i.a.toNat (q / D.getD i.b.toNat 0)) i.b.toNat (cq (-(q / D.getD i.b.toNat 0 * r))) x0 x1 x2 x3 (.sl 3 (D.map encQ)) x6 x7 x8 x9 x10 H e1 e2 hbc (by rw [zsend_len]; exact b1) (zsend_ok hz _ _) gz2 (okR_cq (by omega))
  rw [show ((i.a.toNat : Nat) : Int) = i.a by omega] at hsend
  rw [show ((i.b.toNat : Nat) : Int) = i.b by omega] at hsend2
  simp only [rv_cq, zsend_len] at hsend hsend2
  simp only [encQ, encR, encW] at hc1 hc2 hc3 hsend hsend2 gd
  refine hcalls_of_AWR (pa := []) (fn := Tryz.f74) (rs := []) follows_mixed Tryz.func74 rfl rfl (by kernel_rfl) (by kernel_rfl) (by rw [Tryz.ntmps74]; simp) ?_
  simp only [go_sem, ↓reduceIte, encI, encQ, encR, encW, hb, hc, gd, b0, b2, upd1_old _ _ _ _ _ hbn, upd1_old0 _ _ _ _ hbn, upd1_old _ _ _ _ _ hcn, upd1_old0 _ _ _ _ hcn, old_ne hbn, new_ne hbn, old_ne hcn, new_ne hcn, old_ne0 hcn, new_ne0 hcn]
  refine callD_p hc1 ?_
  simp only [go_sem, ↓reduceIte, encI, encQ, encR, encW, hb, hc, gd, b0, b2, upd1_old _ _ _ _ _ hbn, upd1_old0 _ _ _ _ hbn, upd1_old _ _ _ _ _ hcn, upd1_old0 _ _ _ _ hcn, old_ne hbn, new_ne hbn, old_ne hcn, new_ne hcn, old_ne0 hcn, new_ne0 hcn]
  refine callS_h (hsend _ _ (by simp only [go_sem, ↓reduceIte, hb, upd1_old _ _ _ _ _ hbn, upd1_old0 _ _ _ _ hbn, upd1_old _ _ _ _ _ hcn, upd1_old0 _ _ _ _ hcn, old_ne hbn, new_ne hbn, old_ne hcn, new_ne hcn, old_ne0 hcn, new_ne0 hcn]) (by simp only [go_sem, ↓reduceIte, hc, upd1_old _ _ _ _ _ hbn, upd1_old0 _ _ _ _ hbn, upd1_old _ _ _ _ _ hcn, upd1_old0 _ _ _ _ hcn, old_ne hbn, new_ne hbn, old_ne hcn, new_ne hcn, old_ne0 hcn, new_ne0 hcn]) (by simp only [go_sem, ↓reduceIte]; omega) (by simp only [go_sem, ↓reduceIte]; omega)) ?_
  rintro v h1 n1 hn1 ⟨rfl, hc', hk⟩
  simp only [go_sem, ↓reduceIte] at hn1 hk
  have kb : h1 b = some [x0, x1, x2, x3, .sl 3 (D.map encQ), .own c 0 Z.length 3, x6, x7, x8, x9, x10] := by rw [hk b (by omega) hbc]; simp only [go_sem, ↓reduceIte, hb, upd1_old _ _ _ _ _ hbn, upd1_old0 _ _ _ _ hbn, upd1_old _ _ _ _ _ hcn, upd1_old0 _ _ _ _ hcn, old_ne hbn, new_ne hbn, old_ne hcn, new_ne hcn, old_ne0 hcn, new_ne0 hcn]
  have k0 := hk n (by omega) (by omega)
  have k1 := hk (n + 1) (by omega) (by omega)
  have k2 := hk (n + 2) (by omega) (by omega)
  have k16 := hk (n + 16) (by omega) (by omega)
  have kk : ∀ j, j < n → j ≠ c → h1 j = h j := fun j hj hjc => by rw [hk j (by omega) hjc]; simp only [go_sem, ↓reduceIte, upd1_old _ _ _ _ _ hj, upd1_old0 _ _ _ _ hj]
  clear hk
  simp only [go_sem, ↓reduceIte] at k0 k1 k2 k16
  have hcn1 : c < n1 := by omega
  simp only [go_sem, ↓reduceIte, encI, encW, kb, hc', k0, k1, k2, k16, b0, b2]
  refine callD_p hc2 ?_
  simp only [go_sem, ↓reduceIte, kb, hc', k0, k1, k2, k16]
  refine callD_p hc3 ?_
  simp only [go_sem, ↓reduceIte, kb, hc', k0, k1, k2, k16]
  refine callD_o (hsend2 _ (by simp only [go_sem, ↓reduceIte, kb]) (by simp only [go_sem, ↓reduceIte, hc'])) rfl ?_ (newOk_one (blk := flatC encB (zsend Z i.a.toNat (q / D.getD i.b.toNat 0))) (by simp only [go_sem, ↓reduceIte, hc'])) ?_
  · simp only [go_sem, ↓reduceIte, hbc, Ne.symm hbc, show ¬ c = n by omega, show ¬ c = n + 1 by omega, show ¬ c = n + 2 by omega, show ¬ c = n + 16 by omega, show ¬ n = c by omega, show ¬ n + 1 = c by omega, show ¬ n + 2 = c by omega, show ¬ n + 16 = c by omega]
  · simp only [go_sem, ↓reduceIte]
    refine .mk (.tup []) (by simp only [go_sem, ↓reduceIte, resR, resAll, resA] <;> rfl) ⟨rfl, by simp only [go_sem, ↓reduceIte], fun j hj hjc => by simp only [go_sem, ↓reduceIte, upd1_nei hjc]; exact kk j hj hjc⟩

set_option maxRecDepth 20000 in
set_option maxHeartbeats 2000000 in
theorem c_bpow (q r : Rat) (hb : h b = some [x0, x1, x2, x3, .sl 3 (D.map encQ), .own c 0 Z.length 3, x6, x7, x8, x9, x10]) (hc : h c = some (flatC encB Z)) (hbn : b < n) (hcn : c < n) (hbc : b ≠ c)
    (a0 : 0 ≤ i.a) (a1 : i.a.toNat < Z.length) (e1 : -8 ≤ i.b) (e2 : i.b ≤ 8) (hD : D.length = Z.length) (hz : okB Z) (hs : ∀ p ∈ Z, qw p.1 ≤ 14000) (hq : qw q ≤ 50) (hr : qw r ≤ 50) (hd : ∀ x ∈ D, qw x ≤ 50) :
    HCalls Tryz.prog 75 [.ptr b 0, encI i, encQ q, encQ r] h n (fun v h' n' => v = .tup [] ∧ h' c = some (flatC encB (zsend Z i.a.toNat (q * ((i.b : Rat) * turnQ (D.getD i.a.toNat 0) i.b r)))) ∧ ∀ j, j < n → j ≠ c → h' j = h j) := by
  have a1' : i.a.toNat < D.length := by omega
  have a2 : i.a < (D.length : Nat) := by omega
  have gd : (D.map encQ).getD i.a.toNat .undef = encQ (D.getD i.a.toNat 0) := by simp [List.getD, a1']
  have zd := hd _ (show D.getD i.a.toNat 0 ∈ D by rw [show D.getD i.a.toNat 0 = D[i.a.toNat] by simp [a1']]; exact List.getElem_mem _)
  generalize D.getD i.a.toNat 0 = d at *
  have ga : qw (Z.getD i.a.toNat (0, true)).1 ≤ 14000 := hs _ (by rw [show Z.getD i.a.toNat (0, true) = Z[i.a.toNat] by simp [a1]]; exact List.getElem_mem _)
  have hp := qw_pos d
  have z1 := turn_size d i.b r (by omega) (k := 50) (by omega) (by omega) (by omega)
  have z2 := qw_of i.b (by omega)
  have z3 := qw_mul (i.b : Rat) (turnQ d i.b r)
  have z4 := qw_mul q ((i.b : Rat) * turnQ d i.b r)
  have hc0 := c_q0
  have hc2 := c_fof i.b (by omega) (by omega)
  have hc3 := c_qmul (a := (i.b : Rat)) (b := turnQ d i.b r) (by omega) (by omega)
  have hc4 := c_qmul (a := q) (b := (i.b : Rat) * turnQ d i.b r) (by omega) (by omega)
  have hsend := fun H e1 e2 => oloc_send b c Z i.a.toNat (cq (q * ((i.b : Rat) * turnQ d i.b r))) x0 x1 x2 x3 (.sl 3 (D.map encQ)) x6 x7 x8 x9 x10 H e1 e2 hbc a1 hz (by omega) (okR_cq (by omega))
  rw [show ((i.a.toNat : Nat) : Int) = i.a by omega] at hsend
  simp only [rv_cq] at hsend
  simp only [encQ, encR, encW] at hc0 hc2 hc3 hc4 hsend gd
  by_cases pe : 0 < i.b
  · have et : turnQ d i.b r = powQ d (i.b - 1) := by rw [turnQ, if_pos pe]
    have h5 := c_qpow (a := d) (e := i.b - 1) (by omega) (by omega) (by omega) (fun h => by omega)
    have w1 : IntKind.i64.wrap (i.b - 1) = i.b - 1 := wrap64_id (by omega) (by omega)
    rw [et] at hc3 hc4 hsend ⊢
    simp only [encQ, encR, encW] at h5
    refine hcalls_of_AWR (pa := []) (fn := Tryz.f75) (rs := []) follows_mixed Tryz.func75 rfl rfl (by kernel_rfl) (by kernel_rfl) (by rw [Tryz.ntmps75]; simp) ?_
    simp only [go_sem, ↓reduceIte, encI, encQ, encR, encW]
    refine callS_p hc0 ?_
    simp only [go_sem, ↓reduceIte, encI, encQ, encR, encW, hb, hc, gd, a0, a2, dec_true pe, w1, upd1_old _ _ _ _ _ hbn, upd1_old0 _ _ _ _ hbn, upd1_old _ _ _ _ _ hcn, upd1_old0 _ _ _ _ hcn, old_ne hbn, new_ne hbn, old_ne hcn, new_ne hcn, old_ne0 hcn, new_ne0 hcn]
    refine callD_p h5 ?_
    simp only [go_sem, ↓reduceIte, encI, encQ, encR, encW, hb, hc, gd, a0, a2, dec_true pe, w1, upd1_old _ _ _ _ _ hbn, upd1_old0 _ _ _ _ hbn, upd1_old _ _ _ _ _ hcn, upd1_old0 _ _ _ _ hcn, old_ne hbn, new_ne hbn, old_ne hcn, new_ne hcn, old_ne0 hcn, new_ne0 hcn]
    refine callD_p hc2 ?_
    simp only [go_sem, ↓reduceIte, encI, encQ, encR, encW, hb, hc, gd, a0, a2, upd1_old _ _ _ _ _ hbn, upd1_old0 _ _ _ _ hbn, upd1_old _ _ _ _ _ hcn, upd1_old0 _ _ _ _ hcn, old_ne hbn, new_ne hbn, old_ne hcn, new_ne hcn, old_ne0 hcn, new_ne0 hcn]
    refine callD_p hc3 ?_
    simp only [go_sem, ↓reduceIte, encI, encQ, encR, encW, hb, hc, gd, a0, a2, upd1_old _ _ _ _ _ hbn, upd1_old0 _ _ _ _ hbn, upd1_old _ _ _ _ _ hcn, upd1_old0 _ _ _ _ hcn, old_ne hbn, new_ne hbn, old_ne hcn, new_ne hcn, old_ne0 hcn, new_ne0 hcn]
    refine callD_p hc4 ?_
    simp only [go_sem, ↓reduceIte, encI, encQ, encR, encW, hb, hc, gd, a0, a2, upd1_old _ _ _ _ _ hbn, upd1_old0 _ _ _ _ hbn, upd1_old _ _ _ _ _ hcn, upd1_old0 _ _ _ _ hcn, old_ne hbn, new_ne hbn, old_ne hcn, new_ne hcn, old_ne0 hcn, new_ne0 hcn]
    refine callD_o (hsend _ (by simp only [go_sem, ↓reduceIte, hb, upd1_old _ _ _ _ _ hbn, upd1_old0 _ _ _ _ hbn, upd1_old _ _ _ _ _ hcn, upd1_old0 _ _ _ _ hcn, old_ne hbn, new_ne hbn, old_ne hcn, new_ne hcn, old_ne0 hcn, new_ne0 hcn]) (by simp only [go_sem, ↓reduceIte, hc, upd1_old _ _ _ _ _ hbn, upd1_old0 _ _ _ _ hbn, upd1_old _ _ _ _ _ hcn, upd1_old0 _ _ _ _ hcn, old_ne hbn, new_ne hbn, old_ne hcn, new_ne hcn, old_ne0 hcn, new_ne0 hcn])) rfl ?_ (newOk_one (blk := flatC encB Z) (by simp only [go_sem, ↓reduceIte, hc, upd1_old _ _ _ _ _ hbn, upd1_old0 _ _ _ _ hbn, upd1_old _ _ _ _ _ hcn, upd1_old0 _ _ _ _ hcn, old_ne hbn, new_ne hbn, old_ne hcn, new_ne hcn, old_ne0 hcn, new_ne0 hcn])) ?_
    · simp only [go_sem, ↓reduceIte, hbc, Ne.symm hbc, upd1_old _ _ _ _ _ hbn, upd1_old0 _ _ _ _ hbn, upd1_old _ _ _ _ _ hcn, upd1_old0 _ _ _ _ hcn, old_ne hbn, new_ne hbn, old_ne hcn, new_ne hcn, old_ne0 hcn, new_ne0 hcn]
    · simp only [go_sem, ↓reduceIte]
      refine .mk (.tup []) (by simp only [go_sem, ↓reduceIte, resR, resAll, resA] <;> rfl) ⟨rfl, by simp only [go_sem, ↓reduceIte], fun j hj hjc => by simp only [go_sem, ↓reduceIte, upd1_nei hjc, upd1_old _ _ _ _ _ hj, upd1_old0 _ _ _ _ hj]⟩
  by_cases ne : i.b < 0
  · have et : turnQ d i.b r = r / d := by rw [turnQ, if_neg pe, if_pos ne]
    have h5 := c_qquo (a := r) (b := d) (by omega) (by omega)
    rw [et] at hc3 hc4 hsend ⊢
    simp only [encQ, encR, encW] at h5
    refine hcalls_of_AWR (pa := []) (fn := Tryz.f75) (rs := []) follows_mixed Tryz.func75 rfl rfl (by kernel_rfl) (by kernel_rfl) (by rw [Tryz.ntmps75]; simp) ?_
    simp only [go_sem, ↓reduceIte, encI, encQ, encR, encW]
    refine callS_p hc0 ?_
    simp only [go_sem, ↓reduceIte, encI, encQ, encR, encW, hb, hc, gd, a0, a2, dec_false pe, dec_true ne, upd1_old _ _ _ _ _ hbn, upd1_old0 _ _ _ _ hbn, upd1_old _ _ _ _ _ hcn, upd1_old0 _ _ _ _ hcn, old_ne hbn, new_ne hbn, old_ne hcn, new_ne hcn, old_ne0 hcn, new_ne0 hcn]
    refine callD_p h5 ?_
    simp only [go_sem, ↓reduceIte, encI, encQ, encR, encW, hb, hc, gd, a0, a2, dec_false pe, dec_true ne, upd1_old _ _ _ _ _ hbn, upd1_old0 _ _ _ _ hbn, upd1_old _ _ _ _ _ hcn, upd1_old0 _ _ _ _ hcn, old_ne hbn, new_ne hbn, old_ne hcn, new_ne hcn, old_ne0 hcn, new_ne0 hcn]
    refine callD_p hc2 ?_
    simp only [go_sem, ↓reduceIte, encI, encQ, encR, encW, hb, hc, gd, a0, a2, upd1_old _ _ _ _ _ hbn, upd1_old0 _ _ _ _ hbn, upd1_old _ _ _ _ _ hcn, upd1_old0 _ _ _ _ hcn, old_ne hbn, new_ne hbn, old_ne hcn, new_ne hcn, old_ne0 hcn, new_ne0 hcn]
    refine callD_p hc3 ?_
    simp only [go_sem, ↓reduceIte, encI, encQ, encR, encW, hb, hc, gd, a0, a2, upd1_old _ _ _ _ _ hbn, upd1_old0 _ _ _ _ hbn, upd1_old _ _ _ _ _ hcn, upd1_old0 _ _ _ _ hcn, old_ne hbn, new_ne hbn, old_ne hcn, new_ne hcn, old_ne0 hcn, new_ne0 hcn]
    refine callD_p hc4 ?_
    simp only [go_sem, ↓reduceIte, encI, encQ, encR, encW, hb, hc, gd, a0, a2, upd1_old _ _ _ _ _ hbn, upd1_old0 _ _ _ _ hbn, upd1_old _ _ _ _ _ hcn, upd1_old0 _ _ _ _ hcn, old_ne hbn, new_ne hbn, old_ne hcn, new_ne hcn, old_ne0 hcn, new_ne0 hcn]
    refine callD_o (hsend _ (by simp only [go_sem, ↓reduceIte, hb, upd1_old _ _ _ _ _ hbn, upd1_old0 _ _ _ _ hbn, upd1_old _ _ _ _ _ hcn, upd1_old0 _ _ _ _ hcn, old_ne hbn, new_ne hbn, old_ne hcn, new_ne hcn, old_ne0 hcn, new_ne0 hcn]) (by simp only [go_sem, ↓reduceIte, hc, upd1_old _ _ _ _ _ hbn, upd1_old0 _ _ _ _ hbn, upd1_old _ _ _ _ _ hcn, upd1_old0 _ _ _ _ hcn, old_ne hbn, new_ne hbn, old_ne hcn, new_ne hcn, old_ne0 hcn, new_ne0 hcn])) rfl ?_ (newOk_one (blk := flatC encB Z) (by simp only [go_sem, ↓reduceIte, hc, upd1_old _ _ _ _ _ hbn, upd1_old0 _ _ _ _ hbn, upd1_old _ _ _ _ _ hcn, upd1_old0 _ _ _ _ hcn, old_ne hbn, new_ne hbn, old_ne hcn, new_ne hcn, old_ne0 hcn, new_ne0 hcn])) ?_
    · simp only [go_sem, ↓reduceIte, hbc, Ne.symm hbc, upd1_old _ _ _ _ _ hbn, upd1_old0 _ _ _ _ hbn, upd1_old _ _ _ _ _ hcn, upd1_old0 _ _ _ _ hcn, old_ne hbn, new_ne hbn, old_ne hcn, new_ne hcn, old_ne0 hcn, new_ne0 hcn]
    · simp only [go_sem, ↓reduceIte]
      refine .mk (.tup []) (by simp only [go_sem, ↓reduceIte, resR, resAll, resA] <;> rfl) ⟨rfl, by simp only [go_sem, ↓reduceIte], fun j hj hjc => by simp only [go_sem, ↓reduceIte, upd1_nei hjc, upd1_old _ _ _ _ _ hj, upd1_old0 _ _ _ _ hj]⟩
  · have et : turnQ d i.b r = 0 := by rw [turnQ, if_neg pe, if_neg ne]
    rw [et] at hc3 hc4 hsend ⊢
    refine hcalls_of_AWR (pa := []) (fn := Tryz.f75) (rs := []) follows_mixed Tryz.func75 rfl rfl (by kernel_rfl) (by kernel_rfl) (by rw [Tryz.ntmps75]; simp) ?_
    simp only [go_sem, ↓reduceIte, encI, encQ, encR, encW]
    refine callS_p hc0 ?_
    simp only [go_sem, ↓reduceIte, encI, encQ, encR, encW, hb, hc, gd, a0, a2, dec_false pe, dec_false ne, upd1_old _ _ _ _ _ hbn, upd1_old0 _ _ _ _ hbn, upd1_old _ _ _ _ _ hcn, upd1_old0 _ _ _ _ hcn, old_ne hbn, new_ne hbn, old_ne hcn, new_ne hcn, old_ne0 hcn, new_ne0 hcn]
    refine callD_p hc2 ?_
    simp only [go_sem, ↓reduceIte, encI, encQ, encR, encW, hb, hc, gd, a0, a2, upd1_old _ _ _ _ _ hbn, upd1_old0 _ _ _ _ hbn, upd1_old _ _ _ _ _ hcn, upd1_old0 _ _ _ _ hcn, old_ne hbn, new_ne hbn, old_ne hcn, new_ne hcn, old_ne0 hcn, new_ne0 hcn]
    refine callD_p hc3 ?_
    simp only [go_sem, ↓reduceIte, encI, encQ, encR, encW, hb, hc, gd, a0, a2, upd1_old _ _ _ _ _ hbn, upd1_old0 _ _ _ _ hbn, upd1_old _ _ _ _ _ hcn, upd1_old0 _ _ _ _ hcn, old_ne hbn, new_ne hbn, old_ne hcn, new_ne hcn, old_ne0 hcn, new_ne0 hcn]
    refine callD_p hc4 ?_
    simp only [go_sem, ↓reduceIte, encI, encQ, encR, encW, hb, hc, gd, a0, a2, upd1_old _ _ _ _ _ hbn, upd1_old0 _ _ _ _ hbn, upd1_old _ _ _ _ _ hcn, upd1_old0 _ _ _ _ hcn, old_ne hbn, new_ne hbn, old_ne hcn, new_ne hcn, old_ne0 hcn, new_ne0 hcn]
    refine callD_o (hsend _ (by simp only [go_sem, ↓reduceIte, hb, upd1_old _ _ _ _ _ hbn, upd1_old0 _ _ _ _ hbn, upd1_old _ _ _ _ _ hcn, upd1_old0 _ _ _ _ hcn, old_ne hbn, new_ne hbn, old_ne hcn, new_ne hcn, old_ne0 hcn, new_ne0 hcn]) (by simp only [go_sem, ↓reduceIte, hc, upd1_old _ _ _ _ _ hbn, upd1_old0 _ _ _ _ hbn, upd1_old _ _ _ _ _ hcn, upd1_old0 _ _ _ _ hcn, old_ne hbn, new_ne hbn, old_ne hcn, new_ne hcn, old_ne0 hcn, new_ne0 hcn])) rfl ?_ (newOk_one (blk := flatC encB Z) (by simp only [go_sem, ↓reduceIte, hc, upd1_old _ _ _ _ _ hbn, upd1_old0 _ _ _ _ hbn, upd1_old _ _ _ _ _ hcn, upd1_old0 _ _ _ _ hcn, old_ne hbn, new_ne hbn, old_ne hcn, new_ne hcn, old_ne0 hcn, new_ne0 hcn])) ?_
    · simp only [go_sem, ↓reduceIte, hbc, Ne.symm hbc, upd1_old _ _ _ _ _ hbn, upd1_old0 _ _ _ _ hbn, upd1_old _ _ _ _ _ hcn, upd1_old0 _ _ _ _ hcn, old_ne hbn, new_ne hbn, old_ne hcn, new_ne hcn, old_ne0 hcn, new_ne0 hcn]
    · simp only [go_sem, ↓reduceIte]
      refine .mk (.tup []) (by simp only [go_sem, ↓reduceIte, resR, resAll, resA] <;> rfl) ⟨rfl, by simp only [go_sem, ↓reduceIte], fun j hj hjc => by simp only [go_sem, ↓reduceIte, upd1_nei hjc, upd1_old _ _ _ _ _ hj, upd1_old0 _ _ _ _ hj]⟩
end
end Go.Proofs.YtopmghclhgihfaaGreatDoor
