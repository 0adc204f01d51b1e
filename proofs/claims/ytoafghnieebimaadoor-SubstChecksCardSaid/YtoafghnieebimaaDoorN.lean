/- CheckSubst. -/
import Derived.Test.YtoafghnieebimaaDoorM
namespace Go.Proofs.YtoafghnieebimaaDoor
open Go.RowKit

theorem at_nat {S : List Ty} {i : Nat} {t : Ty} (h : S[i]? = some t) : at' S (i : Int) = t := by unfold at'; simp [List.getD, h]
theorem rowsErr_zero {n : Nat} {S : List Ty} (h : rowsErr n S = 0) {t : Ty} (ht : t ∈ S) : rowErr n t = 0 := by
  induction S with
  | nil => cases ht
  | cons a S ih =>
    rw [rowsErr] at h
    split at h
    · rename_i h'; exact absurd h h'
    · rename_i h'
      rcases List.mem_cons.1 ht with rfl | ht
      · exact Decidable.not_not.1 h'
      · exact ih h ht
theorem rowsErr_step {n : Nat} {S : List Ty} {i : Nat} {t : Ty} (h : S[i]? = some t) : rowsErr n (S.drop i) = if rowErr n t ≠ 0 then rowErr n t else rowsErr n (S.drop (i + 1)) := by
  obtain ⟨hi, rfl⟩ := List.getElem?_eq_some_iff.1 h
  rw [List.drop_eq_getElem_cons hi, rowsErr]
theorem rowsErr_end {n : Nat} {S : List Ty} {i : Nat} (h : S.length ≤ i) : rowsErr n (S.drop i) = 0 := by rw [List.drop_eq_nil_of_le h, rowsErr]
theorem rowErr_chk {n : Nat} {t : Ty} (h : (chk t (decide (4 ≤ t.kind)) 1 4096).2 ≠ 0) : rowErr n t = (chk t (decide (4 ≤ t.kind)) 1 4096).2 := if_pos h
theorem rowErr_range {n : Nat} {t : Ty} (h : (chk t (decide (4 ≤ t.kind)) 1 4096).2 = 0) (hv : ∃ v ∈ vars t, (n : Int) ≤ v) : rowErr n t = 4 := by unfold rowErr; rw [if_neg (fun h' => h' h), if_pos hv]
theorem rowErr_ok {n : Nat} {t : Ty} (h : (chk t (decide (4 ≤ t.kind)) 1 4096).2 = 0) (hv : ∀ v ∈ vars t, v < (n : Int)) : rowErr n t = 0 := by
  unfold rowErr; rw [if_neg (fun h' => h' h), if_neg]; rintro ⟨v, h1, h2⟩; have := hv v h1; omega
theorem rowErr_zero {n : Nat} {t : Ty} (h : rowErr n t = 0) : (chk t (decide (4 ≤ t.kind)) 1 4096).2 = 0 ∧ ∀ v ∈ vars t, 0 ≤ v ∧ v < (n : Int) := by
  unfold rowErr at h
  split at h
  · rename_i h'; exact absurd h h'
  · rename_i h'
    have h0 := Decidable.not_not.1 h'
    split at h
    · cases h
    · rename_i hv
      refine ⟨h0, fun v hm => ⟨(chk_vars t _ _ _ h0 v hm).1, ?_⟩⟩
      apply Int.not_le.1
      intro hle
      exact hv ⟨v, hm, hle⟩
/-- what rows without an error give -/
structure Rows1 (S : List Ty) : Prop where
  vars : ∀ i : Nat, i < S.length → ∀ x ∈ vars (at' S i), 0 ≤ x ∧ x < S.length
  cnt : ∀ i : Nat, i < S.length → cnt (at' S i) ≤ 1000000
theorem rows1_of {S : List Ty} (h : rowsErr S.length S = 0) : Rows1 S := by
  have key : ∀ i : Nat, i < S.length → rowErr S.length (at' S i) = 0 := fun i hi => by
    have hs : S[i]? = some S[i] := by simp [hi]
    rw [at_nat hs]
    exact rowsErr_zero h (List.getElem_mem hi)
  exact ⟨fun i hi => (rowErr_zero (key i hi)).2, fun i hi => by have := chk_size (rowErr_zero (key i hi)).1; omega⟩
theorem substErr_large {S : List Ty} (h : 4096 < S.length) : substErr S = 2 := if_pos h
theorem substErr_row {S : List Ty} (h : ¬ 4096 < S.length) (h1 : rowsErr S.length S ≠ 0) : substErr S = rowsErr S.length S := by unfold substErr; rw [if_neg h, if_pos h1]
theorem substErr_cyc {S : List Ty} (h : ¬ 4096 < S.length) (h1 : rowsErr S.length S = 0) (h2 : ∃ i : Nat, i < S.length ∧ ¬ Good S i) : substErr S = 8 := by unfold substErr; rw [if_neg h, if_neg (fun h => h h1), if_pos h2]
theorem substErr_sized {S : List Ty} (h : ¬ 4096 < S.length) (h1 : rowsErr S.length S = 0) (h2 : ∀ i : Nat, i < S.length → Good S i) : substErr S = sizedErr S (szOf S) := by
  unfold substErr sizedErr; rw [if_neg h, if_neg (fun h => h h1), if_neg]; rintro ⟨i, hi, hg⟩; exact hg (h2 i hi)

theorem enters51 : ∀ args w, (callFunc 51 args).run Tryd.prog w = .ok (.enter 51 args) w := enters_of Tryd.func51 (by kernel_rfl) rfl
set_option maxHeartbeats 400000 in
theorem f51_any (v : Int) (As : Option Addr) (n cs N : Nat) (w : World) (h0 : w.cell? ⟨N, 0, none⟩ = some (.slice As n cs)) :
    Calls Tryd.prog 51 #[.int .i64 v, .pointer (some ⟨N, 0, none⟩)] w fun e w' => e = .returned (.bool (decide ((n : Int) ≤ v))) ∧ w = w' := by
  go_enter Tryd.func51, Tryd.ntmps51
  go_wp2_with fail
  go_ret
  exact ⟨rfl, rfl⟩
/-- Is there a number in the list that is no index? -/
theorem outside_any (g : Nat) (eg : ∀ args w, (callFunc g args).run Tryd.prog w = .ok (.enter g args) w) (lb : Array Value) (n : Nat) (A2 : Option Addr) (c2 : Nat) (fs : List Int) (w2 : World) (B : Nat)
    (hcall : ∀ (v : Int) W, Below B w2 W → Calls Tryd.prog g (#[.int .i64 v] ++ lb) W fun e w' => e = .returned (.bool (decide ((n : Int) ≤ v))) ∧ W = w') (hi : IntsAt w2 (· < B) A2 fs) :
    Calls Tryd.prog 9 #[.slice A2 fs.length c2, .func (.func g) #[] lb] w2 fun e w' => e = .returned (.bool (decide (∃ v ∈ fs, (n : Int) ≤ v))) ∧ Below B w2 w' := by
  refine (containsFunc_any g lb eg A2 c2 fs (fun k W => Below B w2 W ∧ ∀ j, j < k → fs.getD j 0 < (n : Int)) (fun k W => Below B w2 W ∧ (n : Int) ≤ fs.getD k 0) w2 hi.1 ⟨Below.refl _ _, fun j hj => by omega⟩ ?_ ?_).mono ?_
  · rintro k W hk ⟨hb, _⟩
    obtain ⟨b, off, h1, h2, h3⟩ := hi.2 (by omega)
    exact ⟨b, off, h1, (hb.cell (p := ⟨b, off + k, none⟩) h2).trans (h3 k hk)⟩
  · rintro k W hk ⟨hb, hlt⟩
    refine (hcall _ W hb).mono ?_
    rintro e w' ⟨rfl, rfl⟩
    by_cases h : (n : Int) ≤ fs.getD k 0
    · exact .inr ⟨by rw [decide_eq_true h], hb, h⟩
    · refine .inl ⟨by rw [decide_eq_false h], hb, fun j hj => ?_⟩
      by_cases hjk : j = k
      · subst hjk; omega
      · exact hlt j (by omega)
  · rintro e w' (⟨rfl, hb, h⟩ | ⟨k, hk, rfl, hb, h⟩)
    · refine ⟨ret_bool (decide_eq_false ?_).symm, hb⟩
      rintro ⟨v, hv, hle⟩
      obtain ⟨j, hj, rfl⟩ := List.getElem_of_mem hv
      have := h j hj
      simp [List.getD, hj] at this
      omega
    · exact ⟨ret_bool (decide_eq_true ⟨_, by simp [List.getD, hk], h⟩).symm, hb⟩

def SubstPost (S : List Ty) (w : World) (e : Ending) (w' : World) : Prop := e = .returned (.int .i64 (substErr S)) ∧ Below w.heap.size w w'
set_option maxRecDepth 100000 in
set_option maxHeartbeats 8000000 in
theorem checkSubst_any (S : List Ty) (As : Option Addr) (cs B : Nat) (w : World) (hB : B ≤ w.heap.size) (hB0 : 0 < B) (hT : Tab w) (hr : ArgsAt w (· < B) As S) :
    Calls Tryd.prog 6 #[.slice As S.length cs] w fun e w' => SubstPost S w e w' := by
  have hm := hr.1
  have hmf : ∀ (fn : Fn) (first cap : Array Value) (w : World), (Instr.makeFunc fn first cap).run Tryd.prog w = .ok (.func fn first cap) w := fun _ _ _ _ => rfl
  by_cases hlarge : 4096 < S.length
  · have HL := Lib.hid (substErr_large hlarge)
    clear hr hT
    go_enter Tryd.func6, Tryd.ntmps6
    go_wp2_with fail
    go_ret
    exact ⟨ret_int HL.out.symm, Below.alloc (Below.refl _ _) (Nat.le_refl _) _⟩
  have hl : S.length ≤ 4096 := by omega
  have hmk := run_make_row' (P := Tryd.prog) 30 3 (.int .i64 0) 8 Tryd.underlying30 info3 rfl .i64 .i64 S.length (by omega) (by omega)
  have HMK := Lib.hid hmk; clear hmk
  obtain ⟨W, hW⟩ : ∃ W : World, W = w.alloc (.cells #[.slice As S.length cs] 23) := ⟨_, rfl⟩
  have hg : Below w.heap.size w W := by rw [hW]; exact Below.alloc (Below.refl _ _) (Nat.le_refl _) _
  have c0 : W.cell? ⟨w.heap.size, 0, none⟩ = some (.slice As S.length cs) := by rw [hW]; simp [go_sem]
  have hzW : w.heap.size < W.heap.size := by rw [hW]; simp
  have HR := Lib.hid (hr.under (hg.mono hB)); clear hr
  have HT := Lib.hid (hT.keep (hg.block 0 (by omega))); clear hT
  have HG := Lib.hid hg; clear hg
  have HNL := Lib.hid hlarge; clear hlarge
  go_enter Tryd.func6, Tryd.ntmps6
  go_upto_region 1 with fail
  rw [← hW]
  clear hW
  obtain ⟨N, hN⟩ : ∃ N, N = w.heap.size := ⟨_, rfl⟩
  rw [← hN] at hzW c0 hB ⊢
  have HN := Lib.hid hN; clear hN
  go_wp2_with fail
  go_loopg [13] S.length (fun g x wr => ∃ i : Nat, i + g = S.length ∧ x = .int .i64 i ∧ Hid (rowsErr S.length (S.drop 0) = rowsErr S.length (S.drop i)) ∧ Hid (Below W.heap.size W wr))
  case atStart => exact ⟨0, by omega, rfl, Lib.hid rfl, Lib.hid (Below.refl _ _)⟩
  case round =>
    obtain ⟨i, hig, rfl, HRE, Hgr⟩ := hrel
    have hzr : W.heap.size ≤ wr.heap.size := Hgr.out.size
    have c1 : wr.cell? ⟨N, 0, none⟩ = some (.slice As S.length cs) := (Hgr.out.cell (p := ⟨N, 0, none⟩) hzW).trans c0
    by_cases hlt : i < S.length
    · rcases (HR.out.under (Hgr.out.mono (by omega))).elem with h | ⟨b', off', hAeq, hel⟩
      · exact absurd hlt (by omega)
      subst hAeq
      obtain ⟨k1, n1, v1, us, A1, c1', ht, hb1, e0, e1, e2, e3, hA1, _⟩ := hel i hlt
      clear hel
      obtain ⟨Wc, hWc⟩ : ∃ Wc : World, Wc = (wr.alloc (.cells #[.int .i64 k1, .string n1, .int .i64 v1, .slice A1 us.length c1'] 27)).alloc (.cells #[.int .i64 4096] 109) := ⟨_, rfl⟩
      have hgc : Below wr.heap.size wr Wc := by rw [hWc]; exact (Below.alloc (Below.refl _ _) (Nat.le_refl _) _).alloc (by simp) _
      have hzc : Wc.heap.size = wr.heap.size + 2 := by rw [hWc]; simp
      have hAc : ArgsAt Wc (· < B) A1 us := hA1.keep fun b h => ⟨h, hgc.block b (by omega)⟩
      have hck := check_says (.mk k1 n1 v1 us) A1 c1' (decide (4 ≤ k1)) 1 4096 (wr.heap.size + 1) B Wc (by omega) (by omega) (by omega) hB0 (by omega) (by omega) (by omega) (by rw [hWc]; simp [go_sem]) (by rw [hWc]; simp [go_sem])
        (HT.out.keep ((hgc.block 0 (by omega)).trans (Hgr.out.block 0 (by omega)))) hAc
      replace hck : Calls Tryd.prog 49 #[.pointer (some ⟨wr.heap.size + 1, 0, none⟩), .agg #[.int .i64 k1, .string n1, .int .i64 v1, .slice A1 us.length c1'], .bool (decide (4 ≤ k1)), .int .i64 1] Wc _ := hck
      have hrow := rowsErr_step (n := S.length) ht
      have f0 : Wc.cell? ⟨wr.heap.size, 0, none⟩ = some (.int .i64 k1) := by rw [hWc]; simp [go_sem]
      have f1 : Wc.cell? ⟨wr.heap.size, 1, none⟩ = some (.string n1) := by rw [hWc]; simp [go_sem]
      have f2 : Wc.cell? ⟨wr.heap.size, 2, none⟩ = some (.int .i64 v1) := by rw [hWc]; simp [go_sem]
      have f3 : Wc.cell? ⟨wr.heap.size, 3, none⟩ = some (.slice A1 us.length c1') := by rw [hWc]; simp [go_sem]
      have hfr : ∀ w2, Below wr.heap.size wr w2 → w2.cell? ⟨wr.heap.size, 0, none⟩ = some (.int .i64 k1) → (chk (.mk k1 n1 v1 us) (decide (4 ≤ k1)) 1 4096).2 = 0 → wr.heap.size < w2.heap.size → Calls Tryd.prog 50 #[.agg #[.int .i64 k1, .string n1, .int .i64 v1, .slice A1 us.length c1']] w2 fun e w' => FreePost (.mk k1 n1 v1 us) w2 e w' := fun w2 hb _ h0 hz2 =>
        free_says (.mk k1 n1 v1 us) A1 c1' B w2 (by omega) (by have := chk_size h0; omega) (hA1.keep fun b h => ⟨h, hb.block b (by omega)⟩)
      have hmem := mem_freeL (.mk k1 n1 v1 us)
      have hre1 := rowErr_chk (n := S.length) (t := .mk k1 n1 v1 us)
      have hre2 := rowErr_range (n := S.length) (t := .mk k1 n1 v1 us)
      have hre3 := rowErr_ok (n := S.length) (t := .mk k1 n1 v1 us)
      replace hre1 : (chk (.mk k1 n1 v1 us) (decide (4 ≤ k1)) 1 4096).2 ≠ 0 → rowErr S.length (.mk k1 n1 v1 us) = (chk (.mk k1 n1 v1 us) (decide (4 ≤ k1)) 1 4096).2 := hre1
      replace hre2 : (chk (.mk k1 n1 v1 us) (decide (4 ≤ k1)) 1 4096).2 = 0 → (∃ v ∈ vars (.mk k1 n1 v1 us), (S.length : Int) ≤ v) → rowErr S.length (.mk k1 n1 v1 us) = 4 := hre2
      replace hre3 : (chk (.mk k1 n1 v1 us) (decide (4 ≤ k1)) 1 4096).2 = 0 → (∀ v ∈ vars (.mk k1 n1 v1 us), v < (S.length : Int)) → rowErr S.length (.mk k1 n1 v1 us) = 0 := hre3
      unfold FreePost at hfr
      generalize freeL (.mk k1 n1 v1 us) = fs at *
      generalize vars (.mk k1 n1 v1 us) = vs at *
      generalize rowErr S.length (.mk k1 n1 v1 us) = re at *
      generalize chk (.mk k1 n1 v1 us) (decide (4 ≤ k1)) 1 4096 = r at *
      have HCK := Lib.hid hck; clear hck
      have HROW := Lib.hid hrow; clear hrow
      have HFR := Lib.hid hfr; clear hfr
      have HMEM := Lib.hid hmem; clear hmem
      have HRE1 := Lib.hid hre1; clear hre1
      have HRE2 := Lib.hid hre2; clear hre2
      have HRE3 := Lib.hid hre3; clear hre3
      have HGC := Lib.hid hgc; clear hgc
      have HZC := Lib.hid hzc; clear hzc
      clear hA1 hAc
      go_wp2_with fail
      rw [← hWc]
      clear hWc
      refine HCK.out.mono ?_
      rintro e w2 ⟨rfl, -, -, hg2⟩
      have hb2 : Below (wr.heap.size + 1) Wc w2 := grown_below hg2 (Nat.le_refl _) (by have := HZC.out; omega)
      have h0 : w2.cell? ⟨wr.heap.size, 0, none⟩ = some (.int .i64 k1) := (hb2.cell (p := ⟨wr.heap.size, 0, none⟩) (by show wr.heap.size < _; omega)).trans f0
      have h1 : w2.cell? ⟨wr.heap.size, 1, none⟩ = some (.string n1) := (hb2.cell (p := ⟨wr.heap.size, 1, none⟩) (by show wr.heap.size < _; omega)).trans f1
      have h2 : w2.cell? ⟨wr.heap.size, 2, none⟩ = some (.int .i64 v1) := (hb2.cell (p := ⟨wr.heap.size, 2, none⟩) (by show wr.heap.size < _; omega)).trans f2
      have h3 : w2.cell? ⟨wr.heap.size, 3, none⟩ = some (.slice A1 us.length c1') := (hb2.cell (p := ⟨wr.heap.size, 3, none⟩) (by show wr.heap.size < _; omega)).trans f3
      have hz2 : wr.heap.size < w2.heap.size := by have h := hb2.size; have := HZC.out; omega
      have hb3 : Below wr.heap.size wr w2 := HGC.out.trans (hb2.mono (by omega))
      have HB3 := Lib.hid hb3; clear hb3
      clear hg2 hb2 f0 f1 f2 f3
      by_cases hr0 : r.2 = 0
      · have hrb : (r.2 != 0) = false := by rw [hr0]; rfl
        have hfree := HFR.out w2 HB3.out h0 hr0 hz2
        have HFREE := Lib.hid hfree; clear hfree
        have HR0 := Lib.hid hr0; clear hr0
        go_wp2_with fail
        refine HFREE.out.mono ?_
        rintro e w4 ⟨v4, rfl, ho4, hb4⟩
        obtain ⟨A4, c4, rfl, hi4, hl4⟩ := ho4.slice
        have c4' : w4.cell? ⟨N, 0, none⟩ = some (.slice (some ⟨b', off', none⟩) S.length cs) := (hb4.cell (p := ⟨N, 0, none⟩) (by show N < _; omega)).trans ((HB3.out.cell (p := ⟨N, 0, none⟩) (by show N < _; omega)).trans c1)
        have hz4 := hb4.size
        have hout := outside_any 51 enters51 #[.pointer (some ⟨N, 0, none⟩)] S.length A4 c4 fs w4 w4.heap.size (fun v W hb => f51_any v _ S.length cs N W ((hb.cell (p := ⟨N, 0, none⟩) (by show N < _; omega)).trans c4')) (hi4.keep fun b hb => ⟨(ho4.lt b hb).2, rfl⟩)
        have HB4 := Lib.hid (HB3.out.trans (hb4.mono (by omega))); clear hb4
        have HOUT := Lib.hid hout; clear hout
        clear ho4 hi4 c4'
        go_wp2_with fail
        refine HOUT.out.mono ?_
        rintro e w5 ⟨rfl, hb5⟩
        have HB5 := Lib.hid (HB4.out.trans (hb5.mono (by omega))); clear hb5
        by_cases hv : ∃ v ∈ fs, (S.length : Int) ≤ v
        · rw [decide_eq_true hv]
          have hre := HRE2.out HR0.out (by obtain ⟨v, h1, h2⟩ := hv; exact ⟨v, (HMEM.out v).1 h1, h2⟩)
          have HRR := Lib.hid hre; clear hre hv
          go_wp2_with fail
          go_ret
          refine ⟨ret_int ?_, by rw [← HN.out]; exact (HG.out.mono (by rw [HN.out]; omega)).trans ((Hgr.out.mono (by omega)).trans (HB5.out.mono (by omega)))⟩
          have hrow : rowsErr S.length S = 4 := HRE.out.trans (HROW.out.trans (by rw [HRR.out, if_pos (by decide)]))
          rw [substErr_row HNL.out (by rw [hrow]; decide), hrow]
        · rw [decide_eq_false hv]
          have hre := HRE3.out HR0.out (fun v h => by
            apply Int.not_le.1
            intro hle
            exact hv ⟨v, (HMEM.out v).2 h, hle⟩)
          have HRR := Lib.hid hre; clear hre hv
          go_wp2_with fail
          go_roundg (S.length - (i + 1))
          case measure => omega
          case rel => exact ⟨i + 1, by omega, by go_num, Lib.hid (HRE.out.trans (HROW.out.trans (by rw [HRR.out, if_neg (fun h => h rfl)]))), Lib.hid (Hgr.out.trans (HB5.out.mono hzr))⟩
      · have hrb : (r.2 != 0) = true := by rw [bne_iff_ne]; exact hr0
        have HR0 := Lib.hid hr0; clear hr0
        go_wp2_with fail
        go_ret
        refine ⟨ret_int ?_, by rw [← HN.out]; exact (HG.out.mono (by rw [HN.out]; omega)).trans ((Hgr.out.mono (by omega)).trans (HB3.out.mono (by omega)))⟩
        have hrow : rowsErr S.length S = r.2 := HRE.out.trans (HROW.out.trans (by rw [HRE1.out HR0.out, if_pos HR0.out]))
        rw [substErr_row HNL.out (by rw [hrow]; exact HR0.out), hrow]
    · have hrow : rowsErr S.length S = 0 := HRE.out.trans (rowsErr_end (by omega))
      have hR1 := rows1_of hrow
      have HROW := Lib.hid hrow; clear hrow
      have HR1 := Lib.hid hR1; clear hR1
      have hmk := HMK.out
      obtain ⟨Wm, hWm⟩ : ∃ Wm : World, Wm = wr.alloc (.cells (madeCells #[.int .i64 0] S.length) 3) := ⟨_, rfl⟩
      have hgm : Below wr.heap.size wr Wm := by rw [hWm]; exact Below.alloc (Below.refl _ _) (Nat.le_refl _) _
      have hrm : RowAt Wm wr.heap.size 0 (List.replicate S.length 0) := by rw [hWm]; exact row_made _ _
      have hzm : Wm.heap.size = wr.heap.size + 1 := by rw [hWm]; simp
      have cm : Wm.cell? ⟨N, 0, none⟩ = some (.slice As S.length cs) := (hgm.cell (p := ⟨N, 0, none⟩) (by show N < _; omega)).trans c1
      have hcm0 : ∀ j : Nat, j < S.length → (List.replicate S.length (0 : Int)).getD j 0 = 0 := fun j hj => by simp [List.getD, hj]
      have hRm : ArgsAt Wm (· < B) As S := HR.out.keep fun b hb => ⟨hb, (hgm.block b (by omega)).trans (Hgr.out.block b (by omega))⟩
      have HRM := Lib.hid hRm; clear hRm
      have HC0 := Lib.hid hcm0; clear hcm0
      have HRMA := Lib.hid hrm; clear hrm
      have HGM := Lib.hid hgm; clear hgm
      have HZM := Lib.hid hzm; clear hzm
      go_upto_region 13 with fail
      rw [← hWm]
      clear hWm hmk
      obtain ⟨M, hM⟩ : ∃ M, M = wr.heap.size := ⟨_, rfl⟩
      have hM1 : N < M := by omega
      have hM2 : W.heap.size ≤ M := by omega
      have hM3 : B ≤ M := by omega
      rw [← hM]
      have HM := Lib.hid hM
      rw [← hM] at HZM HRMA HGM
      have hzm : M < Wm.heap.size := by have := HZM.out; omega
      clear hM
      have HGO := Lib.hid Hgr.out; clear Hgr
      go_wp2_with fail
      go_loopg [7, 37] S.length (fun g _ x wr => ∃ i : Nat, i + g = S.length ∧ x = .int .i64 i ∧ Hid (Wm.grownBy wr (some M)) ∧ Hid (∃ st : List Int, st.length = S.length ∧ RowAt wr M 0 st ∧ CycInv S st ∧ (∀ j : Nat, st.getD j 0 ≠ 1)) ∧ Hid (∀ j : Nat, j < i → Good S j))
      case atStart => exact ⟨0, by omega, rfl, Lib.hid (Gb.refl _ _), Lib.hid ⟨_, List.length_replicate, HRMA.out, fun j hj => by
          rw [List.length_replicate] at hj
          rw [HC0.out j hj]; exact ⟨by omega, fun h => by omega, by omega⟩, fun j => by
          by_cases hj : j < S.length
          · rw [HC0.out j hj]; decide
          · simp [List.getD, hj]⟩, Lib.hid (fun j hj => by omega)⟩
      case round =>
        obtain ⟨i2, hig2, rfl, Hg2, Hst, HGD⟩ := hrel
        have hzr2 : Wm.heap.size ≤ wr.heap.size := Hg2.out.size
        have hNM : N ≠ M := by omega
        have cr : wr.cell? ⟨N, 0, none⟩ = some (.slice As S.length cs) := (gcell Hg2.out (by omega) (by intro e; cases e; exact hNM rfl) 0).trans cm
        by_cases hlt : i2 < S.length
        · obtain ⟨st, hst1, hst2, hst3, hst4⟩ := Hst.out
          have hcy := cyclic_any S HR1.out.vars HR1.out.cnt hl (st.count 0) i2 st As cs S.length M B wr (Nat.le_refl _) hlt hst1 (by omega) (by omega) (HRM.out.keep fun b hb => ⟨hb, Hg2.out.block b (by omega) (by intro e; cases e; omega)⟩) hst2 hst3 (fun j hj h => absurd h (hst4 j))
          have HCY := Lib.hid hcy; clear hcy
          have HST4 := Lib.hid hst4
          have HST1 := Lib.hid hst1
          clear hst1 hst2 hst3 hst4 Hst
          go_wp2_with fail
          refine HCY.out.mono ?_
          rintro e w3 ⟨b, st', rfl, hl', hr', hg', ht, hf⟩
          have HL3 := Lib.hid hl'; clear hl'
          have HR3 := Lib.hid hr'; clear hr'
          have HG3 := Lib.hid hg'; clear hg'
          have HT3 := Lib.hid ht; clear ht
          have HF3 := Lib.hid hf; clear hf
          cases b with
          | true =>
            go_wp2_with fail
            go_ret
            exact ⟨ret_int (substErr_cyc HNL.out HROW.out (HT3.out (by trivial))).symm, by rw [← HN.out]; exact (HG.out.mono (by rw [HN.out]; omega)).trans ((HGO.out.mono (by omega)).trans ((HGM.out.mono (by omega)).trans (grown_below (Gb.trans Hg2.out HG3.out) (by omega) (by omega))))⟩
          | false =>
            have hE := HF3.out rfl
            have HE := Lib.hid hE; clear hE
            go_wp2_with fail
            go_roundg (S.length - (i2 + 1))
            case measure => omega
            case rel => exact ⟨i2 + 1, by omega, by go_num, Lib.hid (Gb.trans Hg2.out HG3.out), Lib.hid ⟨st', HL3.out.trans HST1.out, HR3.out, HE.out.inv, fun j h => HST4.out j ((HE.out.grey j).1 h)⟩, Lib.hid (fun j hj => by
              by_cases hji : j = i2
              · subst hji; exact HE.out.good
              · exact HGD.out j (by omega))⟩
        · have hall : ∀ j : Nat, j < S.length → Good S j := fun j hj => HGD.out j (by omega)
          have hse := substErr_sized HNL.out HROW.out hall
          have hsz := sized_any S (szOf S) (szOf_spec S) HR1.out.vars hall As cs B wr (by omega) hl (HRM.out.keep fun b hb => ⟨hb, Hg2.out.block b (by omega) (by intro e; cases e; omega)⟩)
          have HSE := Lib.hid hse; clear hse hall
          have HSZ := Lib.hid hsz; clear hsz
          go_wp2_with fail
          refine HSZ.out.mono ?_
          rintro e w3 ⟨rfl, hb3⟩
          have HB3 := Lib.hid hb3; clear hb3
          go_wp2_with fail
          go_ret
          exact ⟨ret_int HSE.out.symm, by rw [← HN.out]; exact (HG.out.mono (by rw [HN.out]; omega)).trans ((HGO.out.mono (by omega)).trans ((HGM.out.mono (by omega)).trans ((grown_below Hg2.out (by omega) (by omega)).trans (HB3.out.mono (by omega)))))⟩
end Go.Proofs.YtoafghnieebimaaDoor
