/- Var and sized. -/
import Derived.Test.YtoafghnieebimaaDoorJ
import Derived.Deep.OwnRows
namespace Go.Proofs.YtoafghnieebimaaDoor
open Go.RowKit

set_option maxHeartbeats 400000 in
theorem var_any (n : Int) (w : World) : Calls Tryd.prog 72 #[.int .i64 n] w fun e w' => e = .returned (.agg #[.int .i64 0, .string ⟨#[]⟩, .int .i64 n, .slice none 0 0]) ∧ Below w.heap.size w w' := by
  go_enter Tryd.func72, Tryd.ntmps72
  go_wp2_with fail
  exact bodyPost_ret (v := .agg #[.int .i64 0, .string ⟨#[]⟩, .int .i64 n, .slice none 0 0]) (by simp [results, Tryd.results72, go_sem]) rfl ⟨rfl, Below.alloc (Below.refl _ _) (Nat.le_refl _) _⟩

theorem grown_below {N p : Nat} {w w1 : World} (h : w.grownBy w1 (some p)) (hp : N ≤ p) (hN : N ≤ w.heap.size) : Below N w w1 := ⟨h.os, h.tape, h.output, h.size, fun k hk => h.block k (by omega) (by intro e; cases e; omega)⟩
theorem row_made (w : World) (n : Nat) : RowAt (w.alloc (.cells (madeCells #[.int .i64 0] n) 3)) w.heap.size 0 (List.replicate n 0) := by
  intro j hj
  rw [List.length_replicate] at hj
  refine ⟨?_, by simp⟩
  rw [World.cell?_alloc_new]
  simp [madeCells, hj, List.getD, Nat.mod_one]

open Classical in
noncomputable def sizedErr (S : List Ty) (sz : Int → Int) : Int := if ∃ i : Nat, i < S.length ∧ 4096 < sz i then 2 else 0
theorem sizedErr_bad {S : List Ty} {sz : Int → Int} {i : Nat} (hi : i < S.length) (h : 4096 < sz i) : sizedErr S sz = 2 := if_pos ⟨i, hi, h⟩
theorem sizedErr_ok {S : List Ty} {sz : Int → Int} (h : ∀ i : Nat, i < S.length → sz i ≤ 4096) : sizedErr S sz = 0 := if_neg fun ⟨i, hi, h'⟩ => by have := h i hi; omega

set_option maxRecDepth 100000 in
set_option maxHeartbeats 4000000 in
theorem sized_any (S : List Ty) (sz : Int → Int) (hsz : Sizes S sz) (hS : ∀ i : Nat, i < S.length → ∀ x ∈ vars (at' S i), 0 ≤ x ∧ x < S.length) (hgood : ∀ i : Nat, i < S.length → Good S i)
    (As : Option Addr) (cs : Nat) (B : Nat) (w : World) (hB : B ≤ w.heap.size) (hl : S.length ≤ 4096) (hr : ArgsAt w (· < B) As S) :
    Calls Tryd.prog 53 #[.slice As S.length cs] w fun e w' => e = .returned (.int .i64 (sizedErr S sz)) ∧ Below w.heap.size w w' := by
  have hmk := run_make_row' (P := Tryd.prog) 30 3 (.int .i64 0) 8 Tryd.underlying30 info3 rfl .i64 .i64 S.length (by omega) (by omega)
  obtain ⟨W, hW⟩ : ∃ W : World, W = (w.alloc (.cells (madeCells #[.int .i64 0] S.length) 3)).alloc (.cells #[.slice As S.length cs, .slice (some ⟨w.heap.size, 0, none⟩) S.length S.length] 148) := ⟨_, rfl⟩
  have hb : Below w.heap.size w W := by rw [hW]; exact ((Below.refl _ _).alloc (Nat.le_refl _) _).alloc (by simp) _
  have hM : Metered S sz As cs w.heap.size 0 S.length (w.heap.size + 1) B W (List.replicate S.length 0) := by
    refine ⟨by simp, hl, hr.under (hb.mono hB), by rw [hW]; simp [go_sem], by rw [hW]; simp [go_sem], ?_, by omega, by omega, by omega, by rw [hW]; simp, by rw [hW]; simp; omega, ?_⟩
    · rw [hW]
      exact (row_made w S.length).keep (Below.heap_alloc _ _ _ (by simp))
    · intro j hj
      left
      rw [List.length_replicate] at hj
      simp [List.getD, hj]
  have HM := Lib.hid hM; clear hM
  have HB := Lib.hid hb; clear hb
  go_enter Tryd.func53, Tryd.ntmps53
  go_wp2_with fail
  rw [← hW]
  have HW := Lib.hid hW; clear hW hmk
  go_loopg [4, 13] S.length (fun g _ x wr => ∃ i : Nat, i + g = S.length ∧ x = .int .i64 i ∧ Hid (W.grownBy wr (some w.heap.size)) ∧ Hid (∃ of', Metered S sz As cs w.heap.size 0 S.length (w.heap.size + 1) B wr of') ∧ Hid (∀ j : Nat, j < i → sz j ≤ 4096))
  case atStart => exact ⟨0, by omega, rfl, Lib.hid (Gb.refl _ _), Lib.hid ⟨_, HM.out⟩, Lib.hid (fun j hj => by omega)⟩
  case round =>
    obtain ⟨i, hig, rfl, Hgr, HMr, HL⟩ := hrel
    by_cases hlt : i < S.length
    · obtain ⟨of', hMr⟩ := HMr.out
      have hc : ∀ W', Below wr.heap.size wr W' → Calls Tryd.prog 84 #[.pointer (some ⟨w.heap.size + 1, 0, none⟩), .agg #[.int .i64 0, .string ⟨#[]⟩, .int .i64 i, .slice none 0 0]] W' fun e w' => SizePost S sz As cs w.heap.size 0 S.length (w.heap.size + 1) B W' (sz i) e w' := fun W' h =>
        size_var S sz hsz hS i (hgood i hlt) (by omega) (by omega) ⟨#[]⟩ none 0 0 As cs w.heap.size 0 S.length (w.heap.size + 1) B of' W' (hMr.keep h)
      have hbd := hsz.bd (hgood i hlt)
      have hbig : 4096 < sz i → sizedErr S sz = 2 := fun h => sizedErr_bad hlt h
      generalize hz : sz (i : Int) = z at *
      have HZ := Lib.hid hz; clear hz
      have HC := Lib.hid hc; clear hc
      have HBIG := Lib.hid hbig; clear hbig
      clear hMr HMr
      go_wp2_with fail
      refine (var_any _ _).mono ?_
      rintro e w2 ⟨rfl, hb2⟩
      have HB2 := Lib.hid hb2; clear hb2
      go_wp2_with fail
      refine (HC.out _ HB2.out).mono ?_
      rintro e w3 ⟨rfl, of3, hM3, hg3⟩
      have HM3 := Lib.hid hM3; clear hM3
      have HG3 := Lib.hid hg3; clear hg3
      by_cases hbig : 4096 < z
      · go_wp2_with fail
        go_ret
        exact ⟨ret_int (HBIG.out hbig).symm, HB.out.trans (grown_below (Gb.trans Hgr.out (Gb.trans (below_grown HB2.out _) HG3.out)) (Nat.le_refl _) HB.out.size)⟩
      · go_wp2_with fail
        go_roundg (S.length - (i + 1))
        case measure => omega
        case rel => exact ⟨i + 1, by omega, by go_num, Lib.hid (Gb.trans Hgr.out (Gb.trans (below_grown HB2.out _) HG3.out)), Lib.hid ⟨_, HM3.out⟩, Lib.hid (fun j hj => by
          by_cases hji : j = i
          · subst hji; rw [HZ.out]; omega
          · exact HL.out j (by omega))⟩
    · go_wp2_with fail
      go_ret
      exact ⟨ret_int (sizedErr_ok (fun j hj => HL.out j (by omega))).symm, HB.out.trans (grown_below Hgr.out (Nat.le_refl _) HB.out.size)⟩
end Go.Proofs.YtoafghnieebimaaDoor
