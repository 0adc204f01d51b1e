/- meter.size at a variable; sized. -/
import Derived.Test.YtoafghnieebimaaDoorI
import Derived.RegionTactic
import Derived.ChangeAlike
import Derived.Deep.RegionHeld3
import Derived.Deep.DeepCutAuto
import Derived.StillTailTactics
namespace Go.Proofs.YtoafghnieebimaaDoor
open Go.RowKit

theorem set_other {w : World} {b b' o o' : Nat} {v : Value} (h : b ≠ b') : (w.setCell ⟨b, o, none⟩ v).cell? ⟨b', o', none⟩ = w.cell? ⟨b', o', none⟩ := World.cell?_setCell_other _ _ _ _ (fun e => h (congrArg Addr.block e))
theorem Metered.store {S : List Ty} {sz : Int → Int} {As : Option Addr} {cs Ao offo co bm B : Nat} {w : World} {ofs : List Int} (h : Metered S sz As cs Ao offo co bm B w ofs) (u : Nat) (hu : u < S.length) (x : Int) (hg : Good S u) (hx : 1 ≤ sz u ∧ sz u ≤ 4097) (e : x = sz u := by rfl) :
    Metered S sz As cs Ao offo co bm B (w.setCell ⟨Ao, offo + u, none⟩ (.int .i64 x)) (ofs.set u x) :=
  ⟨by rw [List.length_set]; exact h.len, h.big, h.rows.keep fun b hb => ⟨hb, Below.heap_setCell _ _ _ _ (by have := h.bo; show b ≠ Ao; omega)⟩, (set_other (by have := h.ne; omega)).trans h.c0, (set_other (by have := h.ne; omega)).trans h.c1,
    h.row.set u (by rw [h.len]; exact hu) x, h.bB, h.bo, h.ne, by simp; exact h.hm, by simp; exact h.ho, fun j hj => by
      rw [List.length_set] at hj
      by_cases hju : j = u
      · subst hju
        right
        exact ⟨hg, by simp [List.getD, hj, e]⟩
      · have := h.inv j hj
        simp only [List.getD, List.getElem?_set, show ¬ u = j from fun h => hju h.symm, if_false] at this ⊢
        exact this⟩
theorem below_grown {w w1 : World} (h : Below w.heap.size w w1) (r : Option Nat) : w.grownBy w1 r := ⟨h.os, h.tape, h.output, h.size, fun k hk _ => h.block k hk⟩
theorem pw_drewN' (w : World) (n : Nat) : Below w.heap.size w (w.drewN n) := ⟨rfl, rfl, rfl, Nat.le_refl _, fun _ _ => rfl⟩
set_option maxRecDepth 100000 in
set_option maxHeartbeats 4000000 in
theorem size_var (S : List Ty) (sz : Int → Int) (hsz : Sizes S sz) (hS : ∀ i : Nat, i < S.length → ∀ x ∈ vars (at' S i), 0 ≤ x ∧ x < S.length) (v : Int) (hgood : Good S v) : 0 ≤ v → v < S.length → VarSays S sz v := by
  induction hgood with
  | mk v hg ih =>
  intro hv0 hv1 n A m c As cs Ao offo co bm B ofs w hM
  have hgv : Good S v := .mk v hg
  have hszv := hsz v hgv
  have hszb := hsz.bd hgv
  obtain ⟨u, rfl⟩ := Int.eq_ofNat_of_zero_le hv0
  have hu : u < S.length := by omega
  have hbm := hM.hm
  have hbo := hM.ho
  have hbB := hM.bB
  rcases hM.rows.elem with h | ⟨b', off', hAeq, hel⟩
  · omega
  subst hAeq
  obtain ⟨k1, n1, v1, us, A1, c1, ht, hb1, e0, e1, e2, e3, hA1, _⟩ := hel u hu
  clear hel
  have hat : at' S (u : Int) = .mk k1 n1 v1 us := by unfold at'; simp [List.getD, ht]
  rw [hat] at hszv
  have hself : selfAt S (u : Int) ↔ k1 = 0 ∧ v1 = (u : Int) := by unfold selfAt; rw [hat]; rfl
  have HS := Lib.hid hself; clear hself
  have HZ := Lib.hid hszv; clear hszv
  obtain ⟨W, hW⟩ : ∃ W : World, W = w.alloc (.cells #[.int .i64 0, .string n, .int .i64 u, .slice A m c] 27) := ⟨_, rfl⟩
  have hgg : Below w.heap.size w W := by rw [hW]; exact Below.alloc (Below.refl _ _) (Nat.le_refl _) _
  have hMW := hM.keep hgg
  have hc : ∀ {b o : Nat} {x : Value}, w.cell? ⟨b, o, none⟩ = some x → W.cell? ⟨b, o, none⟩ = some x := fun h => (hgg.cell (World.block_lt_of_cell? _ _ h)).trans h
  have e0 := hc e0
  have e1 := hc e1
  have e2 := hc e2
  have e3 := hc e3
  have d0 : W.cell? ⟨w.heap.size, 0, none⟩ = some (.int .i64 0) := by rw [hW]; simp [go_sem]
  have d2 : W.cell? ⟨w.heap.size, 2, none⟩ = some (.int .i64 u) := by rw [hW]; simp [go_sem]
  have m0 := hMW.c0
  have m1 := hMW.c1
  have hu' : (u : Int) < (S.length : Int) := by omega
  have hu0 : (0 : Int) ≤ (u : Int) := by omega
  have hzW : w.heap.size < W.heap.size := by rw [hW]; simp
  have hbmW : bm < W.heap.size := by omega
  have hbW : b' < W.heap.size := by omega
  clear hc
  have HM := Lib.hid hM; clear hM
  have HMW := Lib.hid hMW; clear hMW
  have HG := Lib.hid hgg; clear hgg
  have HI := Lib.hid ih; clear ih
  clear hg
  obtain ⟨W2, hW2⟩ : ∃ W2 : World, W2 = (W.alloc (.cells #[.int .i64 k1, .string n1, .int .i64 v1, .slice A1 us.length c1] 27)).drew := ⟨_, rfl⟩
  have hg2 : Below W.heap.size W W2 := by rw [hW2]; exact (Below.alloc (Below.refl _ _) (Nat.le_refl _) _).drew
  have hM2 := HMW.out.keep hg2
  have hz2 : W2.heap.size = W.heap.size + 1 := by rw [hW2]; simp
  have f0 : W2.cell? ⟨W.heap.size, 0, none⟩ = some (.int .i64 k1) := by rw [hW2]; simp [go_sem]
  have f1 : W2.cell? ⟨W.heap.size, 1, none⟩ = some (.string n1) := by rw [hW2]; simp [go_sem]
  have f2 : W2.cell? ⟨W.heap.size, 2, none⟩ = some (.int .i64 v1) := by rw [hW2]; simp [go_sem]
  have f3 : W2.cell? ⟨W.heap.size, 3, none⟩ = some (.slice A1 us.length c1) := by rw [hW2]; simp [go_sem]
  have g2 : W2.cell? ⟨w.heap.size, 2, none⟩ = some (.int .i64 u) := (hg2.cell (p := ⟨w.heap.size, 2, none⟩) hzW).trans d2
  have p0 := hM2.c0
  have p1 := hM2.c1
  have hrow := hM2.row u (by rw [hM2.len]; exact hu)
  have hinv := hM2.inv u (by rw [hM2.len]; exact hu)
  generalize hy : ofs.getD u 0 = y at *
  have hr1 := hrow.1
  have hr2 := hrow.2
  clear hrow
  have HY := Lib.hid hy; clear hy
  have HINV := Lib.hid hinv; clear hinv
  have HM2 := Lib.hid hM2; clear hM2
  have HG2 := Lib.hid hg2; clear hg2
  have HZ2 := Lib.hid hz2; clear hz2
  have hA2 := hA1.keep (w1 := W2) (D' := (· < B)) fun b hb => ⟨hb, (HG2.out.block b (by omega)).trans (HG.out.block b (by omega))⟩
  have HA2 := Lib.hid hA2; clear hA2 hA1
  by_cases hs : k1 = 0 ∧ v1 = (u : Int)
  · have HSELF := Lib.hid (HZ.out.trans (if_pos (HS.out.2 hs))); clear HZ HS
    obtain ⟨rfl, rfl⟩ := hs
    go_enter Tryd.func84, Tryd.ntmps84
    go_wp2_with fail
    rw [← hW]
    have HW := Lib.hid hW; clear hW
    go_region
    rw [← hW2]
    have HW2 := Lib.hid hW2; clear hW2
    go_wp2_with fail
    go_ret
    exact ⟨ret_int HSELF.out.symm, ofs, HM2.out, Gb.trans (below_grown HG.out _) (below_grown HG2.out _)⟩
  have HSN := Lib.hid (fun h => hs (HS.out.1 h))
  have hs' : (k1 == 0) = false ∨ (k1 = 0 ∧ (v1 == (u : Int)) = false) := by
    by_cases h : k1 = 0
    · exact .inr ⟨h, by rw [beq_eq_false_iff_ne]; exact fun h2 => hs ⟨h, h2⟩⟩
    · exact .inl (by rw [beq_eq_false_iff_ne]; exact h)
  clear hs
  have hcall : ∀ W', Below W2.heap.size W2 W' → Calls Tryd.prog 84 #[.pointer (some ⟨bm, 0, none⟩), .agg #[.int .i64 k1, .string n1, .int .i64 v1, .slice A1 us.length c1]] W' fun e w' => e = .returned (.int .i64 (sz u)) ∧ ∃ ofs', Metered S sz (some ⟨b', off', none⟩) cs Ao offo co bm B w' ofs' ∧ W2.grownBy w' (some Ao) := fun W' hb => by
    have hus : uses S (u : Int) = vars (.mk k1 n1 v1 us) := by unfold uses; rw [if_neg HSN.out, hat]
    have hn := size_node S sz (.mk k1 n1 v1 us) (fun x hx => by
      have hx2 := hS u hu x (by rw [hat]; exact hx)
      have hxg : Good S x := by
        obtain ⟨_, hg⟩ := hgv
        exact hg x (by rw [hus]; exact hx)
      exact ⟨HI.out x (by rw [hus]; exact hx) hx2.1 hx2.2, hsz.bd hxg⟩) A1 c1 _ cs Ao offo co bm B ofs W' (HM2.out.keep hb) (HA2.out.keep fun b hb' => ⟨hb', hb.block b (by have := HZ2.out; omega)⟩)
    refine (show Calls Tryd.prog 84 #[.pointer (some ⟨bm, 0, none⟩), .agg #[.int .i64 k1, .string n1, .int .i64 v1, .slice A1 us.length c1]] W' _ from hn).mono ?_
    rintro e w' ⟨he, ofs', hM', hg'⟩
    refine ⟨by rw [he, HZ.out, if_neg HSN.out], ofs', hM', Gb.trans (below_grown hb _) hg'⟩
  have HC := Lib.hid hcall; clear hcall
  by_cases hy0 : y = 0
  · have hyb : (y == 0) = true := by rw [hy0]; rfl
    have HY0 := Lib.hid hy0; clear hy0
    rcases hs' with hkb | ⟨hk0, hvb⟩
    · go_enter Tryd.func84, Tryd.ntmps84
      go_wp2_with fail
      rw [← hW]
      have HW := Lib.hid hW; clear hW
      go_region
      rw [← hW2]
      have HW2 := Lib.hid hW2; clear hW2
      go_wp2_with fail
      go_quiet (fail)
      go_wp2_with fail
      have hbmz : bm < W2.heap.size := by have := HZ2.out; omega
      have hNz : w.heap.size < W2.heap.size := by have := HZ2.out; omega
      have hWz : W.heap.size < W2.heap.size := by have := HZ2.out; omega
      have q1 : Ao ≠ bm := by have := HM.out.ne; omega
      have q2 : Ao ≠ w.heap.size := by omega
      have q3 : Ao ≠ W.heap.size := by omega
      go_region_held3 (fun w' => w'.cell? ⟨bm, 1, none⟩ = some (.slice (some ⟨Ao, offo, none⟩) S.length co) ∧ w'.cell? ⟨w.heap.size, 2, none⟩ = some (.int .i64 u) ∧ w'.cell? ⟨W.heap.size, 0, none⟩ = some (.int .i64 k1) ∧ w'.cell? ⟨W.heap.size, 1, none⟩ = some (.string n1) ∧ w'.cell? ⟨W.heap.size, 2, none⟩ = some (.int .i64 v1) ∧ w'.cell? ⟨W.heap.size, 3, none⟩ = some (.slice A1 us.length c1))
        (first | exact ⟨p1, g2, f0, f1, f2, f3⟩ | exact ⟨p1', g2', f0', f1', f2', f3'⟩ | exact ⟨(set_other q1).trans p1', (set_other q2).trans g2', (set_other q3).trans f0', (set_other q3).trans f1', (set_other q3).trans f2', (set_other q3).trans f3'⟩)
        (first | (go_at_call 84; refine (HC.out _ ?_).mono ?_; (exact pw_drewN' _ _); rintro e w3 ⟨rfl, of3, hM3, hg3⟩; have p1' := hM3.c1; have g2' := (gcell hg3 hNz (by intro e; cases e; omega) 2).trans g2; have f0' := (gcell hg3 hWz (by intro e; cases e; omega) 0).trans f0; have f1' := (gcell hg3 hWz (by intro e; cases e; omega) 1).trans f1; have f2' := (gcell hg3 hWz (by intro e; cases e; omega) 2).trans f2; have f3' := (gcell hg3 hWz (by intro e; cases e; omega) 3).trans f3; have r3 := (hM3.row u (by rw [hM3.len]; exact hu)).1; have r4 := (hM3.row u (by rw [hM3.len]; exact hu)).2; have HM3 := Lib.hid hM3; clear hM3; have HG3 := Lib.hid hg3; clear hg3))
      have hM4 := HM3.out.store u hu (sz u) hgv hszb
      have hG4 : W2.grownBy (w3.setCell ⟨Ao, offo + u, none⟩ (.int .i64 (sz u))) (some Ao) := Gb.set HG3.out _ _
      have p1'' := hM4.c1
      have g2'' : (w3.setCell ⟨Ao, offo + u, none⟩ (.int .i64 (sz u))).cell? ⟨w.heap.size, 2, none⟩ = some (.int .i64 u) := (set_other q2).trans g2'
      have r3' : (w3.setCell ⟨Ao, offo + u, none⟩ (.int .i64 (sz u))).cell? ⟨Ao, offo + u, none⟩ = some (.int .i64 (sz u)) := World.cell?_setCell_same _ _ _ r3
      have HM4 := Lib.hid hM4; clear hM4
      have HG4 := Lib.hid hG4; clear hG4
      clear p1' g2' f0' f1' f2' f3' r3 r4 q1 q2 q3
      generalize w3.setCell ⟨Ao, offo + u, none⟩ (.int .i64 (sz u)) = W4 at *
      go_wp2_with fail
      go_quiet (fail)
      go_wp2_with fail
      go_ret
      exact ⟨rfl, _, HM4.out.keep (pw_drewN' _ _), Gb.drewN (Gb.trans (below_grown HG.out _) (Gb.trans (below_grown HG2.out _) HG4.out)) _⟩
    · subst hk0
      go_enter Tryd.func84, Tryd.ntmps84
      go_wp2_with fail
      rw [← hW]
      have HW := Lib.hid hW; clear hW
      go_region
      rw [← hW2]
      have HW2 := Lib.hid hW2; clear hW2
      go_wp2_with fail
      go_quiet (fail)
      go_wp2_with fail
      have hbmz : bm < W2.heap.size := by have := HZ2.out; omega
      have hNz : w.heap.size < W2.heap.size := by have := HZ2.out; omega
      have hWz : W.heap.size < W2.heap.size := by have := HZ2.out; omega
      have q1 : Ao ≠ bm := by have := HM.out.ne; omega
      have q2 : Ao ≠ w.heap.size := by omega
      have q3 : Ao ≠ W.heap.size := by omega
      go_region_held3 (fun w' => w'.cell? ⟨bm, 1, none⟩ = some (.slice (some ⟨Ao, offo, none⟩) S.length co) ∧ w'.cell? ⟨w.heap.size, 2, none⟩ = some (.int .i64 u) ∧ w'.cell? ⟨W.heap.size, 0, none⟩ = some (.int .i64 0) ∧ w'.cell? ⟨W.heap.size, 1, none⟩ = some (.string n1) ∧ w'.cell? ⟨W.heap.size, 2, none⟩ = some (.int .i64 v1) ∧ w'.cell? ⟨W.heap.size, 3, none⟩ = some (.slice A1 us.length c1))
        (first | exact ⟨p1, g2, f0, f1, f2, f3⟩ | exact ⟨p1', g2', f0', f1', f2', f3'⟩ | exact ⟨(set_other q1).trans p1', (set_other q2).trans g2', (set_other q3).trans f0', (set_other q3).trans f1', (set_other q3).trans f2', (set_other q3).trans f3'⟩)
        (first | (go_at_call 84; refine (HC.out _ ?_).mono ?_; (exact pw_drewN' _ _); rintro e w3 ⟨rfl, of3, hM3, hg3⟩; have p1' := hM3.c1; have g2' := (gcell hg3 hNz (by intro e; cases e; omega) 2).trans g2; have f0' := (gcell hg3 hWz (by intro e; cases e; omega) 0).trans f0; have f1' := (gcell hg3 hWz (by intro e; cases e; omega) 1).trans f1; have f2' := (gcell hg3 hWz (by intro e; cases e; omega) 2).trans f2; have f3' := (gcell hg3 hWz (by intro e; cases e; omega) 3).trans f3; have r3 := (hM3.row u (by rw [hM3.len]; exact hu)).1; have r4 := (hM3.row u (by rw [hM3.len]; exact hu)).2; have HM3 := Lib.hid hM3; clear hM3; have HG3 := Lib.hid hg3; clear hg3))
      have hM4 := HM3.out.store u hu (sz u) hgv hszb
      have hG4 : W2.grownBy (w3.setCell ⟨Ao, offo + u, none⟩ (.int .i64 (sz u))) (some Ao) := Gb.set HG3.out _ _
      have p1'' := hM4.c1
      have g2'' : (w3.setCell ⟨Ao, offo + u, none⟩ (.int .i64 (sz u))).cell? ⟨w.heap.size, 2, none⟩ = some (.int .i64 u) := (set_other q2).trans g2'
      have r3' : (w3.setCell ⟨Ao, offo + u, none⟩ (.int .i64 (sz u))).cell? ⟨Ao, offo + u, none⟩ = some (.int .i64 (sz u)) := World.cell?_setCell_same _ _ _ r3
      have HM4 := Lib.hid hM4; clear hM4
      have HG4 := Lib.hid hG4; clear hG4
      clear p1' g2' f0' f1' f2' f3' r3 r4 q1 q2 q3
      generalize w3.setCell ⟨Ao, offo + u, none⟩ (.int .i64 (sz u)) = W4 at *
      go_wp2_with fail
      go_quiet (fail)
      go_wp2_with fail
      go_ret
      exact ⟨rfl, _, HM4.out.keep (pw_drewN' _ _), Gb.drewN (Gb.trans (below_grown HG.out _) (Gb.trans (below_grown HG2.out _) HG4.out)) _⟩
  · have hyb : (y == 0) = false := by rw [beq_eq_false_iff_ne]; exact hy0
    have HY0 := Lib.hid hy0; clear hy0
    rcases hs' with hkb | ⟨hk0, hvb⟩
    · go_enter Tryd.func84, Tryd.ntmps84
      go_wp2_with fail
      rw [← hW]
      have HW := Lib.hid hW; clear hW
      go_region
      rw [← hW2]
      have HW2 := Lib.hid hW2; clear hW2
      go_wp2_with fail
      go_quiet (fail)
      go_wp2_with fail
      go_quiet (fail)
      go_wp2_with fail
      go_ret
      have hye : y = sz (u : Int) := by
        rcases HINV.out with h | h
        · exact absurd h HY0.out
        · exact h.2
      exact ⟨ret_int hye, ofs, (HM2.out.keep (pw_drewN' _ _)).keep (pw_drewN' _ _), Gb.drewN (Gb.drewN (Gb.trans (below_grown HG.out _) (below_grown HG2.out _)) _) _⟩
    · subst hk0
      go_enter Tryd.func84, Tryd.ntmps84
      go_wp2_with fail
      rw [← hW]
      have HW := Lib.hid hW; clear hW
      go_region
      rw [← hW2]
      have HW2 := Lib.hid hW2; clear hW2
      go_wp2_with fail
      go_quiet (fail)
      go_wp2_with fail
      go_quiet (fail)
      go_wp2_with fail
      go_ret
      have hye : y = sz (u : Int) := by
        rcases HINV.out with h | h
        · exact absurd h HY0.out
        · exact h.2
      exact ⟨ret_int hye, ofs, (HM2.out.keep (pw_drewN' _ _)).keep (pw_drewN' _ _), Gb.drewN (Gb.drewN (Gb.trans (below_grown HG.out _) (below_grown HG2.out _)) _) _⟩
end Go.Proofs.YtoafghnieebimaaDoor
