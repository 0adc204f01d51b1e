/- The contract of provenanceref1.typeError: it computes the same check, counting up. -/
import Derived.Test.YtoafghnieebimaaDoorC
namespace Go.Proofs.YtoafghnieebimaaDoor
open Go.RowKit
def TePost (w : World) (r : Int × Int) (e : Ending) (w' : World) : Prop := e = .returned (.tuple #[.int .i64 (4096 - r.1), .int .i64 r.2]) ∧ Below w.heap.size w w'
def TeSays (t : Ty) : Prop := ∀ (A : Option Addr) (c : Nat) (row : Bool) (depth seen : Int) (B : Nat) (w : World), 0 ≤ seen → seen ≤ 4096 → B ≤ w.heap.size → 0 ≤ depth → depth ≤ 401 → ArgsAt w (· < B) A t.args →
    Calls Tryd.prog 54 #[.agg #[.int .i64 t.kind, .string t.name, .int .i64 t.var, .slice A t.args.length c], .bool row, .int .i64 depth, .int .i64 seen] w fun e w' => TePost w (chk t row depth (4096 - seen)) e w'
theorem te_end {w w' : World} {s x : Int} {r : Int × Int} (h : s = 4096 - r.1) (hx : x = r.2) (hb : Below w.heap.size w w') : TePost w r (.returned (.tuple #[.int .i64 s, .int .i64 x])) w' := ⟨by rw [h, hx], hb⟩
theorem pw_drewN {B : Nat} {w W : World} (h : Below B w W) (n : Nat) : Below B w (W.drewN n) := ⟨h.os, h.tape, h.output, h.size, h.block⟩

set_option maxRecDepth 100000 in
set_option maxHeartbeats 8000000 in
theorem te_says : ∀ t, TeSays t := by
  apply Ty.ind
  intro k n v ts ih A c row depth seen B w hl0 hl1 hB hd0 hd1 hA
  show Calls Tryd.prog 54 #[.agg #[.int .i64 k, .string n, .int .i64 v, .slice A ts.length c], .bool row, .int .i64 depth, .int .i64 seen] w fun e w' => TePost w (chk (.mk k n v ts) row depth (4096 - seen)) e w'
  replace hA : ArgsAt w (· < B) A ts := hA
  have hm := hA.1
  by_cases h0 : seen = 4096
  · rw [chk_bad (e := 2) (by unfold headErr; rw [if_pos (by omega)]) (by decide)]
    subst h0
    clear ih hA
    go_enter Tryd.func54, Tryd.ntmps54
    go_wp2_with fail
    go_ret2
    exact te_end (by simp) rfl (Below.alloc (Below.alloc (Below.refl _ _) (Nat.le_refl _) _) (by simp) _)
  have h0' : seen ≤ 4095 := by omega
  have hlt : decide (4096 < seen + 1) = false := by simp; omega
  by_cases h1 : 400 < depth
  · rw [chk_bad (e := 2) (by unfold headErr; rw [if_pos (by omega)]) (by decide)]
    clear ih hA
    go_enter Tryd.func54, Tryd.ntmps54
    go_wp2_with fail
    go_ret2
    exact te_end (by simp; omega) rfl (Below.alloc (Below.alloc (Below.refl _ _) (Nat.le_refl _) _) (by simp) _)
  have hE0 : headErr k n v ts.length row depth (4096 - seen - 1) = if k < 0 ∨ 5 < k then 9 else if (0 ≤ arity k ∧ (ts.length : Int) ≠ arity k) ∨ (k ≠ 0 ∧ v ≠ 0) ∨ (k ≠ 1 ∧ k ≠ 5 ∧ n.toList.isEmpty = false) then 3 else if k ≠ 0 ∧ row ≠ decide (4 ≤ k) then 9 else if k = 0 ∧ (v < 0 ∨ 4096 ≤ v) then 4 else 0 := by
    unfold headErr; rw [if_neg (by omega)]
  by_cases h2 : k < 0
  · rw [chk_bad (e := 9) (by rw [hE0, if_pos (by omega)]) (by decide)]
    clear ih hA hE0
    go_enter Tryd.func54, Tryd.ntmps54
    go_wp2_with fail
    go_ret2
    exact te_end (by simp; omega) rfl (Below.alloc (Below.alloc (Below.refl _ _) (Nat.le_refl _) _) (by simp) _)
  by_cases h3 : 5 < k
  · rw [chk_bad (e := 9) (by rw [hE0, if_pos (by omega)]) (by decide)]
    clear ih hA hE0
    go_enter Tryd.func54, Tryd.ntmps54
    go_wp2_with fail
    go_ret2
    exact te_end (by simp; omega) rfl (Below.alloc (Below.alloc (Below.refl _ _) (Nat.le_refl _) _) (by simp) _)
  rw [if_neg (by omega)] at hE0
  have HE := Lib.hid hE0; clear hE0
  have HI := Lib.hid ih; clear ih
  have HA := Lib.hid hA; clear hA
  have hm' : (ts.length : Int) ≤ 9223372036854775807 := by omega
  go_enter Tryd.func54, Tryd.ntmps54
  go_wp2_with fail
  obtain ⟨W, hW⟩ : ∃ W : World, W = (w.alloc (.cells #[.int .i64 k, .string n, .int .i64 v, .slice A ts.length c] 27)).alloc (.cells #[.int .i64 0, .int .i64 (-1), .int .i64 3, .int .i64 1, .int .i64 0, .int .i64 2] 3) := ⟨_, rfl⟩
  have hg : Below w.heap.size w W := by rw [hW]; exact Below.alloc (Below.alloc (Below.refl _ _) (Nat.le_refl _) _) (by simp) _
  have d0 : W.cell? ⟨w.heap.size, 0, none⟩ = some (.int .i64 k) := by rw [hW]; simp [go_sem]
  have d1 : W.cell? ⟨w.heap.size, 1, none⟩ = some (.string n) := by rw [hW]; simp [go_sem]
  have d2 : W.cell? ⟨w.heap.size, 2, none⟩ = some (.int .i64 v) := by rw [hW]; simp [go_sem]
  have d3 : W.cell? ⟨w.heap.size, 3, none⟩ = some (.slice A ts.length c) := by rw [hW]; simp [go_sem]
  have t0 : W.cell? ⟨w.heap.size + 1, 0, none⟩ = some (.int .i64 0) := by rw [hW]; simp [go_sem]
  have t1 : W.cell? ⟨w.heap.size + 1, 1, none⟩ = some (.int .i64 (-1)) := by rw [hW]; simp [go_sem]
  have t2 : W.cell? ⟨w.heap.size + 1, 2, none⟩ = some (.int .i64 3) := by rw [hW]; simp [go_sem]
  have t3 : W.cell? ⟨w.heap.size + 1, 3, none⟩ = some (.int .i64 1) := by rw [hW]; simp [go_sem]
  have t4 : W.cell? ⟨w.heap.size + 1, 4, none⟩ = some (.int .i64 0) := by rw [hW]; simp [go_sem]
  have t5 : W.cell? ⟨w.heap.size + 1, 5, none⟩ = some (.int .i64 2) := by rw [hW]; simp [go_sem]
  have hz : w.heap.size < W.heap.size := by rw [hW]; simp; omega
  rw [← hW]
  clear hW
  have HA1 := Lib.hid (HA.out.under (hg.mono hB))
  have HG := Lib.hid hg; clear hg HA
  obtain ⟨N, hN⟩ : ∃ N, N = w.heap.size := ⟨_, rfl⟩
  rw [← hN] at hz d0 d1 d2 d3 t0 t1 t2 t3 t4 t5 hB ⊢
  have HN := Lib.hid hN; clear hN
  obtain rfl | rfl | rfl | rfl | rfl | rfl : k = 0 ∨ k = 1 ∨ k = 2 ∨ k = 3 ∨ k = 4 ∨ k = 5 := by omega
  · clear t1 t2 t3 t4 t5
    by_cases hmm : (ts.length : Int) ≠ 0
    · have hmb : ((0 : Int) != (ts.length : Int)) = true := by rw [bne_iff_ne]; omega
      go_quiet (fail)
      go_wp2_with fail
      go_ret2
      rw [chk_bad (e := 3) (HE.out.trans (if_pos (.inl ⟨by decide, hmm⟩))) (by decide)]
      exact te_end (by simp; omega) rfl (pw_drewN HG.out _)
    have hmb : ((0 : Int) != (ts.length : Int)) = false := by rw [Decidable.not_not.1 hmm]; rfl
    have HM := Lib.hid hmm; clear hmm
    by_cases hn : n.toList.isEmpty = false
    · have HN0 := Lib.hid hn
      go_quiet (fail)
      go_wp2_with fail
      go_ret2
      rw [chk_bad (e := 3) (HE.out.trans (if_pos (.inr (.inr ⟨by decide, by decide, HN0.out⟩)))) (by decide)]
      exact te_end (by simp; omega) rfl (pw_drewN HG.out _)
    have hnb : n.toList.isEmpty = true := by simpa using hn
    have HN0 := Lib.hid hn; clear hn
    have H3 : ¬ ((0 ≤ arity 0 ∧ (ts.length : Int) ≠ arity 0) ∨ ((0 : Int) ≠ 0 ∧ v ≠ 0) ∨ ((0 : Int) ≠ 1 ∧ (0 : Int) ≠ 5 ∧ n.toList.isEmpty = false)) := not_or.2 ⟨(fun h => HM.out h.2), not_or.2 ⟨(fun h => absurd h.1 (by decide)), (fun h => HN0.out h.2.2)⟩⟩
    have HE3 := Lib.hid (HE.out.trans (if_neg H3)); clear HE H3
    by_cases hv : v < 0
    · go_quiet (fail)
      go_wp2_with fail
      go_ret2
      rw [chk_bad (e := 4) (HE3.out.trans ((if_neg (fun h => absurd rfl h.1)).trans (if_pos ⟨by trivial, .inl hv⟩))) (by decide)]
      exact te_end (by simp; omega) rfl (pw_drewN HG.out _)
    by_cases hv2 : 4096 ≤ v
    · go_quiet (fail)
      go_wp2_with fail
      go_ret2
      rw [chk_bad (e := 4) (HE3.out.trans ((if_neg (fun h => absurd rfl h.1)).trans (if_pos ⟨by trivial, .inr hv2⟩))) (by decide)]
      exact te_end (by simp; omega) rfl (pw_drewN HG.out _)
    have HZ := Lib.hid (HE3.out.trans ((if_neg (fun h => absurd rfl h.1)).trans (if_neg (by omega)))); clear HE3
    go_quiet (fail)
    go_wp2_with fail
    have hzq : N < (W.drewN nq).heap.size := hz
    have hdq : (W.drewN nq).cell? ⟨N, 0, none⟩ = some (.int .i64 0) := d0
    have HAq : Hid (ArgsAt (W.drewN nq) (· < B) A ts) := Lib.hid (ArgsAt.keep (w := W) (w1 := W.drewN nq) (fun b h => ⟨h, rfl⟩) HA1.out)
    have HGq : Hid (Below w.heap.size w (W.drewN nq)) := Lib.hid (pw_drewN HG.out _)
    have HR := Lib.hid (chk_ok HZ.out)
    clear HA1 HG HZ d0 d1 d2 d3 hz t0
    generalize W.drewN nq = Wq at *
    go_loopg [3, 106] ts.length (fun g y x wr => ∃ i : Nat, ∃ si : Int, i + g = ts.length ∧ x = .int .i64 i ∧ y = .int .i64 si ∧ 0 ≤ si ∧ si ≤ 4096 ∧ Hid (chkAll 0 (ts.drop 0) 0 depth (4096 - seen - 1) = chkAll 0 (ts.drop i) i depth (4096 - si)) ∧ Hid (Below Wq.heap.size Wq wr))
    case atStart => exact ⟨0, seen + 1, by omega, rfl, rfl, by omega, by omega, Lib.hid (by rw [show 4096 - (seen + 1) = 4096 - seen - 1 by omega]), Lib.hid (Below.refl _ _)⟩
    case round =>
      obtain ⟨i, si, hig, rfl, rfl, hli0, hli1, HCk, Hgr⟩ := hrel
      have hdr : wr.cell? ⟨N, 0, none⟩ = some (.int .i64 0) := (Hgr.out.cell (p := ⟨N, 0, none⟩) hzq).trans hdq
      have hsz : Wq.heap.size ≤ wr.heap.size := Hgr.out.size
      by_cases hlt : i < ts.length
      · rcases (HAq.out.under (Hgr.out.mono (by omega))).elem with h | ⟨b', off', hAeq, hel⟩
        · exact absurd hlt (by omega)
        subst hAeq
        obtain ⟨k1, n1, v1, us, A1, c1, ht, hb1, e0, e1, e2, e3, hA1, _⟩ := hel i hlt
        clear hel
        have hNr : N < wr.heap.size := by omega
        have hIH := HI.out _ (List.mem_of_getElem? ht) A1 c1 (rowed 0 i k1) (depth + 1) si B (wr.alloc (.cells #[.int .i64 k1, .string n1, .int .i64 v1, .slice A1 us.length c1] 27)) hli0 hli1
          (by simp; omega) (by omega) (by omega)
          (hA1.keep fun b h => ⟨h, Below.heap_alloc _ _ _ (by omega)⟩)
        replace hIH : Calls Tryd.prog 54 #[.agg #[.int .i64 k1, .string n1, .int .i64 v1, .slice A1 us.length c1], .bool (rowed 0 i k1), .int .i64 (depth + 1), .int .i64 si] _ _ := hIH
        have hst := chkAll_step (k := 0) ht depth (4096 - si)
        have hle := chk_left (.mk k1 n1 v1 us) (rowed 0 i k1) (depth + 1) (4096 - si)
        replace hst : _ = if (chk (.mk k1 n1 v1 us) (rowed 0 i k1) (depth + 1) (4096 - si)).2 ≠ 0 then _ else _ := hst
        rw [show rowed 0 i (Ty.kind (.mk k1 n1 v1 us)) = rowed 0 i k1 from rfl] at hst
        generalize chk (.mk k1 n1 v1 us) (rowed 0 i k1) (depth + 1) (4096 - si) = r at *
        have HST := Lib.hid hst; clear hst
        have HLE := Lib.hid hle; clear hle
        clear hA1
        have hgw : Below wr.heap.size wr (wr.alloc (.cells #[.int .i64 k1, .string n1, .int .i64 v1, .slice A1 us.length c1] 27)) := Below.alloc (Below.refl _ _) (Nat.le_refl _) _
        have HGW := Lib.hid hgw; clear hgw
        have HIH := Lib.hid hIH; clear hIH
        rw [show rowed 0 i k1 = false from by simp [rowed]] at HIH
        by_cases hr : r.2 = 0
        · have hrb : (r.2 != 0) = false := by rw [hr]; rfl
          have HRR := Lib.hid hr; clear hr
          go_wp2_with fail
          refine HIH.out.mono ?_
          rintro e w2 ⟨rfl, hg2⟩
          have Hg2 := Lib.hid hg2; clear hg2
          go_wp2_with fail
          go_roundg (ts.length - (i + 1))
          case measure => omega
          case rel => exact ⟨i + 1, 4096 - r.1, by omega, by go_num, rfl, by have := HLE.out.1; omega, by have := HLE.out.2 HRR.out; omega, Lib.hid (HCk.out.trans (HST.out.trans ((if_neg (fun h => h HRR.out)).trans (by rw [show 4096 - (4096 - r.1) = r.1 by omega])))), Lib.hid (Hgr.out.trans ((HGW.out.trans (Hg2.out.mono (by simp))).mono (by omega)))⟩
        · have hrb : (r.2 != 0) = true := by rw [bne_iff_ne]; exact hr
          have HRR := Lib.hid hr; clear hr
          go_wp2_with fail
          refine HIH.out.mono ?_
          rintro e w2 ⟨rfl, hg2⟩
          have Hg2 := Lib.hid hg2; clear hg2
          go_wp2_with fail
          go_ret2
          rw [HR.out, HCk.out, HST.out, if_pos HRR.out]
          exact te_end rfl rfl (HGq.out.trans ((Hgr.out.trans ((HGW.out.trans (Hg2.out.mono (by simp))).mono (by omega))).mono HGq.out.size))
      · have hie : i = ts.length := by omega
        go_wp2_with fail
        go_ret2
        rw [HR.out, HCk.out, chkAll_end (by omega)]
        exact te_end (by show si = 4096 - (4096 - si); omega) rfl (HGq.out.trans (Hgr.out.mono HGq.out.size))
  · clear t0 t2 t3 t4 t5
    by_cases hv : v ≠ 0
    · have hvb : (v != 0) = true := by rw [bne_iff_ne]; exact hv
      go_quiet (fail)
      go_wp2_with fail
      go_ret2
      rw [chk_bad (e := 3) (HE.out.trans (if_pos (.inr (.inl ⟨by decide, hv⟩)))) (by decide)]
      exact te_end (by simp; omega) rfl (pw_drewN HG.out _)
    have hvb : (v != 0) = false := by rw [Decidable.not_not.1 hv]; rfl
    have HV := Lib.hid hv; clear hv
    have H3 : ¬ ((0 ≤ arity 1 ∧ (ts.length : Int) ≠ arity 1) ∨ ((1 : Int) ≠ 0 ∧ v ≠ 0) ∨ ((1 : Int) ≠ 1 ∧ (1 : Int) ≠ 5 ∧ n.toList.isEmpty = false)) := not_or.2 ⟨(fun h => absurd h.1 (by decide)), not_or.2 ⟨(fun h => HV.out h.2), (fun h => absurd rfl (h.1))⟩⟩
    have HE3 := Lib.hid (HE.out.trans (if_neg H3)); clear HE H3
    by_cases hr : row = true
    · subst hr
      go_quiet (fail)
      go_wp2_with fail
      go_ret2
      rw [chk_bad (e := 9) (HE3.out.trans (if_pos ⟨by decide, by decide⟩)) (by decide)]
      exact te_end (by simp; omega) rfl (pw_drewN HG.out _)
    obtain rfl : row = false := by simpa using hr
    clear hr
    have HZ := Lib.hid (HE3.out.trans ((if_neg (fun h => absurd h.2 (by decide))).trans (if_neg (fun h => absurd h.1 (by decide))))); clear HE3
    go_quiet (fail)
    go_wp2_with fail
    have hzq : N < (W.drewN nq).heap.size := hz
    have hdq : (W.drewN nq).cell? ⟨N, 0, none⟩ = some (.int .i64 1) := d0
    have HAq : Hid (ArgsAt (W.drewN nq) (· < B) A ts) := Lib.hid (ArgsAt.keep (w := W) (w1 := W.drewN nq) (fun b h => ⟨h, rfl⟩) HA1.out)
    have HGq : Hid (Below w.heap.size w (W.drewN nq)) := Lib.hid (pw_drewN HG.out _)
    have HR := Lib.hid (chk_ok HZ.out)
    clear HA1 HG HZ d0 d1 d2 d3 hz t1
    generalize W.drewN nq = Wq at *
    go_loopg [3, 106] ts.length (fun g y x wr => ∃ i : Nat, ∃ si : Int, i + g = ts.length ∧ x = .int .i64 i ∧ y = .int .i64 si ∧ 0 ≤ si ∧ si ≤ 4096 ∧ Hid (chkAll 1 (ts.drop 0) 0 depth (4096 - seen - 1) = chkAll 1 (ts.drop i) i depth (4096 - si)) ∧ Hid (Below Wq.heap.size Wq wr))
    case atStart => exact ⟨0, seen + 1, by omega, rfl, rfl, by omega, by omega, Lib.hid (by rw [show 4096 - (seen + 1) = 4096 - seen - 1 by omega]), Lib.hid (Below.refl _ _)⟩
    case round =>
      obtain ⟨i, si, hig, rfl, rfl, hli0, hli1, HCk, Hgr⟩ := hrel
      have hdr : wr.cell? ⟨N, 0, none⟩ = some (.int .i64 1) := (Hgr.out.cell (p := ⟨N, 0, none⟩) hzq).trans hdq
      have hsz : Wq.heap.size ≤ wr.heap.size := Hgr.out.size
      by_cases hlt : i < ts.length
      · rcases (HAq.out.under (Hgr.out.mono (by omega))).elem with h | ⟨b', off', hAeq, hel⟩
        · exact absurd hlt (by omega)
        subst hAeq
        obtain ⟨k1, n1, v1, us, A1, c1, ht, hb1, e0, e1, e2, e3, hA1, _⟩ := hel i hlt
        clear hel
        have hNr : N < wr.heap.size := by omega
        have hIH := HI.out _ (List.mem_of_getElem? ht) A1 c1 (rowed 1 i k1) (depth + 1) si B (wr.alloc (.cells #[.int .i64 k1, .string n1, .int .i64 v1, .slice A1 us.length c1] 27)) hli0 hli1
          (by simp; omega) (by omega) (by omega)
          (hA1.keep fun b h => ⟨h, Below.heap_alloc _ _ _ (by omega)⟩)
        replace hIH : Calls Tryd.prog 54 #[.agg #[.int .i64 k1, .string n1, .int .i64 v1, .slice A1 us.length c1], .bool (rowed 1 i k1), .int .i64 (depth + 1), .int .i64 si] _ _ := hIH
        have hst := chkAll_step (k := 1) ht depth (4096 - si)
        have hle := chk_left (.mk k1 n1 v1 us) (rowed 1 i k1) (depth + 1) (4096 - si)
        replace hst : _ = if (chk (.mk k1 n1 v1 us) (rowed 1 i k1) (depth + 1) (4096 - si)).2 ≠ 0 then _ else _ := hst
        rw [show rowed 1 i (Ty.kind (.mk k1 n1 v1 us)) = rowed 1 i k1 from rfl] at hst
        generalize chk (.mk k1 n1 v1 us) (rowed 1 i k1) (depth + 1) (4096 - si) = r at *
        have HST := Lib.hid hst; clear hst
        have HLE := Lib.hid hle; clear hle
        clear hA1
        have hgw : Below wr.heap.size wr (wr.alloc (.cells #[.int .i64 k1, .string n1, .int .i64 v1, .slice A1 us.length c1] 27)) := Below.alloc (Below.refl _ _) (Nat.le_refl _) _
        have HGW := Lib.hid hgw; clear hgw
        have HIH := Lib.hid hIH; clear hIH
        rw [show rowed 1 i k1 = decide (3 < k1) from (by simp [rowed]; omega)] at HIH
        by_cases hr : r.2 = 0
        · have hrb : (r.2 != 0) = false := by rw [hr]; rfl
          have HRR := Lib.hid hr; clear hr
          go_wp2_with fail
          refine HIH.out.mono ?_
          rintro e w2 ⟨rfl, hg2⟩
          have Hg2 := Lib.hid hg2; clear hg2
          go_wp2_with fail
          go_roundg (ts.length - (i + 1))
          case measure => omega
          case rel => exact ⟨i + 1, 4096 - r.1, by omega, by go_num, rfl, by have := HLE.out.1; omega, by have := HLE.out.2 HRR.out; omega, Lib.hid (HCk.out.trans (HST.out.trans ((if_neg (fun h => h HRR.out)).trans (by rw [show 4096 - (4096 - r.1) = r.1 by omega])))), Lib.hid (Hgr.out.trans ((HGW.out.trans (Hg2.out.mono (by simp))).mono (by omega)))⟩
        · have hrb : (r.2 != 0) = true := by rw [bne_iff_ne]; exact hr
          have HRR := Lib.hid hr; clear hr
          go_wp2_with fail
          refine HIH.out.mono ?_
          rintro e w2 ⟨rfl, hg2⟩
          have Hg2 := Lib.hid hg2; clear hg2
          go_wp2_with fail
          go_ret2
          rw [HR.out, HCk.out, HST.out, if_pos HRR.out]
          exact te_end rfl rfl (HGq.out.trans ((Hgr.out.trans ((HGW.out.trans (Hg2.out.mono (by simp))).mono (by omega))).mono HGq.out.size))
      · have hie : i = ts.length := by omega
        go_wp2_with fail
        go_ret2
        rw [HR.out, HCk.out, chkAll_end (by omega)]
        exact te_end (by show si = 4096 - (4096 - si); omega) rfl (HGq.out.trans (Hgr.out.mono HGq.out.size))
  · clear t0 t1 t3 t4 t5
    by_cases hmm : (ts.length : Int) ≠ 3
    · have hmb : ((3 : Int) != (ts.length : Int)) = true := by rw [bne_iff_ne]; omega
      go_quiet (fail)
      go_wp2_with fail
      go_ret2
      rw [chk_bad (e := 3) (HE.out.trans (if_pos (.inl ⟨by decide, hmm⟩))) (by decide)]
      exact te_end (by simp; omega) rfl (pw_drewN HG.out _)
    have hmb : ((3 : Int) != (ts.length : Int)) = false := by rw [Decidable.not_not.1 hmm]; rfl
    have HM := Lib.hid hmm; clear hmm
    by_cases hv : v ≠ 0
    · have hvb : (v != 0) = true := by rw [bne_iff_ne]; exact hv
      go_quiet (fail)
      go_wp2_with fail
      go_ret2
      rw [chk_bad (e := 3) (HE.out.trans (if_pos (.inr (.inl ⟨by decide, hv⟩)))) (by decide)]
      exact te_end (by simp; omega) rfl (pw_drewN HG.out _)
    have hvb : (v != 0) = false := by rw [Decidable.not_not.1 hv]; rfl
    have HV := Lib.hid hv; clear hv
    by_cases hn : n.toList.isEmpty = false
    · have HN0 := Lib.hid hn
      go_quiet (fail)
      go_wp2_with fail
      go_ret2
      rw [chk_bad (e := 3) (HE.out.trans (if_pos (.inr (.inr ⟨by decide, by decide, HN0.out⟩)))) (by decide)]
      exact te_end (by simp; omega) rfl (pw_drewN HG.out _)
    have hnb : n.toList.isEmpty = true := by simpa using hn
    have HN0 := Lib.hid hn; clear hn
    have H3 : ¬ ((0 ≤ arity 2 ∧ (ts.length : Int) ≠ arity 2) ∨ ((2 : Int) ≠ 0 ∧ v ≠ 0) ∨ ((2 : Int) ≠ 1 ∧ (2 : Int) ≠ 5 ∧ n.toList.isEmpty = false)) := not_or.2 ⟨(fun h => HM.out h.2), not_or.2 ⟨(fun h => HV.out h.2), (fun h => HN0.out h.2.2)⟩⟩
    have HE3 := Lib.hid (HE.out.trans (if_neg H3)); clear HE H3
    by_cases hr : row = true
    · subst hr
      go_quiet (fail)
      go_wp2_with fail
      go_ret2
      rw [chk_bad (e := 9) (HE3.out.trans (if_pos ⟨by decide, by decide⟩)) (by decide)]
      exact te_end (by simp; omega) rfl (pw_drewN HG.out _)
    obtain rfl : row = false := by simpa using hr
    clear hr
    have HZ := Lib.hid (HE3.out.trans ((if_neg (fun h => absurd h.2 (by decide))).trans (if_neg (fun h => absurd h.1 (by decide))))); clear HE3
    go_quiet (fail)
    go_wp2_with fail
    have hzq : N < (W.drewN nq).heap.size := hz
    have hdq : (W.drewN nq).cell? ⟨N, 0, none⟩ = some (.int .i64 2) := d0
    have HAq : Hid (ArgsAt (W.drewN nq) (· < B) A ts) := Lib.hid (ArgsAt.keep (w := W) (w1 := W.drewN nq) (fun b h => ⟨h, rfl⟩) HA1.out)
    have HGq : Hid (Below w.heap.size w (W.drewN nq)) := Lib.hid (pw_drewN HG.out _)
    have HR := Lib.hid (chk_ok HZ.out)
    clear HA1 HG HZ d0 d1 d2 d3 hz t2
    generalize W.drewN nq = Wq at *
    go_loopg [3, 106] ts.length (fun g y x wr => ∃ i : Nat, ∃ si : Int, i + g = ts.length ∧ x = .int .i64 i ∧ y = .int .i64 si ∧ 0 ≤ si ∧ si ≤ 4096 ∧ Hid (chkAll 2 (ts.drop 0) 0 depth (4096 - seen - 1) = chkAll 2 (ts.drop i) i depth (4096 - si)) ∧ Hid (Below Wq.heap.size Wq wr))
    case atStart => exact ⟨0, seen + 1, by omega, rfl, rfl, by omega, by omega, Lib.hid (by rw [show 4096 - (seen + 1) = 4096 - seen - 1 by omega]), Lib.hid (Below.refl _ _)⟩
    case round =>
      obtain ⟨i, si, hig, rfl, rfl, hli0, hli1, HCk, Hgr⟩ := hrel
      have hdr : wr.cell? ⟨N, 0, none⟩ = some (.int .i64 2) := (Hgr.out.cell (p := ⟨N, 0, none⟩) hzq).trans hdq
      have hsz : Wq.heap.size ≤ wr.heap.size := Hgr.out.size
      by_cases hlt : i < ts.length
      · rcases (HAq.out.under (Hgr.out.mono (by omega))).elem with h | ⟨b', off', hAeq, hel⟩
        · exact absurd hlt (by omega)
        subst hAeq
        obtain ⟨k1, n1, v1, us, A1, c1, ht, hb1, e0, e1, e2, e3, hA1, _⟩ := hel i hlt
        clear hel
        have hNr : N < wr.heap.size := by omega
        have hIH := HI.out _ (List.mem_of_getElem? ht) A1 c1 (rowed 2 i k1) (depth + 1) si B (wr.alloc (.cells #[.int .i64 k1, .string n1, .int .i64 v1, .slice A1 us.length c1] 27)) hli0 hli1
          (by simp; omega) (by omega) (by omega)
          (hA1.keep fun b h => ⟨h, Below.heap_alloc _ _ _ (by omega)⟩)
        replace hIH : Calls Tryd.prog 54 #[.agg #[.int .i64 k1, .string n1, .int .i64 v1, .slice A1 us.length c1], .bool (rowed 2 i k1), .int .i64 (depth + 1), .int .i64 si] _ _ := hIH
        have hst := chkAll_step (k := 2) ht depth (4096 - si)
        have hle := chk_left (.mk k1 n1 v1 us) (rowed 2 i k1) (depth + 1) (4096 - si)
        replace hst : _ = if (chk (.mk k1 n1 v1 us) (rowed 2 i k1) (depth + 1) (4096 - si)).2 ≠ 0 then _ else _ := hst
        rw [show rowed 2 i (Ty.kind (.mk k1 n1 v1 us)) = rowed 2 i k1 from rfl] at hst
        generalize chk (.mk k1 n1 v1 us) (rowed 2 i k1) (depth + 1) (4096 - si) = r at *
        have HST := Lib.hid hst; clear hst
        have HLE := Lib.hid hle; clear hle
        clear hA1
        have hgw : Below wr.heap.size wr (wr.alloc (.cells #[.int .i64 k1, .string n1, .int .i64 v1, .slice A1 us.length c1] 27)) := Below.alloc (Below.refl _ _) (Nat.le_refl _) _
        have HGW := Lib.hid hgw; clear hgw
        have HIH := Lib.hid hIH; clear hIH
        by_cases hi1 : i = 1
        · have hib : ((i : Int) == 1) = true := by rw [hi1]; rfl
          have HI1 := Lib.hid hi1; clear hi1
          rw [show rowed 2 i k1 = true from by simp [rowed, HI1.out]] at HIH
          by_cases hr : r.2 = 0
          · have hrb : (r.2 != 0) = false := by rw [hr]; rfl
            have HRR := Lib.hid hr; clear hr
            go_wp2_with fail
            refine HIH.out.mono ?_
            rintro e w2 ⟨rfl, hg2⟩
            have Hg2 := Lib.hid hg2; clear hg2
            go_wp2_with fail
            go_roundg (ts.length - (i + 1))
            case measure => omega
            case rel => exact ⟨i + 1, 4096 - r.1, by omega, by go_num, rfl, by have := HLE.out.1; omega, by have := HLE.out.2 HRR.out; omega, Lib.hid (HCk.out.trans (HST.out.trans ((if_neg (fun h => h HRR.out)).trans (by rw [show 4096 - (4096 - r.1) = r.1 by omega])))), Lib.hid (Hgr.out.trans ((HGW.out.trans (Hg2.out.mono (by simp))).mono (by omega)))⟩
          · have hrb : (r.2 != 0) = true := by rw [bne_iff_ne]; exact hr
            have HRR := Lib.hid hr; clear hr
            go_wp2_with fail
            refine HIH.out.mono ?_
            rintro e w2 ⟨rfl, hg2⟩
            have Hg2 := Lib.hid hg2; clear hg2
            go_wp2_with fail
            go_ret2
            rw [HR.out, HCk.out, HST.out, if_pos HRR.out]
            exact te_end rfl rfl (HGq.out.trans ((Hgr.out.trans ((HGW.out.trans (Hg2.out.mono (by simp))).mono (by omega))).mono HGq.out.size))
        · have hib : ((i : Int) == 1) = false := by rw [beq_eq_false_iff_ne]; omega
          rw [show rowed 2 i k1 = false from by simp [rowed, hi1]] at HIH
          by_cases hr : r.2 = 0
          · have hrb : (r.2 != 0) = false := by rw [hr]; rfl
            have HRR := Lib.hid hr; clear hr
            go_wp2_with fail
            refine HIH.out.mono ?_
            rintro e w2 ⟨rfl, hg2⟩
            have Hg2 := Lib.hid hg2; clear hg2
            go_wp2_with fail
            go_roundg (ts.length - (i + 1))
            case measure => omega
            case rel => exact ⟨i + 1, 4096 - r.1, by omega, by go_num, rfl, by have := HLE.out.1; omega, by have := HLE.out.2 HRR.out; omega, Lib.hid (HCk.out.trans (HST.out.trans ((if_neg (fun h => h HRR.out)).trans (by rw [show 4096 - (4096 - r.1) = r.1 by omega])))), Lib.hid (Hgr.out.trans ((HGW.out.trans (Hg2.out.mono (by simp))).mono (by omega)))⟩
          · have hrb : (r.2 != 0) = true := by rw [bne_iff_ne]; exact hr
            have HRR := Lib.hid hr; clear hr
            go_wp2_with fail
            refine HIH.out.mono ?_
            rintro e w2 ⟨rfl, hg2⟩
            have Hg2 := Lib.hid hg2; clear hg2
            go_wp2_with fail
            go_ret2
            rw [HR.out, HCk.out, HST.out, if_pos HRR.out]
            exact te_end rfl rfl (HGq.out.trans ((Hgr.out.trans ((HGW.out.trans (Hg2.out.mono (by simp))).mono (by omega))).mono HGq.out.size))
      · have hie : i = ts.length := by omega
        go_wp2_with fail
        go_ret2
        rw [HR.out, HCk.out, chkAll_end (by omega)]
        exact te_end (by show si = 4096 - (4096 - si); omega) rfl (HGq.out.trans (Hgr.out.mono HGq.out.size))
  · clear t0 t1 t2 t4 t5
    by_cases hmm : (ts.length : Int) ≠ 1
    · have hmb : ((1 : Int) != (ts.length : Int)) = true := by rw [bne_iff_ne]; omega
      go_quiet (fail)
      go_wp2_with fail
      go_ret2
      rw [chk_bad (e := 3) (HE.out.trans (if_pos (.inl ⟨by decide, hmm⟩))) (by decide)]
      exact te_end (by simp; omega) rfl (pw_drewN HG.out _)
    have hmb : ((1 : Int) != (ts.length : Int)) = false := by rw [Decidable.not_not.1 hmm]; rfl
    have HM := Lib.hid hmm; clear hmm
    by_cases hv : v ≠ 0
    · have hvb : (v != 0) = true := by rw [bne_iff_ne]; exact hv
      go_quiet (fail)
      go_wp2_with fail
      go_ret2
      rw [chk_bad (e := 3) (HE.out.trans (if_pos (.inr (.inl ⟨by decide, hv⟩)))) (by decide)]
      exact te_end (by simp; omega) rfl (pw_drewN HG.out _)
    have hvb : (v != 0) = false := by rw [Decidable.not_not.1 hv]; rfl
    have HV := Lib.hid hv; clear hv
    by_cases hn : n.toList.isEmpty = false
    · have HN0 := Lib.hid hn
      go_quiet (fail)
      go_wp2_with fail
      go_ret2
      rw [chk_bad (e := 3) (HE.out.trans (if_pos (.inr (.inr ⟨by decide, by decide, HN0.out⟩)))) (by decide)]
      exact te_end (by simp; omega) rfl (pw_drewN HG.out _)
    have hnb : n.toList.isEmpty = true := by simpa using hn
    have HN0 := Lib.hid hn; clear hn
    have H3 : ¬ ((0 ≤ arity 3 ∧ (ts.length : Int) ≠ arity 3) ∨ ((3 : Int) ≠ 0 ∧ v ≠ 0) ∨ ((3 : Int) ≠ 1 ∧ (3 : Int) ≠ 5 ∧ n.toList.isEmpty = false)) := not_or.2 ⟨(fun h => HM.out h.2), not_or.2 ⟨(fun h => HV.out h.2), (fun h => HN0.out h.2.2)⟩⟩
    have HE3 := Lib.hid (HE.out.trans (if_neg H3)); clear HE H3
    by_cases hr : row = true
    · subst hr
      go_quiet (fail)
      go_wp2_with fail
      go_ret2
      rw [chk_bad (e := 9) (HE3.out.trans (if_pos ⟨by decide, by decide⟩)) (by decide)]
      exact te_end (by simp; omega) rfl (pw_drewN HG.out _)
    obtain rfl : row = false := by simpa using hr
    clear hr
    have HZ := Lib.hid (HE3.out.trans ((if_neg (fun h => absurd h.2 (by decide))).trans (if_neg (fun h => absurd h.1 (by decide))))); clear HE3
    go_quiet (fail)
    go_wp2_with fail
    have hzq : N < (W.drewN nq).heap.size := hz
    have hdq : (W.drewN nq).cell? ⟨N, 0, none⟩ = some (.int .i64 3) := d0
    have HAq : Hid (ArgsAt (W.drewN nq) (· < B) A ts) := Lib.hid (ArgsAt.keep (w := W) (w1 := W.drewN nq) (fun b h => ⟨h, rfl⟩) HA1.out)
    have HGq : Hid (Below w.heap.size w (W.drewN nq)) := Lib.hid (pw_drewN HG.out _)
    have HR := Lib.hid (chk_ok HZ.out)
    clear HA1 HG HZ d0 d1 d2 d3 hz t3
    generalize W.drewN nq = Wq at *
    go_loopg [3, 106] ts.length (fun g y x wr => ∃ i : Nat, ∃ si : Int, i + g = ts.length ∧ x = .int .i64 i ∧ y = .int .i64 si ∧ 0 ≤ si ∧ si ≤ 4096 ∧ Hid (chkAll 3 (ts.drop 0) 0 depth (4096 - seen - 1) = chkAll 3 (ts.drop i) i depth (4096 - si)) ∧ Hid (Below Wq.heap.size Wq wr))
    case atStart => exact ⟨0, seen + 1, by omega, rfl, rfl, by omega, by omega, Lib.hid (by rw [show 4096 - (seen + 1) = 4096 - seen - 1 by omega]), Lib.hid (Below.refl _ _)⟩
    case round =>
      obtain ⟨i, si, hig, rfl, rfl, hli0, hli1, HCk, Hgr⟩ := hrel
      have hdr : wr.cell? ⟨N, 0, none⟩ = some (.int .i64 3) := (Hgr.out.cell (p := ⟨N, 0, none⟩) hzq).trans hdq
      have hsz : Wq.heap.size ≤ wr.heap.size := Hgr.out.size
      by_cases hlt : i < ts.length
      · rcases (HAq.out.under (Hgr.out.mono (by omega))).elem with h | ⟨b', off', hAeq, hel⟩
        · exact absurd hlt (by omega)
        subst hAeq
        obtain ⟨k1, n1, v1, us, A1, c1, ht, hb1, e0, e1, e2, e3, hA1, _⟩ := hel i hlt
        clear hel
        have hNr : N < wr.heap.size := by omega
        have hIH := HI.out _ (List.mem_of_getElem? ht) A1 c1 (rowed 3 i k1) (depth + 1) si B (wr.alloc (.cells #[.int .i64 k1, .string n1, .int .i64 v1, .slice A1 us.length c1] 27)) hli0 hli1
          (by simp; omega) (by omega) (by omega)
          (hA1.keep fun b h => ⟨h, Below.heap_alloc _ _ _ (by omega)⟩)
        replace hIH : Calls Tryd.prog 54 #[.agg #[.int .i64 k1, .string n1, .int .i64 v1, .slice A1 us.length c1], .bool (rowed 3 i k1), .int .i64 (depth + 1), .int .i64 si] _ _ := hIH
        have hst := chkAll_step (k := 3) ht depth (4096 - si)
        have hle := chk_left (.mk k1 n1 v1 us) (rowed 3 i k1) (depth + 1) (4096 - si)
        replace hst : _ = if (chk (.mk k1 n1 v1 us) (rowed 3 i k1) (depth + 1) (4096 - si)).2 ≠ 0 then _ else _ := hst
        rw [show rowed 3 i (Ty.kind (.mk k1 n1 v1 us)) = rowed 3 i k1 from rfl] at hst
        generalize chk (.mk k1 n1 v1 us) (rowed 3 i k1) (depth + 1) (4096 - si) = r at *
        have HST := Lib.hid hst; clear hst
        have HLE := Lib.hid hle; clear hle
        clear hA1
        have hgw : Below wr.heap.size wr (wr.alloc (.cells #[.int .i64 k1, .string n1, .int .i64 v1, .slice A1 us.length c1] 27)) := Below.alloc (Below.refl _ _) (Nat.le_refl _) _
        have HGW := Lib.hid hgw; clear hgw
        have HIH := Lib.hid hIH; clear hIH
        rw [show rowed 3 i k1 = true from by simp [rowed]] at HIH
        by_cases hr : r.2 = 0
        · have hrb : (r.2 != 0) = false := by rw [hr]; rfl
          have HRR := Lib.hid hr; clear hr
          go_wp2_with fail
          refine HIH.out.mono ?_
          rintro e w2 ⟨rfl, hg2⟩
          have Hg2 := Lib.hid hg2; clear hg2
          go_wp2_with fail
          go_roundg (ts.length - (i + 1))
          case measure => omega
          case rel => exact ⟨i + 1, 4096 - r.1, by omega, by go_num, rfl, by have := HLE.out.1; omega, by have := HLE.out.2 HRR.out; omega, Lib.hid (HCk.out.trans (HST.out.trans ((if_neg (fun h => h HRR.out)).trans (by rw [show 4096 - (4096 - r.1) = r.1 by omega])))), Lib.hid (Hgr.out.trans ((HGW.out.trans (Hg2.out.mono (by simp))).mono (by omega)))⟩
        · have hrb : (r.2 != 0) = true := by rw [bne_iff_ne]; exact hr
          have HRR := Lib.hid hr; clear hr
          go_wp2_with fail
          refine HIH.out.mono ?_
          rintro e w2 ⟨rfl, hg2⟩
          have Hg2 := Lib.hid hg2; clear hg2
          go_wp2_with fail
          go_ret2
          rw [HR.out, HCk.out, HST.out, if_pos HRR.out]
          exact te_end rfl rfl (HGq.out.trans ((Hgr.out.trans ((HGW.out.trans (Hg2.out.mono (by simp))).mono (by omega))).mono HGq.out.size))
      · have hie : i = ts.length := by omega
        go_wp2_with fail
        go_ret2
        rw [HR.out, HCk.out, chkAll_end (by omega)]
        exact te_end (by show si = 4096 - (4096 - si); omega) rfl (HGq.out.trans (Hgr.out.mono HGq.out.size))
  · clear t0 t1 t2 t3 t5
    by_cases hmm : (ts.length : Int) ≠ 0
    · have hmb : ((0 : Int) != (ts.length : Int)) = true := by rw [bne_iff_ne]; omega
      go_quiet (fail)
      go_wp2_with fail
      go_ret2
      rw [chk_bad (e := 3) (HE.out.trans (if_pos (.inl ⟨by decide, hmm⟩))) (by decide)]
      exact te_end (by simp; omega) rfl (pw_drewN HG.out _)
    have hmb : ((0 : Int) != (ts.length : Int)) = false := by rw [Decidable.not_not.1 hmm]; rfl
    have HM := Lib.hid hmm; clear hmm
    by_cases hv : v ≠ 0
    · have hvb : (v != 0) = true := by rw [bne_iff_ne]; exact hv
      go_quiet (fail)
      go_wp2_with fail
      go_ret2
      rw [chk_bad (e := 3) (HE.out.trans (if_pos (.inr (.inl ⟨by decide, hv⟩)))) (by decide)]
      exact te_end (by simp; omega) rfl (pw_drewN HG.out _)
    have hvb : (v != 0) = false := by rw [Decidable.not_not.1 hv]; rfl
    have HV := Lib.hid hv; clear hv
    by_cases hn : n.toList.isEmpty = false
    · have HN0 := Lib.hid hn
      go_quiet (fail)
      go_wp2_with fail
      go_ret2
      rw [chk_bad (e := 3) (HE.out.trans (if_pos (.inr (.inr ⟨by decide, by decide, HN0.out⟩)))) (by decide)]
      exact te_end (by simp; omega) rfl (pw_drewN HG.out _)
    have hnb : n.toList.isEmpty = true := by simpa using hn
    have HN0 := Lib.hid hn; clear hn
    have H3 : ¬ ((0 ≤ arity 4 ∧ (ts.length : Int) ≠ arity 4) ∨ ((4 : Int) ≠ 0 ∧ v ≠ 0) ∨ ((4 : Int) ≠ 1 ∧ (4 : Int) ≠ 5 ∧ n.toList.isEmpty = false)) := not_or.2 ⟨(fun h => HM.out h.2), not_or.2 ⟨(fun h => HV.out h.2), (fun h => HN0.out h.2.2)⟩⟩
    have HE3 := Lib.hid (HE.out.trans (if_neg H3)); clear HE H3
    by_cases hr : row = false
    · subst hr
      go_quiet (fail)
      go_wp2_with fail
      go_ret2
      rw [chk_bad (e := 9) (HE3.out.trans (if_pos ⟨by decide, by decide⟩)) (by decide)]
      exact te_end (by simp; omega) rfl (pw_drewN HG.out _)
    obtain rfl : row = true := by simpa using hr
    clear hr
    have HZ := Lib.hid (HE3.out.trans ((if_neg (fun h => absurd h.2 (by decide))).trans (if_neg (fun h => absurd h.1 (by decide))))); clear HE3
    go_quiet (fail)
    go_wp2_with fail
    have hzq : N < (W.drewN nq).heap.size := hz
    have hdq : (W.drewN nq).cell? ⟨N, 0, none⟩ = some (.int .i64 4) := d0
    have HAq : Hid (ArgsAt (W.drewN nq) (· < B) A ts) := Lib.hid (ArgsAt.keep (w := W) (w1 := W.drewN nq) (fun b h => ⟨h, rfl⟩) HA1.out)
    have HGq : Hid (Below w.heap.size w (W.drewN nq)) := Lib.hid (pw_drewN HG.out _)
    have HR := Lib.hid (chk_ok HZ.out)
    clear HA1 HG HZ d0 d1 d2 d3 hz t4
    generalize W.drewN nq = Wq at *
    go_loopg [3, 106] ts.length (fun g y x wr => ∃ i : Nat, ∃ si : Int, i + g = ts.length ∧ x = .int .i64 i ∧ y = .int .i64 si ∧ 0 ≤ si ∧ si ≤ 4096 ∧ Hid (chkAll 4 (ts.drop 0) 0 depth (4096 - seen - 1) = chkAll 4 (ts.drop i) i depth (4096 - si)) ∧ Hid (Below Wq.heap.size Wq wr))
    case atStart => exact ⟨0, seen + 1, by omega, rfl, rfl, by omega, by omega, Lib.hid (by rw [show 4096 - (seen + 1) = 4096 - seen - 1 by omega]), Lib.hid (Below.refl _ _)⟩
    case round =>
      obtain ⟨i, si, hig, rfl, rfl, hli0, hli1, HCk, Hgr⟩ := hrel
      have hdr : wr.cell? ⟨N, 0, none⟩ = some (.int .i64 4) := (Hgr.out.cell (p := ⟨N, 0, none⟩) hzq).trans hdq
      have hsz : Wq.heap.size ≤ wr.heap.size := Hgr.out.size
      by_cases hlt : i < ts.length
      · rcases (HAq.out.under (Hgr.out.mono (by omega))).elem with h | ⟨b', off', hAeq, hel⟩
        · exact absurd hlt (by omega)
        subst hAeq
        obtain ⟨k1, n1, v1, us, A1, c1, ht, hb1, e0, e1, e2, e3, hA1, _⟩ := hel i hlt
        clear hel
        have hNr : N < wr.heap.size := by omega
        have hIH := HI.out _ (List.mem_of_getElem? ht) A1 c1 (rowed 4 i k1) (depth + 1) si B (wr.alloc (.cells #[.int .i64 k1, .string n1, .int .i64 v1, .slice A1 us.length c1] 27)) hli0 hli1
          (by simp; omega) (by omega) (by omega)
          (hA1.keep fun b h => ⟨h, Below.heap_alloc _ _ _ (by omega)⟩)
        replace hIH : Calls Tryd.prog 54 #[.agg #[.int .i64 k1, .string n1, .int .i64 v1, .slice A1 us.length c1], .bool (rowed 4 i k1), .int .i64 (depth + 1), .int .i64 si] _ _ := hIH
        have hst := chkAll_step (k := 4) ht depth (4096 - si)
        have hle := chk_left (.mk k1 n1 v1 us) (rowed 4 i k1) (depth + 1) (4096 - si)
        replace hst : _ = if (chk (.mk k1 n1 v1 us) (rowed 4 i k1) (depth + 1) (4096 - si)).2 ≠ 0 then _ else _ := hst
        rw [show rowed 4 i (Ty.kind (.mk k1 n1 v1 us)) = rowed 4 i k1 from rfl] at hst
        generalize chk (.mk k1 n1 v1 us) (rowed 4 i k1) (depth + 1) (4096 - si) = r at *
        have HST := Lib.hid hst; clear hst
        have HLE := Lib.hid hle; clear hle
        clear hA1
        have hgw : Below wr.heap.size wr (wr.alloc (.cells #[.int .i64 k1, .string n1, .int .i64 v1, .slice A1 us.length c1] 27)) := Below.alloc (Below.refl _ _) (Nat.le_refl _) _
        have HGW := Lib.hid hgw; clear hgw
        have HIH := Lib.hid hIH; clear hIH
        rw [show rowed 4 i k1 = false from by simp [rowed]] at HIH
        by_cases hr : r.2 = 0
        · have hrb : (r.2 != 0) = false := by rw [hr]; rfl
          have HRR := Lib.hid hr; clear hr
          go_wp2_with fail
          refine HIH.out.mono ?_
          rintro e w2 ⟨rfl, hg2⟩
          have Hg2 := Lib.hid hg2; clear hg2
          go_wp2_with fail
          go_roundg (ts.length - (i + 1))
          case measure => omega
          case rel => exact ⟨i + 1, 4096 - r.1, by omega, by go_num, rfl, by have := HLE.out.1; omega, by have := HLE.out.2 HRR.out; omega, Lib.hid (HCk.out.trans (HST.out.trans ((if_neg (fun h => h HRR.out)).trans (by rw [show 4096 - (4096 - r.1) = r.1 by omega])))), Lib.hid (Hgr.out.trans ((HGW.out.trans (Hg2.out.mono (by simp))).mono (by omega)))⟩
        · have hrb : (r.2 != 0) = true := by rw [bne_iff_ne]; exact hr
          have HRR := Lib.hid hr; clear hr
          go_wp2_with fail
          refine HIH.out.mono ?_
          rintro e w2 ⟨rfl, hg2⟩
          have Hg2 := Lib.hid hg2; clear hg2
          go_wp2_with fail
          go_ret2
          rw [HR.out, HCk.out, HST.out, if_pos HRR.out]
          exact te_end rfl rfl (HGq.out.trans ((Hgr.out.trans ((HGW.out.trans (Hg2.out.mono (by simp))).mono (by omega))).mono HGq.out.size))
      · have hie : i = ts.length := by omega
        go_wp2_with fail
        go_ret2
        rw [HR.out, HCk.out, chkAll_end (by omega)]
        exact te_end (by show si = 4096 - (4096 - si); omega) rfl (HGq.out.trans (Hgr.out.mono HGq.out.size))
  · clear t0 t1 t2 t3 t4
    by_cases hmm : (ts.length : Int) ≠ 2
    · have hmb : ((2 : Int) != (ts.length : Int)) = true := by rw [bne_iff_ne]; omega
      go_quiet (fail)
      go_wp2_with fail
      go_ret2
      rw [chk_bad (e := 3) (HE.out.trans (if_pos (.inl ⟨by decide, hmm⟩))) (by decide)]
      exact te_end (by simp; omega) rfl (pw_drewN HG.out _)
    have hmb : ((2 : Int) != (ts.length : Int)) = false := by rw [Decidable.not_not.1 hmm]; rfl
    have HM := Lib.hid hmm; clear hmm
    by_cases hv : v ≠ 0
    · have hvb : (v != 0) = true := by rw [bne_iff_ne]; exact hv
      go_quiet (fail)
      go_wp2_with fail
      go_ret2
      rw [chk_bad (e := 3) (HE.out.trans (if_pos (.inr (.inl ⟨by decide, hv⟩)))) (by decide)]
      exact te_end (by simp; omega) rfl (pw_drewN HG.out _)
    have hvb : (v != 0) = false := by rw [Decidable.not_not.1 hv]; rfl
    have HV := Lib.hid hv; clear hv
    have H3 : ¬ ((0 ≤ arity 5 ∧ (ts.length : Int) ≠ arity 5) ∨ ((5 : Int) ≠ 0 ∧ v ≠ 0) ∨ ((5 : Int) ≠ 1 ∧ (5 : Int) ≠ 5 ∧ n.toList.isEmpty = false)) := not_or.2 ⟨(fun h => HM.out h.2), not_or.2 ⟨(fun h => HV.out h.2), (fun h => absurd rfl (h.2.1))⟩⟩
    have HE3 := Lib.hid (HE.out.trans (if_neg H3)); clear HE H3
    by_cases hr : row = false
    · subst hr
      go_quiet (fail)
      go_wp2_with fail
      go_ret2
      rw [chk_bad (e := 9) (HE3.out.trans (if_pos ⟨by decide, by decide⟩)) (by decide)]
      exact te_end (by simp; omega) rfl (pw_drewN HG.out _)
    obtain rfl : row = true := by simpa using hr
    clear hr
    have HZ := Lib.hid (HE3.out.trans ((if_neg (fun h => absurd h.2 (by decide))).trans (if_neg (fun h => absurd h.1 (by decide))))); clear HE3
    go_quiet (fail)
    go_wp2_with fail
    have hzq : N < (W.drewN nq).heap.size := hz
    have hdq : (W.drewN nq).cell? ⟨N, 0, none⟩ = some (.int .i64 5) := d0
    have HAq : Hid (ArgsAt (W.drewN nq) (· < B) A ts) := Lib.hid (ArgsAt.keep (w := W) (w1 := W.drewN nq) (fun b h => ⟨h, rfl⟩) HA1.out)
    have HGq : Hid (Below w.heap.size w (W.drewN nq)) := Lib.hid (pw_drewN HG.out _)
    have HR := Lib.hid (chk_ok HZ.out)
    clear HA1 HG HZ d0 d1 d2 d3 hz t5
    generalize W.drewN nq = Wq at *
    go_loopg [3, 106] ts.length (fun g y x wr => ∃ i : Nat, ∃ si : Int, i + g = ts.length ∧ x = .int .i64 i ∧ y = .int .i64 si ∧ 0 ≤ si ∧ si ≤ 4096 ∧ Hid (chkAll 5 (ts.drop 0) 0 depth (4096 - seen - 1) = chkAll 5 (ts.drop i) i depth (4096 - si)) ∧ Hid (Below Wq.heap.size Wq wr))
    case atStart => exact ⟨0, seen + 1, by omega, rfl, rfl, by omega, by omega, Lib.hid (by rw [show 4096 - (seen + 1) = 4096 - seen - 1 by omega]), Lib.hid (Below.refl _ _)⟩
    case round =>
      obtain ⟨i, si, hig, rfl, rfl, hli0, hli1, HCk, Hgr⟩ := hrel
      have hdr : wr.cell? ⟨N, 0, none⟩ = some (.int .i64 5) := (Hgr.out.cell (p := ⟨N, 0, none⟩) hzq).trans hdq
      have hsz : Wq.heap.size ≤ wr.heap.size := Hgr.out.size
      by_cases hlt : i < ts.length
      · rcases (HAq.out.under (Hgr.out.mono (by omega))).elem with h | ⟨b', off', hAeq, hel⟩
        · exact absurd hlt (by omega)
        subst hAeq
        obtain ⟨k1, n1, v1, us, A1, c1, ht, hb1, e0, e1, e2, e3, hA1, _⟩ := hel i hlt
        clear hel
        have hNr : N < wr.heap.size := by omega
        have hIH := HI.out _ (List.mem_of_getElem? ht) A1 c1 (rowed 5 i k1) (depth + 1) si B (wr.alloc (.cells #[.int .i64 k1, .string n1, .int .i64 v1, .slice A1 us.length c1] 27)) hli0 hli1
          (by simp; omega) (by omega) (by omega)
          (hA1.keep fun b h => ⟨h, Below.heap_alloc _ _ _ (by omega)⟩)
        replace hIH : Calls Tryd.prog 54 #[.agg #[.int .i64 k1, .string n1, .int .i64 v1, .slice A1 us.length c1], .bool (rowed 5 i k1), .int .i64 (depth + 1), .int .i64 si] _ _ := hIH
        have hst := chkAll_step (k := 5) ht depth (4096 - si)
        have hle := chk_left (.mk k1 n1 v1 us) (rowed 5 i k1) (depth + 1) (4096 - si)
        replace hst : _ = if (chk (.mk k1 n1 v1 us) (rowed 5 i k1) (depth + 1) (4096 - si)).2 ≠ 0 then _ else _ := hst
        rw [show rowed 5 i (Ty.kind (.mk k1 n1 v1 us)) = rowed 5 i k1 from rfl] at hst
        generalize chk (.mk k1 n1 v1 us) (rowed 5 i k1) (depth + 1) (4096 - si) = r at *
        have HST := Lib.hid hst; clear hst
        have HLE := Lib.hid hle; clear hle
        clear hA1
        have hgw : Below wr.heap.size wr (wr.alloc (.cells #[.int .i64 k1, .string n1, .int .i64 v1, .slice A1 us.length c1] 27)) := Below.alloc (Below.refl _ _) (Nat.le_refl _) _
        have HGW := Lib.hid hgw; clear hgw
        have HIH := Lib.hid hIH; clear hIH
        by_cases hi1 : i = 1
        · have hib : ((i : Int) == 1) = true := by rw [hi1]; rfl
          have HI1 := Lib.hid hi1; clear hi1
          rw [show rowed 5 i k1 = true from by simp [rowed, HI1.out]] at HIH
          by_cases hr : r.2 = 0
          · have hrb : (r.2 != 0) = false := by rw [hr]; rfl
            have HRR := Lib.hid hr; clear hr
            go_wp2_with fail
            refine HIH.out.mono ?_
            rintro e w2 ⟨rfl, hg2⟩
            have Hg2 := Lib.hid hg2; clear hg2
            go_wp2_with fail
            go_roundg (ts.length - (i + 1))
            case measure => omega
            case rel => exact ⟨i + 1, 4096 - r.1, by omega, by go_num, rfl, by have := HLE.out.1; omega, by have := HLE.out.2 HRR.out; omega, Lib.hid (HCk.out.trans (HST.out.trans ((if_neg (fun h => h HRR.out)).trans (by rw [show 4096 - (4096 - r.1) = r.1 by omega])))), Lib.hid (Hgr.out.trans ((HGW.out.trans (Hg2.out.mono (by simp))).mono (by omega)))⟩
          · have hrb : (r.2 != 0) = true := by rw [bne_iff_ne]; exact hr
            have HRR := Lib.hid hr; clear hr
            go_wp2_with fail
            refine HIH.out.mono ?_
            rintro e w2 ⟨rfl, hg2⟩
            have Hg2 := Lib.hid hg2; clear hg2
            go_wp2_with fail
            go_ret2
            rw [HR.out, HCk.out, HST.out, if_pos HRR.out]
            exact te_end rfl rfl (HGq.out.trans ((Hgr.out.trans ((HGW.out.trans (Hg2.out.mono (by simp))).mono (by omega))).mono HGq.out.size))
        · have hib : ((i : Int) == 1) = false := by rw [beq_eq_false_iff_ne]; omega
          rw [show rowed 5 i k1 = false from by simp [rowed, hi1]] at HIH
          by_cases hr : r.2 = 0
          · have hrb : (r.2 != 0) = false := by rw [hr]; rfl
            have HRR := Lib.hid hr; clear hr
            go_wp2_with fail
            refine HIH.out.mono ?_
            rintro e w2 ⟨rfl, hg2⟩
            have Hg2 := Lib.hid hg2; clear hg2
            go_wp2_with fail
            go_roundg (ts.length - (i + 1))
            case measure => omega
            case rel => exact ⟨i + 1, 4096 - r.1, by omega, by go_num, rfl, by have := HLE.out.1; omega, by have := HLE.out.2 HRR.out; omega, Lib.hid (HCk.out.trans (HST.out.trans ((if_neg (fun h => h HRR.out)).trans (by rw [show 4096 - (4096 - r.1) = r.1 by omega])))), Lib.hid (Hgr.out.trans ((HGW.out.trans (Hg2.out.mono (by simp))).mono (by omega)))⟩
          · have hrb : (r.2 != 0) = true := by rw [bne_iff_ne]; exact hr
            have HRR := Lib.hid hr; clear hr
            go_wp2_with fail
            refine HIH.out.mono ?_
            rintro e w2 ⟨rfl, hg2⟩
            have Hg2 := Lib.hid hg2; clear hg2
            go_wp2_with fail
            go_ret2
            rw [HR.out, HCk.out, HST.out, if_pos HRR.out]
            exact te_end rfl rfl (HGq.out.trans ((Hgr.out.trans ((HGW.out.trans (Hg2.out.mono (by simp))).mono (by omega))).mono HGq.out.size))
      · have hie : i = ts.length := by omega
        go_wp2_with fail
        go_ret2
        rw [HR.out, HCk.out, chkAll_end (by omega)]
        exact te_end (by show si = 4096 - (4096 - si); omega) rfl (HGq.out.trans (Hgr.out.mono HGq.out.size))
end Go.Proofs.YtoafghnieebimaaDoor
