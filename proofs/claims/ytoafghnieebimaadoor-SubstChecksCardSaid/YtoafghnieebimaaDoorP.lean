/- The walk of SubstChecks. -/
import Derived.Test.YtoafghnieebimaaDoorO
namespace Go.Proofs.YtoafghnieebimaaDoor
open Go.RowKit

theorem info30 : (Tryd.prog.info? 30).map (fun i => (i.zero, i.size, i.bytes)) = some (some (.slice none 0 0), 1, 24) := by kernel_rfl
theorem one_row (w : World) (v : Int) (hv : -9223372036854775808 ≤ v ∧ v ≤ 9223372036854775807) : ArgsAt (w.alloc (.cells #[.int .i64 0, .string ⟨#[]⟩, .int .i64 v, .slice none 0 0] 27)) (· < w.heap.size + 1) (some ⟨w.heap.size, 0, none⟩) [.mk 0 ⟨#[]⟩ v []] := by
  refine ⟨by simp, w.heap.size, 0, fun _ => rfl, fun j t ht => ?_⟩
  obtain ⟨rfl, rfl⟩ : j = 0 ∧ t = .mk 0 ⟨#[]⟩ v [] := by
    match j, ht with
    | 0, ht => exact ⟨rfl, by simpa [eq_comm] using ht⟩
  exact .mk none 0 0 0 (by simp) (by simp) (by simp) (by simp) (by simp) ⟨by omega, by omega, hv.1, hv.2, by simp [ByteArray.size], by simp⟩ (by simp) (by simp)

/-- The table of uses: row j holds the list f j. -/
structure UT (n U : Nat) (w : World) (f : Nat → List Int) : Prop where
  lt : U < w.heap.size
  cells : ∀ j : Nat, j < n → ∃ A c, w.cell? ⟨U, j, none⟩ = some (.slice A (f j).length c) ∧ IntsAt w (fun b => b < w.heap.size ∧ b ≠ U) A (f j)
  free : ∀ j : Nat, j < n → w.frozen? ⟨U, j, none⟩ = false
theorem UT.keep {n U : Nat} {w w1 : World} {f : Nat → List Int} (h : UT n U w f) (hs : w.heap.size ≤ w1.heap.size) (hk : ∀ b, b < w.heap.size → w1.heap[b]? = w.heap[b]?) : UT n U w1 f := by
  have hc : ∀ o, w1.cell? ⟨U, o, none⟩ = w.cell? ⟨U, o, none⟩ := fun o => World.cell?_of_block (hk U h.lt)
  refine ⟨by have := h.lt; omega, fun j hj => ?_, fun j hj => (World.frozen?_of_block (a := ⟨U, j, none⟩) (hk U h.lt)).trans (h.free j hj)⟩
  obtain ⟨A, c, h1, h2⟩ := h.cells j hj
  exact ⟨A, c, (hc j).trans h1, h2.keep fun b hb => ⟨⟨by omega, hb.2⟩, hk b hb.1⟩⟩
theorem UT.store {n U : Nat} {w : World} {f : Nat → List Int} {i : Nat} {A : Option Addr} {c : Nat} {list : List Int} (h : UT n U w f) (hi : i < n) (ha : IntsAt w (fun b => b < w.heap.size ∧ b ≠ U) A list) :
    UT n U (w.setCell ⟨U, i, none⟩ (.slice A list.length c)) (fun j => if j = i then list else f j) := by
  have ho : ∀ j, j ≠ i → (w.setCell ⟨U, i, none⟩ (.slice A list.length c)).cell? ⟨U, j, none⟩ = w.cell? ⟨U, j, none⟩ := fun j hj => World.cell?_setCell_other _ _ _ _ (fun e => hj (congrArg Addr.off e).symm)
  have hk : ∀ A' (l : List Int), IntsAt w (fun b => b < w.heap.size ∧ b ≠ U) A' l → IntsAt (w.setCell ⟨U, i, none⟩ (.slice A list.length c)) (fun b => b < (w.setCell ⟨U, i, none⟩ (.slice A list.length c)).heap.size ∧ b ≠ U) A' l :=
    fun A' l hx => hx.keep fun b hb => ⟨⟨by simp; exact hb.1, hb.2⟩, Below.heap_setCell _ _ _ _ hb.2⟩
  refine ⟨by simp; exact h.lt, fun j hj => ?_, fun j hj => by rw [World.frozen?_setCell]; exact h.free j hj⟩
  by_cases hji : j = i
  · subst hji
    obtain ⟨A', c', h1, _⟩ := h.cells j hj
    refine ⟨A, c, ?_, ?_⟩
    · simp only [if_true]; exact World.cell?_setCell_same _ _ _ h1
    · simp only [if_true]; exact hk _ _ ha
  · obtain ⟨A', c', h1, h2⟩ := h.cells j hj
    exact ⟨A', c', by simp only [if_neg hji]; exact (ho j hji).trans h1, by simp only [if_neg hji]; exact hk _ _ h2⟩
theorem UT.made (n : Nat) (w : World) : UT n w.heap.size (w.alloc (.cells (madeCells #[.slice none 0 0] n) 30)) (fun _ => []) :=
  ⟨by simp, fun j hj => ⟨none, 0, by rw [World.cell?_alloc_new]; simp [madeCells, hj, Nat.mod_one], by simp, fun h => by simp at h⟩, fun j _ => by simp⟩

def LawPost (w : World) (e : Ending) (w' : World) : Prop := e = .returned (.bool true) ∧ Below w.heap.size w w'
set_option maxRecDepth 100000 in
set_option maxHeartbeats 8000000 in
theorem law_subst (S : List Ty) (As : Option Addr) (cs B : Nat) (w : World) (hB : B ≤ w.heap.size) (hB0 : 0 < B) (hT : Tab w) (hr : ArgsAt w (· < B) As S) :
    Calls Tryd.prog 3 #[.slice As S.length cs] w fun e w' => LawPost w e w' := by
  have hm := hr.1
  have hmf : ∀ (fn : Fn) (first cap : Array Value) (w : World), (Instr.makeFunc fn first cap).run Tryd.prog w = .ok (.func fn first cap) w := fun _ _ _ _ => rfl
  obtain ⟨N, hN⟩ : ∃ N, N = w.heap.size := ⟨_, rfl⟩
  obtain ⟨W, hW⟩ : ∃ W : World, W = (w.alloc (.cells #[.slice As S.length cs] 23)).alloc (.cells #[.int .i64 0, .string ⟨#[]⟩, .int .i64 1, .slice none 0 0] 27) := ⟨_, rfl⟩
  have hg : Below N w W := by rw [hW, hN]; exact (Below.alloc (Below.refl _ _) (Nat.le_refl _) _).alloc (by simp) _
  have c0 : W.cell? ⟨N, 0, none⟩ = some (.slice As S.length cs) := by rw [hW, hN]; simp [go_sem]
  have hzW : W.heap.size = N + 2 := by rw [hW, hN]; simp
  have hone : ArgsAt W (· < N + 2) (some ⟨N + 1, 0, none⟩) [.mk 0 ⟨#[]⟩ 1 []] := by
    have := one_row (w.alloc (.cells #[.slice As S.length cs] 23)) 1 (by omega)
    rw [World.size_alloc] at this
    rw [hW, hN]; exact this
  have hf1 := checkSubst_any [.mk 0 ⟨#[]⟩ 1 []] _ 1 (N + 2) W (by omega) (by omega) (hT.keep (hg.block 0 (by omega))) hone
  replace hf1 : Calls Tryd.prog 6 #[.slice (some ⟨N + 1, 0, none⟩) 1 1] W fun e w' => SubstPost [.mk 0 ⟨#[]⟩ 1 []] W e w' := hf1
  unfold SubstPost at hf1
  rw [fixed_one] at hf1
  have HF1 := Lib.hid hf1; clear hf1 hone
  have HR := Lib.hid hr; clear hr
  have HT := Lib.hid hT; clear hT
  have HG := Lib.hid hg; clear hg
  have HN := Lib.hid hN
  have hBN : B ≤ N := by omega
  go_enter Tryd.func3, Tryd.ntmps3
  go_wp2_with fail
  rw [← hW]
  clear hW
  rw [← hN]
  clear hN
  refine HF1.out.mono ?_
  rintro e w2 ⟨rfl, hb2⟩
  have c2 : w2.cell? ⟨N, 0, none⟩ = some (.slice As S.length cs) := (hb2.cell (p := ⟨N, 0, none⟩) (by show N < _; omega)).trans c0
  have hz2 : N + 2 ≤ w2.heap.size := by have := hb2.size; omega
  have HB2 := Lib.hid (HG.out.trans (hb2.mono (by omega))); clear hb2 c0
  have hone : ArgsAt (w2.alloc (.cells #[.int .i64 0, .string ⟨#[]⟩, .int .i64 0, .slice none 0 0] 27)) (· < w2.heap.size + 1) (some ⟨w2.heap.size, 0, none⟩) [.mk 0 ⟨#[]⟩ 0 []] := one_row w2 0 (by omega)
  obtain ⟨W3, hW3⟩ : ∃ W3 : World, W3 = w2.alloc (.cells #[.int .i64 0, .string ⟨#[]⟩, .int .i64 0, .slice none 0 0] 27) := ⟨_, rfl⟩
  rw [← hW3] at hone
  have hg3 : Below N w W3 := by rw [hW3]; exact HB2.out.alloc (by omega) _
  have c3 : W3.cell? ⟨N, 0, none⟩ = some (.slice As S.length cs) := by rw [hW3]; exact (World.cell?_alloc_past _ _ _ (by omega)).trans c2
  have hz3 : W3.heap.size = w2.heap.size + 1 := by rw [hW3]; simp
  have hf2 := checkSubst_any [.mk 0 ⟨#[]⟩ 0 []] _ 1 (w2.heap.size + 1) W3 (by omega) (by omega) (HT.out.keep (hg3.block 0 (by omega))) hone
  replace hf2 : Calls Tryd.prog 6 #[.slice (some ⟨w2.heap.size, 0, none⟩) 1 1] W3 fun e w' => SubstPost [.mk 0 ⟨#[]⟩ 0 []] W3 e w' := hf2
  unfold SubstPost at hf2
  rw [fixed_two] at hf2
  have HF2 := Lib.hid hf2; clear hf2 hone
  have HG3 := Lib.hid hg3; clear hg3 c2
  go_wp2_with fail
  rw [← hW3]
  clear hW3
  refine HF2.out.mono ?_
  rintro e w4 ⟨rfl, hb4⟩
  have c4 : w4.cell? ⟨N, 0, none⟩ = some (.slice As S.length cs) := (hb4.cell (p := ⟨N, 0, none⟩) (by show N < _; omega)).trans c3
  have hz4 : N + 3 ≤ w4.heap.size := by have := hb4.size; omega
  have hg4 := HG3.out.trans (hb4.mono (by omega))
  have hf3 := checkSubst_any S As cs B w4 (by omega) hB0 (HT.out.keep (hg4.block 0 (by omega))) (HR.out.keep fun b hb => ⟨hb, hg4.block b (by omega)⟩)
  unfold SubstPost at hf3
  have HG4 := Lib.hid hg4; clear hg4 hb4 c3
  generalize hE : substErr S = E at *
  have HE := Lib.hid hE; clear hE
  have HF3 := Lib.hid hf3; clear hf3
  go_wp2_with fail
  refine HF3.out.mono ?_
  rintro e w5 ⟨rfl, hb5⟩
  have c5 : w5.cell? ⟨N, 0, none⟩ = some (.slice As S.length cs) := (hb5.cell (p := ⟨N, 0, none⟩) (by show N < _; omega)).trans c4
  have hz5 : N + 3 ≤ w5.heap.size := by have := hb5.size; omega
  have HG5 := Lib.hid (HG4.out.trans (hb5.mono (by omega))); clear hb5 c4
  clear hz3 hzW
  by_cases hlarge : 4096 < S.length
  · have hE2 : (E == 2) = true := by rw [← HE.out, substErr_large hlarge]; rfl
    have hl' : (4096 : Int) < (S.length : Int) := by omega
    go_wp2_with fail
    go_ret
    exact ⟨rfl, by rw [← HN.out]; exact HG5.out⟩
  have hl : S.length ≤ 4096 := by omega
  have HNL := Lib.hid hlarge; clear hlarge
  have hmk := run_make_row' (P := Tryd.prog) 28 30 (.slice none 0 0) 24 Tryd.underlying28 info30 rfl .i64 .i64 S.length (by omega) (by omega)
  have hmk2 := run_make_row' (P := Tryd.prog) 30 3 (.int .i64 0) 8 Tryd.underlying30 info3 rfl .i64 .i64 S.length (by omega) (by omega)
  have HMK2 := Lib.hid hmk2; clear hmk2
  obtain ⟨U, hU⟩ : ∃ U, U = w5.heap.size := ⟨_, rfl⟩
  obtain ⟨W6, hW6⟩ : ∃ W6 : World, W6 = w5.alloc (.cells (madeCells #[.slice none 0 0] S.length) 30) := ⟨_, rfl⟩
  have hg6 : Below N w W6 := by rw [hW6]; exact HG5.out.alloc (by omega) _
  have hUT : UT S.length U W6 (fun _ => []) := by rw [hW6, hU]; exact UT.made _ _
  have c6 : W6.cell? ⟨N, 0, none⟩ = some (.slice As S.length cs) := by rw [hW6]; exact (World.cell?_alloc_past _ _ _ (by omega)).trans c5
  have hz6 : W6.heap.size = U + 1 := by rw [hW6, hU]; simp
  have hNU : N + 3 ≤ U := by omega
  have HG6 := Lib.hid hg6; clear hg6
  have HUT := Lib.hid hUT; clear hUT
  go_upto_region 7 with fail
  rw [← hW6, ← hU]
  clear hW6 hU hmk hz2 hz4 hz5 c5
  have hc6 : ∀ w', Below N w w' → ArgsAt w' (· < B) As S := fun w' h => HR.out.keep fun b hb => ⟨hb, h.block b (by omega)⟩
  have HR6 := Lib.hid hc6; clear hc6
  go_wp2_with fail
  go_loopg [5, 35] S.length (fun g _ x wr => ∃ i : Nat, i + g = S.length ∧ x = .int .i64 i ∧ Hid (rowsErr S.length (S.drop 0) = rowsErr S.length (S.drop i)) ∧ Hid (Below N w wr) ∧ wr.cell? ⟨N, 0, none⟩ = some (.slice As S.length cs) ∧
    U + 1 ≤ wr.heap.size ∧ Hid (∃ f, UT S.length U wr f ∧ ∀ j : Nat, j < i → ∀ x, x ∈ f j ↔ x ∈ uses S j))
  case atStart => exact ⟨0, by omega, rfl, Lib.hid rfl, HG6, c6, by omega, Lib.hid ⟨_, HUT.out, fun j hj => by omega⟩⟩
  case round =>
    obtain ⟨i, hig, rfl, HRE, Hgr, cr, hzr, HUr⟩ := hrel
    by_cases hlt : i < S.length
    · obtain ⟨f, hUr, hfr⟩ := HUr.out
      rcases (HR6.out wr Hgr.out).elem with h | ⟨b', off', hAeq, hel⟩
      · exact absurd hlt (by omega)
      subst hAeq
      obtain ⟨k1, n1, v1, us, A1, c1', ht, hb1, e0, e1, e2, e3, hA1, _⟩ := hel i hlt
      clear hel
      have hat : at' S (i : Int) = .mk k1 n1 v1 us := at_nat ht
      obtain ⟨Wc, hWc⟩ : ∃ Wc : World, Wc = wr.alloc (.cells #[.int .i64 k1, .string n1, .int .i64 v1, .slice A1 us.length c1'] 27) := ⟨_, rfl⟩
      have hgc : Below wr.heap.size wr Wc := by rw [hWc]; exact Below.alloc (Below.refl _ _) (Nat.le_refl _) _
      have hzc : Wc.heap.size = wr.heap.size + 1 := by rw [hWc]; simp
      have hte := typeError_any (.mk k1 n1 v1 us) A1 c1' (decide (3 < k1)) B Wc (by omega) (hA1.keep fun b h => ⟨h, hgc.block b (by omega)⟩)
      replace hte : Calls Tryd.prog 7 #[.agg #[.int .i64 k1, .string n1, .int .i64 v1, .slice A1 us.length c1'], .bool (decide (3 < k1))] Wc fun e w' => e = .returned (.int .i64 (chk (.mk k1 n1 v1 us) (decide (3 < k1)) 1 4096).2) ∧ Below Wc.heap.size Wc w' := hte
      rw [show decide (3 < k1) = decide (4 ≤ k1) from decide_eq_decide.2 (by omega)] at hte
      have hrow := rowsErr_step (n := S.length) ht
      have f0 : Wc.cell? ⟨wr.heap.size, 0, none⟩ = some (.int .i64 k1) := by rw [hWc]; simp [go_sem]
      have f1 : Wc.cell? ⟨wr.heap.size, 1, none⟩ = some (.string n1) := by rw [hWc]; simp [go_sem]
      have f2 : Wc.cell? ⟨wr.heap.size, 2, none⟩ = some (.int .i64 v1) := by rw [hWc]; simp [go_sem]
      have f3 : Wc.cell? ⟨wr.heap.size, 3, none⟩ = some (.slice A1 us.length c1') := by rw [hWc]; simp [go_sem]
      have hvr : ∀ w2, Below wr.heap.size wr w2 → (chk (.mk k1 n1 v1 us) (decide (4 ≤ k1)) 1 4096).2 = 0 → Calls Tryd.prog 8 #[.agg #[.int .i64 k1, .string n1, .int .i64 v1, .slice A1 us.length c1'], .slice none 0 0] w2 fun e w' => VarsPost w2.heap.size (seenL (.mk k1 n1 v1 us) []) w2 e w' := fun w2 hb h0 =>
        vars_says (.mk k1 n1 v1 us) A1 c1' (.slice none 0 0) [] w2.heap.size B w2 (by have := hb.size; omega) (Nat.le_refl _) (OwnI.nil _ _) (by have := chk_size h0; simp; omega) (hA1.keep fun b h => ⟨h, hb.block b (by omega)⟩)
      have hmem : ∀ x, x ∈ seenL (.mk k1 n1 v1 us) [] ↔ x ∈ vars (.mk k1 n1 v1 us) := fun x => by rw [mem_seenL]; simp
      have hre1 := rowErr_chk (n := S.length) (t := .mk k1 n1 v1 us)
      have hre2 := rowErr_range (n := S.length) (t := .mk k1 n1 v1 us)
      have hre3 := rowErr_ok (n := S.length) (t := .mk k1 n1 v1 us)
      replace hre1 : (chk (.mk k1 n1 v1 us) (decide (4 ≤ k1)) 1 4096).2 ≠ 0 → rowErr S.length (.mk k1 n1 v1 us) = (chk (.mk k1 n1 v1 us) (decide (4 ≤ k1)) 1 4096).2 := hre1
      replace hre2 : (chk (.mk k1 n1 v1 us) (decide (4 ≤ k1)) 1 4096).2 = 0 → (∃ v ∈ vars (.mk k1 n1 v1 us), (S.length : Int) ≤ v) → rowErr S.length (.mk k1 n1 v1 us) = 4 := hre2
      replace hre3 : (chk (.mk k1 n1 v1 us) (decide (4 ≤ k1)) 1 4096).2 = 0 → (∀ v ∈ vars (.mk k1 n1 v1 us), v < (S.length : Int)) → rowErr S.length (.mk k1 n1 v1 us) = 0 := hre3
      have huse : uses S (i : Int) = if k1 = 0 ∧ v1 = (i : Int) then [] else vars (.mk k1 n1 v1 us) := by
        unfold uses
        rw [hat]
        have : selfAt S (i : Int) ↔ (k1 = 0 ∧ v1 = (i : Int)) := by unfold selfAt; rw [hat]; rfl
        by_cases h : k1 = 0 ∧ v1 = (i : Int)
        · rw [if_pos h, if_pos (this.2 h)]
        · rw [if_neg h, if_neg (fun h' => h (this.1 h'))]
      generalize seenL (.mk k1 n1 v1 us) [] = vsl at *
      generalize vars (.mk k1 n1 v1 us) = vs at *
      generalize rowErr S.length (.mk k1 n1 v1 us) = re at *
      generalize chk (.mk k1 n1 v1 us) (decide (4 ≤ k1)) 1 4096 = r at *
      have HTE := Lib.hid hte; clear hte
      have HROW := Lib.hid hrow; clear hrow
      have HVR := Lib.hid hvr; clear hvr
      have HMEM := Lib.hid hmem; clear hmem
      have HRE1 := Lib.hid hre1; clear hre1
      have HRE2 := Lib.hid hre2; clear hre2
      have HRE3 := Lib.hid hre3; clear hre3
      have HUSE := Lib.hid huse; clear huse
      have HGC := Lib.hid hgc; clear hgc
      have HUR := Lib.hid hUr; clear hUr
      have HFR := Lib.hid hfr; clear hfr
      clear hA1 hat HUr
      have hk34 : decide (3 < k1) = decide (4 ≤ k1) := decide_eq_decide.2 (by omega)
      have HK := Lib.hid hk34; clear hk34
      go_wp2_with fail
      rw [← hWc, HK.out]
      clear hWc
      refine HTE.out.mono ?_
      rintro e wA ⟨rfl, hbA⟩
      have h0 : wA.cell? ⟨wr.heap.size, 0, none⟩ = some (.int .i64 k1) := (hbA.cell (p := ⟨wr.heap.size, 0, none⟩) (by show wr.heap.size < _; omega)).trans f0
      have h1 : wA.cell? ⟨wr.heap.size, 1, none⟩ = some (.string n1) := (hbA.cell (p := ⟨wr.heap.size, 1, none⟩) (by show wr.heap.size < _; omega)).trans f1
      have h2 : wA.cell? ⟨wr.heap.size, 2, none⟩ = some (.int .i64 v1) := (hbA.cell (p := ⟨wr.heap.size, 2, none⟩) (by show wr.heap.size < _; omega)).trans f2
      have h3 : wA.cell? ⟨wr.heap.size, 3, none⟩ = some (.slice A1 us.length c1') := (hbA.cell (p := ⟨wr.heap.size, 3, none⟩) (by show wr.heap.size < _; omega)).trans f3
      have hbr : Below wr.heap.size wr wA := HGC.out.trans (hbA.mono (by omega))
      have hzA : wr.heap.size < wA.heap.size := by have := hbA.size; omega
      have HBA := Lib.hid hbr; clear hbr hbA f0 f1 f2 f3
      by_cases hr0 : r.2 = 0
      · have hrb : (r.2 != 0) = false := by rw [hr0]; rfl
        have hvr := HVR.out wA HBA.out hr0
        have HV := Lib.hid hvr; clear hvr
        have HR0 := Lib.hid hr0; clear hr0
        have hUA := HUR.out.keep HBA.out.size HBA.out.block
        have HUA := Lib.hid hUA; clear hUA
        have cr' := cr
        have CR := Lib.hid cr'; clear cr cr'
        go_wp2_with fail
        refine HV.out.mono ?_
        rintro e wB ⟨v4, rfl, ho4, hb4⟩
        obtain ⟨A4, c4, rfl, hi4, hl4⟩ := ho4.slice
        have q0 : wB.cell? ⟨wr.heap.size, 0, none⟩ = some (.int .i64 k1) := (hb4.cell (p := ⟨wr.heap.size, 0, none⟩) hzA).trans h0
        have q2 : wB.cell? ⟨wr.heap.size, 2, none⟩ = some (.int .i64 v1) := (hb4.cell (p := ⟨wr.heap.size, 2, none⟩) hzA).trans h2
        have hzB := hb4.size
        have hBB : Below wr.heap.size wr wB := HBA.out.trans (hb4.mono (by omega))
        have hUB := HUA.out.keep hb4.size hb4.block
        have hiB : IntsAt wB (fun b => b < wB.heap.size ∧ b ≠ U) A4 vsl := hi4.keep fun b hb => ⟨⟨(ho4.lt b hb).2, by have := (ho4.lt b hb).1; have := HUR.out.lt; omega⟩, rfl⟩
        have hUC := hUB.store (c := c4) hlt hiB
        obtain ⟨A0, c00, u0, _⟩ := hUB.cells i hlt
        have u1 := hUB.free i hlt
        obtain ⟨WC, hWC⟩ : ∃ WC : World, WC = wB.setCell ⟨U, i, none⟩ (.slice A4 vsl.length c4) := ⟨_, rfl⟩
        rw [← hWC] at hUC
        have hbC : Below N w WC := by rw [hWC]; exact (Hgr.out.trans (hBB.mono (by omega))).setCell (show N ≤ U by omega) _
        have hzC : WC.heap.size = wB.heap.size := by rw [hWC]; simp
        have hNr : N ≠ U := by omega
        have hwr : wr.heap.size ≠ U := by have := HUR.out.lt; omega
        have cC : WC.cell? ⟨N, 0, none⟩ = some (.slice (some ⟨b', off', none⟩) S.length cs) := by rw [hWC]; exact (set_other (fun h => hNr h.symm)).trans ((hBB.cell (p := ⟨N, 0, none⟩) (by show N < _; omega)).trans CR.out)
        have qC0 : WC.cell? ⟨wr.heap.size, 0, none⟩ = some (.int .i64 k1) := by rw [hWC]; exact (set_other (fun h => hwr h.symm)).trans q0
        have qC2 : WC.cell? ⟨wr.heap.size, 2, none⟩ = some (.int .i64 v1) := by rw [hWC]; exact (set_other (fun h => hwr h.symm)).trans q2
        have uC : WC.cell? ⟨U, i, none⟩ = some (.slice A4 vsl.length c4) := by rw [hWC]; exact World.cell?_setCell_same _ _ _ u0
        have uF : WC.frozen? ⟨U, i, none⟩ = false := hUC.free i hlt
        have hiC : IntsAt WC (fun b => b < WC.heap.size ∧ b ≠ U) A4 vsl := by rw [hWC]; exact hiB.keep fun b hb => ⟨⟨by simp; exact hb.1, hb.2⟩, Below.heap_setCell _ _ _ _ hb.2⟩
        have hany := pure_any 10 enters10 #[.pointer (some ⟨N, 0, none⟩)] (fun v => decide ((S.length : Int) ≤ v)) A4 c4 vsl WC _ (fun v _ => f10_any v _ S.length cs N WC cC) hiC
        have HANY := Lib.hid hany; clear hany
        have HUC := Lib.hid hUC; clear hUC
        have HBC := Lib.hid hbC; clear hbC
        clear hiB hiC hUB q0 q2 hb4 ho4 hi4 h0 h1 h2 h3
        go_upto_region 14 with fail
        rw [← hWC]
        clear hWC u0 u1
        go_wp2_with fail
        refine HANY.out.mono ?_
        rintro e wD ⟨rfl, rfl⟩
        by_cases hv : ∃ v ∈ vsl, (S.length : Int) ≤ v
        · have hab : vsl.any (fun v => decide ((S.length : Int) ≤ v)) = true := by rw [List.any_eq_true]; obtain ⟨v, h1, h2⟩ := hv; exact ⟨v, h1, decide_eq_true h2⟩
          rw [hab]
          have hre := HRE2.out HR0.out (by obtain ⟨v, h1, h2⟩ := hv; exact ⟨v, (HMEM.out v).1 h1, h2⟩)
          have hrow : rowsErr S.length S = 4 := HRE.out.trans (HROW.out.trans (by rw [hre, if_pos (by decide)]))
          have hEb : (E == 4) = true := by rw [← HE.out, substErr_row HNL.out (by rw [hrow]; decide), hrow]; rfl
          clear hre hrow hv hab
          go_wp2_with fail
          go_ret
          exact ⟨rfl, by rw [← HN.out]; exact HBC.out⟩
        · have hab : vsl.any (fun v => decide ((S.length : Int) ≤ v)) = false := by rw [List.any_eq_false]; intro v h1 h2; exact hv ⟨v, h1, of_decide_eq_true h2⟩
          rw [hab]
          have hre := HRE3.out HR0.out (fun v h => by
            apply Int.not_le.1
            intro hle
            exact hv ⟨v, (HMEM.out v).2 h, hle⟩)
          have HRW := Lib.hid (HRE.out.trans (HROW.out.trans (by rw [hre, if_neg (fun h => h rfl)]))); clear hre hv hab
          by_cases hs : k1 = 0 ∧ v1 = (i : Int)
          · obtain ⟨rfl, rfl⟩ := hs
            have hUD := HUC.out.store (A := none) (c := 0) (list := []) hlt ⟨by simp, fun h => by simp at h⟩
            have cD : (WC.setCell ⟨U, i, none⟩ (.slice none 0 0)).cell? ⟨N, 0, none⟩ = some (.slice (some ⟨b', off', none⟩) S.length cs) := (set_other (fun h => hNr h.symm)).trans cC
            have HU7 : Hid (∃ f, UT S.length U (WC.setCell ⟨U, i, none⟩ (.slice none 0 0)) f ∧ ∀ j : Nat, j < i + 1 → ∀ x, x ∈ f j ↔ x ∈ uses S j) := Lib.hid ⟨_, hUD, fun j hj => by
              by_cases hji : j = i
              · subst hji
                simp only [if_true]
                intro x
                rw [HUSE.out, if_pos ⟨by trivial, by trivial⟩]
              · simp only [if_neg hji]
                exact HFR.out j (by omega)⟩
            have HB7 := Lib.hid (HBC.out.setCell (p := ⟨U, i, none⟩) (show N ≤ U by omega) (.slice none 0 0))
            clear hUD
            go_wp2_with fail
            go_roundg (S.length - (i + 1))
            case measure => omega
            case rel => exact ⟨i + 1, by omega, by go_num, HRW, HB7, cD, by simp; omega, HU7⟩
          · have HNS := Lib.hid hs
            have hs' : (k1 == 0) = false ∨ (k1 = 0 ∧ (v1 == (i : Int)) = false) := by
              by_cases h : k1 = 0
              · exact .inr ⟨h, by rw [beq_eq_false_iff_ne]; exact fun h2 => hs ⟨h, h2⟩⟩
              · exact .inl (by rw [beq_eq_false_iff_ne]; exact h)
            have HU7 : Hid (∃ f, UT S.length U WC f ∧ ∀ j : Nat, j < i + 1 → ∀ x, x ∈ f j ↔ x ∈ uses S j) := Lib.hid ⟨_, HUC.out, fun j hj => by
              by_cases hji : j = i
              · subst hji
                simp only [if_true]
                intro x
                rw [HUSE.out, if_neg HNS.out]
                exact HMEM.out x
              · simp only [if_neg hji]
                exact HFR.out j (by omega)⟩
            clear hs
            rcases hs' with hkb | ⟨hk0, hvb⟩
            · go_wp2_with fail
              go_roundg (S.length - (i + 1))
              case measure => omega
              case rel => exact ⟨i + 1, by omega, by go_num, HRW, HBC, cC, by omega, HU7⟩
            · subst hk0
              go_wp2_with fail
              go_roundg (S.length - (i + 1))
              case measure => omega
              case rel => exact ⟨i + 1, by omega, by go_num, HRW, HBC, cC, by omega, HU7⟩
      · have hrb : (r.2 != 0) = true := by rw [bne_iff_ne]; exact hr0
        have hrow : rowsErr S.length S = r.2 := HRE.out.trans (HROW.out.trans (by rw [HRE1.out hr0, if_pos hr0]))
        have hEb : (E == r.2) = true := by rw [← HE.out, substErr_row HNL.out (by rw [hrow]; exact hr0), hrow]; exact beq_self_eq_true _
        have HR0 := Lib.hid hr0; clear hr0
        have HRW := Lib.hid hrow; clear hrow
        go_wp2_with fail
        go_ret
        exact ⟨rfl, by rw [← HN.out]; exact Hgr.out.trans (HBA.out.mono (by omega))⟩
    · have hrow : rowsErr S.length S = 0 := HRE.out.trans (rowsErr_end (by omega))
      have hi : i = S.length := by omega
      subst hi
      have hR1 := rows1_of hrow
      obtain ⟨f, hUr, hfr⟩ := HUr.out
      have HROW := Lib.hid hrow; clear hrow
      have HR1 := Lib.hid hR1; clear hR1
      have HFR := Lib.hid hfr; clear hfr
      have hmk := HMK2.out
      obtain ⟨Z, hZ⟩ : ∃ Z, Z = wr.heap.size := ⟨_, rfl⟩
      obtain ⟨Wz, hWz⟩ : ∃ Wz : World, Wz = (wr.alloc (.cells (madeCells #[.int .i64 0] S.length) 3)).alloc (.cells #[.slice (some ⟨wr.heap.size, 0, none⟩) S.length S.length] 30) := ⟨_, rfl⟩
      have hgz : Below wr.heap.size wr Wz := by rw [hWz]; exact (Below.alloc (Below.refl _ _) (Nat.le_refl _) _).alloc (by simp) _
      have hrz : RowAt Wz Z 0 (List.replicate S.length 0) := by rw [hWz, hZ]; exact (row_made wr S.length).keep (Below.heap_alloc _ _ _ (by simp))
      have hzz : Wz.heap.size = Z + 2 := by rw [hWz, hZ]; simp
      have cX : Wz.cell? ⟨Z + 1, 0, none⟩ = some (.slice (some ⟨Z, 0, none⟩) S.length S.length) := by rw [hWz, hZ]; simp [go_sem]
      have cN : Wz.cell? ⟨N, 0, none⟩ = some (.slice As S.length cs) := (hgz.cell (p := ⟨N, 0, none⟩) (by show N < _; omega)).trans cr
      have hUK : ∀ w', Wz.grownBy w' (some Z) → UT S.length U w' f := fun w' h => hUr.keep (by have := h.size; omega) fun b hb => (h.block b (by omega) (by intro e; cases e; omega)).trans (hgz.block b hb)
      have hRK : ∀ w', Wz.grownBy w' (some Z) → ArgsAt w' (· < B) As S := fun w' h => HR6.out w' (Hgr.out.trans ((hgz.mono (by omega)).trans (grown_below h (by omega) (by omega))))
      have hEND : ∀ w', Wz.grownBy w' (some Z) → Below w.heap.size w w' := fun w' h => by rw [← HN.out]; exact Hgr.out.trans ((hgz.mono (by omega)).trans (grown_below h (by omega) (by omega)))
      have HUK := Lib.hid hUK; clear hUK hUr HUr
      have HRK := Lib.hid hRK; clear hRK
      have HEND := Lib.hid hEND; clear hEND
      have HRZ := Lib.hid hrz; clear hrz
      have hZN : N + 2 ≤ Z := by omega
      have hZU : U + 1 ≤ Z := by omega
      clear hgz
      go_upto_region 20 with fail
      rw [← hZ] at hWz ⊢
      rw [← hWz]
      clear hWz hmk hZ HMK2 HG6 HG5 HG4 HG3 HB2 HF1 HF2 HF3 HUT hzr Hgr cr HRE c6
      go_wp2_with fail
      have hcnt0 : (List.replicate S.length (0 : Int)).count 0 = S.length := by simp
      have HC0 := Lib.hid hcnt0; clear hcnt0
      go_loopg [9, 10] (2 * S.length + 1) (fun g x y wr => ∃ zs : List Int, ∃ more : Bool, ∃ cz : Nat, Hid (zs.count 0 = cz) ∧ x = .int .i64 cz ∧ y = .bool more ∧ Hid (ZInv S zs) ∧ Hid (RowAt wr Z 0 zs) ∧ Hid (Wz.grownBy wr (some Z)) ∧ Hid (more = false → Stuck S zs S.length) ∧ 2 * cz + (if more then 1 else 0) ≤ g ∧ cz ≤ 4096)
      case atStart => exact ⟨List.replicate S.length 0, true, S.length, HC0, rfl, rfl, Lib.hid ⟨List.length_replicate, fun j hj => .inl (by simp [List.getD, hj])⟩, HRZ, Lib.hid (Gb.refl _ _), Lib.hid (fun h => nomatch h), by simp, hl⟩
      case round =>
        obtain ⟨zs, more, cz, HCZ, rfl, rfl, HZI, HRW, Hgz, HST, hmeas, hc4⟩ := hrel
        have cNr : wr.cell? ⟨N, 0, none⟩ = some (.slice As S.length cs) := (gcell Hgz.out (by omega) (by intro e; cases e; omega) 0).trans cN
        have cXr : wr.cell? ⟨Z + 1, 0, none⟩ = some (.slice (some ⟨Z, 0, none⟩) S.length S.length) := (gcell Hgz.out (by omega) (by intro e; have := Option.some.inj e; omega) 0).trans cX
        have hzr : Z + 2 ≤ wr.heap.size := by have := Hgz.out.size; omega
        have hlen := HZI.out.1
        have HLEN := Lib.hid hlen; clear hlen
        have hints : IntsAt wr (fun _ => True) (some ⟨Z, 0, none⟩) zs := ⟨by rw [HLEN.out]; omega, fun _ => ⟨Z, 0, rfl, trivial, fun j hj => (HRW.out j hj).1⟩⟩
        by_cases h0 : cz = 0
        · have hgood : ∀ j : Nat, j < S.length → Good S j ∧ zs.getD j 0 = szOf S j := fun j hj => by
            have h := zinv_pos HZI.out hj (count_zero (HCZ.out.trans h0) (by rw [HLEN.out]; exact hj))
            exact ⟨h.1, h.2.1⟩
          have hse : substErr S = sizedErr S (szOf S) := substErr_sized HNL.out HROW.out (fun j hj => (hgood j hj).1)
          have hany := pure_any 13 enters13 #[] (fun v => decide (4096 < v)) (some ⟨Z, 0, none⟩) S.length zs wr _ (fun v _ => f13_any v wr) hints
          rw [HLEN.out] at hany
          have HSE := Lib.hid hse; clear hse
          have HGD := Lib.hid hgood; clear hgood
          subst h0
          clear hints
          by_cases hv : ∃ v ∈ zs, 4096 < v
          · have hab : zs.any (fun v => decide (4096 < v)) = true := by rw [List.any_eq_true]; obtain ⟨v, h1, h2⟩ := hv; exact ⟨v, h1, decide_eq_true h2⟩
            rw [hab] at hany
            have hEb : (E == 2) = true := by
              obtain ⟨v, h1, h2⟩ := hv
              obtain ⟨j, hj, rfl⟩ := List.getElem_of_mem h1
              rw [HLEN.out] at hj
              have := (HGD.out j hj).2
              rw [← HE.out, HSE.out, sizedErr_bad hj (by rw [← this]; simpa [List.getD, HLEN.out, hj] using h2)]; rfl
            have HANY := Lib.hid hany; clear hany hab hv
            go_wp2_with fail
            refine HANY.out.mono ?_
            rintro e wD ⟨rfl, rfl⟩
            go_wp2_with fail
            go_ret
            exact ⟨rfl, HEND.out _ Hgz.out⟩
          · have hab : zs.any (fun v => decide (4096 < v)) = false := by rw [List.any_eq_false]; intro v h1 h2; exact hv ⟨v, h1, of_decide_eq_true h2⟩
            rw [hab] at hany
            have hEb : (E == 0) = true := by
              rw [← HE.out, HSE.out, sizedErr_ok fun j hj => ?_]
              · rfl
              · rw [← (HGD.out j hj).2]
                apply Int.not_lt.1
                intro h
                exact hv ⟨zs.getD j 0, by simp [List.getD, HLEN.out, hj], h⟩
            have HANY := Lib.hid hany; clear hany hab hv
            go_wp2_with fail
            refine HANY.out.mono ?_
            rintro e wD ⟨rfl, rfl⟩
            go_wp2_with fail
            go_ret
            exact ⟨rfl, HEND.out _ Hgz.out⟩
        have hpos : 0 < cz := by omega
        have hint0 := Lib.hid hints; clear hints
        cases more with
        | false =>
          have hEb : (E == 8) = true := by
            obtain ⟨j, hj, hz⟩ := count_pos_ex (show 0 < zs.count 0 by rw [HCZ.out]; exact hpos)
            rw [HLEN.out] at hj
            rw [← HE.out, substErr_cyc HNL.out HROW.out ⟨j, hj, fun hg => stuck_good HR1.out (HST.out rfl) hg (by omega) (by omega) (by simpa using hz)⟩]; rfl
          go_wp2_with fail
          go_ret
          exact ⟨rfl, HEND.out _ Hgz.out⟩
        | true =>
          simp only [if_true] at hmeas
          clear HST
          go_wp2_with fail
          have HZ0 := HZI
          have HCZ0 := HCZ
          have HRW0 := HRW
          have Hgz0 := Hgz
          clear cNr cXr hint0 HZI HCZ HRW Hgz HLEN
          have hzs := hzr
          go_loopg [9, 10, 89] S.length (fun g x y z wr => ∃ i : Nat, ∃ zs' : List Int, ∃ more' : Bool, ∃ c' : Nat, i + g = S.length ∧ z = .int .i64 i ∧ Hid (zs'.count 0 = c') ∧ x = .int .i64 c' ∧ y = .bool more' ∧ Hid (ZInv S zs') ∧ Hid (RowAt wr Z 0 zs') ∧ Hid (Wz.grownBy wr (some Z)) ∧
            Hid (more' = false → Stuck S zs' i) ∧ 2 * c' + (if more' then 1 else 0) ≤ 2 * cz ∧ c' ≤ 4096)
          case atStart => exact ⟨0, zs, false, cz, by omega, rfl, HCZ0, rfl, rfl, HZ0, HRW0, Hgz0, Lib.hid (fun _ j hj => by omega), by simp, hc4⟩
          case round =>
            obtain ⟨i, zs', more', c', hig', rfl, HCZ, rfl, rfl, HZI, HRW, Hgz, HST, hms, hc4'⟩ := hrel
            have cNr : wr.cell? ⟨N, 0, none⟩ = some (.slice As S.length cs) := (gcell Hgz.out (by omega) (by intro e; cases e; omega) 0).trans cN
            have cXr : wr.cell? ⟨Z + 1, 0, none⟩ = some (.slice (some ⟨Z, 0, none⟩) S.length S.length) := (gcell Hgz.out (by omega) (by intro e; have := Option.some.inj e; omega) 0).trans cX
            have hzr : Z + 2 ≤ wr.heap.size := by have := Hgz.out.size; omega
            have HLEN := Lib.hid HZI.out.1
            by_cases hlt : i < S.length
            · rcases (HRK.out wr Hgz.out).elem with h | ⟨b', off', hAeq, hel⟩
              · exact absurd hlt (by omega)
              subst hAeq
              obtain ⟨k1, n1, v1, us, A1, c1', ht, hb1, e0, e1, e2, e3, hA1, _⟩ := hel i hlt
              clear hel
              have hat : at' S (i : Int) = .mk k1 n1 v1 us := at_nat ht
              obtain ⟨Wc, hWc⟩ : ∃ Wc : World, Wc = wr.alloc (.cells #[.int .i64 k1, .string n1, .int .i64 v1, .slice A1 us.length c1'] 27) := ⟨_, rfl⟩
              have hgc : Below wr.heap.size wr Wc := by rw [hWc]; exact Below.alloc (Below.refl _ _) (Nat.le_refl _) _
              have hzc : Wc.heap.size = wr.heap.size + 1 := by rw [hWc]; simp
              have f0 : Wc.cell? ⟨wr.heap.size, 0, none⟩ = some (.int .i64 k1) := by rw [hWc]; simp [go_sem]
              have f1 : Wc.cell? ⟨wr.heap.size, 1, none⟩ = some (.string n1) := by rw [hWc]; simp [go_sem]
              have f2 : Wc.cell? ⟨wr.heap.size, 2, none⟩ = some (.int .i64 v1) := by rw [hWc]; simp [go_sem]
              have f3 : Wc.cell? ⟨wr.heap.size, 3, none⟩ = some (.slice A1 us.length c1') := by rw [hWc]; simp [go_sem]
              have cXc : Wc.cell? ⟨Z + 1, 0, none⟩ = some (.slice (some ⟨Z, 0, none⟩) S.length S.length) := (hgc.cell (p := ⟨Z + 1, 0, none⟩) (by show Z + 1 < _; omega)).trans cXr
              have hgz' : Wz.grownBy Wc (some Z) := Gb.trans Hgz.out (below_grown hgc _)
              have hrow := HRW.out.keep (hgc.block Z (by omega))
              have hri := hrow i (by rw [HLEN.out]; exact hlt)
              rw [Nat.zero_add] at hri
              have r1 := hri.1
              have r2 := hri.2
              clear hri
              obtain ⟨Au, cu, ucell, hiu⟩ := (HUK.out Wc hgz').cells i hlt
              have hfi := HFR.out i hlt
              have hvr := HR1.out.vars i hlt
              have hA' : ArgsAt Wc (· < B) A1 us := hA1.keep fun b h => ⟨h, hgc.block b (by omega)⟩
              have HGZ' := Lib.hid hgz'; clear hgz'
              have HROWc := Lib.hid hrow; clear hrow
              have HGC := Lib.hid hgc; clear hgc
              have HFI := Lib.hid hfi; clear hfi
              have HVR := Lib.hid hvr; clear hvr
              have HIU := Lib.hid hiu; clear hiu
              have HAc := Lib.hid hA'; clear hA' hA1
              have HAT := Lib.hid hat; clear hat
              generalize hy : zs'.getD i 0 = y at *
              have HY := Lib.hid hy; clear hy
              by_cases hy0 : y = 0
              · subst hy0
                generalize f i = fl at *
                have hany := pure_any 11 enters11 #[.pointer (some ⟨Z + 1, 0, none⟩)] (fun v => zs'.getD v.toNat 0 == 0) Au cu fl Wc _ (fun v hv => by
                  have hu := (HFI.out v).1 hv
                  have hv' : v ∈ vars (at' S i) := by
                    unfold uses at hu
                    split at hu
                    · cases hu
                    · exact hu
                  have hr := HVR.out v hv'
                  obtain ⟨v', rfl⟩ := Int.eq_ofNat_of_zero_le hr.1
                  rw [Int.toNat_natCast]
                  have hc := (HROWc.out v' (by rw [HLEN.out]; omega)).1
                  rw [Nat.zero_add] at hc
                  exact f11_any v' _ Z S.length S.length (Z + 1) Wc cXc (by omega) hc) HIU.out
                by_cases hv : ∃ v ∈ fl, zs'.getD v.toNat 0 = 0
                · have hab : fl.any (fun v => zs'.getD v.toNat 0 == 0) = true := by rw [List.any_eq_true]; obtain ⟨v, h1, h2⟩ := hv; exact ⟨v, h1, by rw [h2]; rfl⟩
                  rw [hab] at hany
                  have HANY := Lib.hid hany; clear hany hab
                  have HV := Lib.hid hv; clear hv
                  go_upto_region 28 with fail
                  rw [← hWc]
                  clear hWc
                  go_wp2_with fail
                  refine HANY.out.mono ?_
                  rintro e wD ⟨rfl, rfl⟩
                  go_wp2_with fail
                  go_roundg (S.length - (i + 1))
                  case measure => omega
                  case rel => exact ⟨i + 1, zs', more', c', by omega, by go_num, HCZ, rfl, rfl, HZI, HROWc, HGZ', Lib.hid (fun hm j hj => by
                    by_cases hji : j = i
                    · subst hji
                      obtain ⟨v, h1, h2⟩ := HV.out
                      exact .inr ⟨v, (HFI.out v).1 h1, h2⟩
                    · exact HST.out hm j (by omega)), hms, hc4'⟩
                · have hab : fl.any (fun v => zs'.getD v.toNat 0 == 0) = false := by rw [List.any_eq_false]; intro v h1 h2; exact hv ⟨v, h1, by simpa using h2⟩
                  rw [hab] at hany
                  have HANY := Lib.hid hany; clear hany hab
                  have HV := Lib.hid hv; clear hv
                  have hgood : Good S i := .mk _ fun v hu => by
                    have hv' : v ∈ vars (at' S i) := by
                      unfold uses at hu
                      split at hu
                      · cases hu
                      · exact hu
                    have hr := HVR.out v hv'
                    obtain ⟨v', rfl⟩ := Int.eq_ofNat_of_zero_le hr.1
                    exact (zinv_pos HZI.out (show v' < S.length by omega) (fun h => HV.out ⟨v', (HFI.out v').2 hu, by simpa using h⟩)).1
                  have hszi := szOf_spec S i hgood
                  have hszb := (szOf_spec S).bd hgood
                  have hzi2 := zinv_set HZI.out hlt hgood
                  have hcs := count_set zs' i (szOf S i) (by rw [HLEN.out]; exact hlt) HY.out (by omega)
                  rw [HCZ.out] at hcs
                  obtain ⟨cc, hcc, hce⟩ : ∃ cc, c' = cc + 1 ∧ (zs'.set i (szOf S i)).count 0 = cc := ⟨_, hcs.symm, rfl⟩
                  have HCC := Lib.hid hce; clear hce hcs
                  subst hcc
                  have HZI2 := Lib.hid hzi2; clear hzi2
                  have HSZI := Lib.hid hszi; clear hszi
                  have HGOOD := Lib.hid hgood; clear hgood
                  by_cases hself : fl = [] ∧ k1 = 0
                  · obtain ⟨rfl, rfl⟩ := hself
                    have hs1 : szOf S i = 1 := by
                      have hself : selfAt S i := by
                        apply Decidable.byContradiction
                        intro hn
                        have hu : uses S i = vars (at' S i) := by unfold uses; rw [if_neg hn]
                        rw [HAT.out] at hu
                        have : v1 ∈ uses S i := by rw [hu, vars, if_pos rfl]; simp
                        exact absurd ((HFI.out v1).2 this) (by simp)
                      exact HSZI.out.trans (if_pos hself)
                    rw [hs1] at HCC HZI2
                    have hr10 : RowAt (Wc.setCell ⟨Z, i, none⟩ (.int .i64 1)) Z 0 (zs'.set i 1) := by
                      have := HROWc.out.set i (by rw [HLEN.out]; exact hlt) 1
                      rw [Nat.zero_add] at this
                      exact this
                    have hg10 : Wz.grownBy (Wc.setCell ⟨Z, i, none⟩ (.int .i64 1)) (some Z) := Gb.set HGZ'.out _ _
                    have hkeepU : (Wc.setCell ⟨Z, i, none⟩ (.int .i64 1)).cell? ⟨U, i, none⟩ = some (.slice Au 0 cu) := (set_other (by omega)).trans ucell
                    have hkeep0 : (Wc.setCell ⟨Z, i, none⟩ (.int .i64 1)).cell? ⟨wr.heap.size, 0, none⟩ = some (.int .i64 0) := (set_other (by omega)).trans f0
                    have HR10 := Lib.hid hr10; clear hr10
                    have HG10 := Lib.hid hg10; clear hg10 hs1
                    go_upto_region 28 with fail
                    rw [← hWc]
                    clear hWc
                    go_wp2_with fail
                    refine HANY.out.mono ?_
                    rintro e wD ⟨rfl, rfl⟩
                    go_wp2_with fail
                    go_roundg (S.length - (i + 1))
                    case measure => omega
                    case rel => exact ⟨i + 1, _, true, cc, by omega, by go_num, HCC, by go_num, rfl, HZI2, HR10, HG10, Lib.hid (fun h => nomatch h), by simp; omega, by omega⟩
                  · have hns : ¬ selfAt S i := fun hsf => by
                      have hu : uses S i = [] := by unfold uses; rw [if_pos hsf]
                      apply hself
                      refine ⟨List.eq_nil_iff_forall_not_mem.2 fun x hx => ?_, ?_⟩
                      · have := (HFI.out x).1 hx
                        rw [hu] at this
                        cases this
                      · have := hsf.1
                        rw [HAT.out] at this
                        exact this
                    have huv : uses S i = vars (.mk k1 n1 v1 us) := by unfold uses; rw [if_neg hns, HAT.out]
                    have hszf : szOf S i = fil (szOf S) (.mk k1 n1 v1 us) := by rw [← HAT.out]; exact HSZI.out.trans (if_neg hns)
                    obtain ⟨W10, hW10⟩ : ∃ W10 : World, W10 = Wc.setCell ⟨Z, i, none⟩ (.int .i64 1) := ⟨_, rfl⟩
                    have hr10 : RowAt W10 Z 0 (zs'.set i 1) := by
                      have := HROWc.out.set i (by rw [HLEN.out]; exact hlt) 1
                      rw [Nat.zero_add] at this
                      rw [hW10]
                      exact this
                    have hg10 : Wz.grownBy W10 (some Z) := by rw [hW10]; exact Gb.set HGZ'.out _ _
                    have hz10 : W10.heap.size = wr.heap.size + 1 := by rw [hW10]; simp; omega
                    have hfilc : ∀ W', Below W10.heap.size W10 W' → Calls Tryd.prog 12 #[.agg #[.int .i64 k1, .string n1, .int .i64 v1, .slice A1 us.length c1'], .slice (some ⟨Z, 0, none⟩) S.length S.length] W' fun e w' => e = .returned (.int .i64 (szOf S i)) ∧ Below W10.heap.size W10 w' := fun W' hb => by
                      have hh := fil_says (szOf S) (.mk k1 n1 v1 us) A1 (some ⟨Z, 0, none⟩) c1' S.length (zs'.set i 1) W10.heap.size W' hb.size
                        (HAc.out.keep fun b h => ⟨by omega, (hb.block b (by omega)).trans (by rw [hW10]; exact Below.heap_setCell _ _ _ _ (show b ≠ Z by omega))⟩)
                        ⟨by rw [List.length_set, HLEN.out]; omega, fun _ => ⟨Z, 0, rfl, by omega, fun j hj => (hb.cell (p := ⟨Z, 0 + j, none⟩) (by show Z < _; omega)).trans (hr10 j hj).1⟩⟩
                        (fun v hv => by
                          have hr := HVR.out v (by rw [HAT.out]; exact hv)
                          obtain ⟨v', rfl⟩ := Int.eq_ofNat_of_zero_le hr.1
                          have hne : zs'.getD v' 0 ≠ 0 := fun h => HV.out ⟨v', (HFI.out v').2 (by rw [huv]; exact hv), by simpa using h⟩
                          have hp := zinv_pos HZI.out (show v' < S.length by omega) hne
                          refine ⟨hr.1, by rw [List.length_set, HLEN.out]; exact hr.2, ?_, by omega, by omega⟩
                          rw [Int.toNat_natCast, getD_set (by rw [HLEN.out]; exact hlt)]
                          split
                          · rename_i h; rw [h, HY.out] at hne; exact absurd rfl hne
                          · exact hp.2.1)
                      rw [List.length_set, HLEN.out] at hh
                      refine (show Calls Tryd.prog 12 #[.agg #[.int .i64 k1, .string n1, .int .i64 v1, .slice A1 us.length c1'], .slice (some ⟨Z, 0, none⟩) S.length S.length] W' _ from hh).mono ?_
                      rintro e w' ⟨he, hb'⟩
                      exact ⟨by rw [he, hszf], hb.trans (hb'.mono hb.size)⟩
                    have x10 : W10.cell? ⟨Z + 1, 0, none⟩ = some (.slice (some ⟨Z, 0, none⟩) S.length S.length) := by rw [hW10]; exact (set_other (by omega)).trans cXc
                    have g0 : W10.cell? ⟨wr.heap.size, 0, none⟩ = some (.int .i64 k1) := by rw [hW10]; exact (set_other (by omega)).trans f0
                    have g1 : W10.cell? ⟨wr.heap.size, 1, none⟩ = some (.string n1) := by rw [hW10]; exact (set_other (by omega)).trans f1
                    have g2 : W10.cell? ⟨wr.heap.size, 2, none⟩ = some (.int .i64 v1) := by rw [hW10]; exact (set_other (by omega)).trans f2
                    have g3 : W10.cell? ⟨wr.heap.size, 3, none⟩ = some (.slice A1 us.length c1') := by rw [hW10]; exact (set_other (by omega)).trans f3
                    have hkeepU : (Wc.setCell ⟨Z, i, none⟩ (.int .i64 1)).cell? ⟨U, i, none⟩ = some (.slice Au fl.length cu) := (set_other (by omega)).trans ucell
                    have hkeep0 : (Wc.setCell ⟨Z, i, none⟩ (.int .i64 1)).cell? ⟨wr.heap.size, 0, none⟩ = some (.int .i64 k1) := (set_other (by omega)).trans f0
                    have s10 : W10.cell? ⟨Z, i, none⟩ = some (.int .i64 1) := by rw [hW10]; exact World.cell?_setCell_same _ _ _ r1
                    have s10f : W10.frozen? ⟨Z, i, none⟩ = false := by rw [hW10, World.frozen?_setCell]; exact r2
                    have h10a : Z + 1 < W10.heap.size := by omega
                    have h10b : wr.heap.size < W10.heap.size := by omega
                    have h10c : Z < W10.heap.size := by omega
                    have z1 : Z ≠ Z + 1 := by omega
                    have z2 : Z ≠ wr.heap.size := by omega
                    have HROW10 := Lib.hid hr10; clear hr10
                    have HG10 := Lib.hid hg10; clear hg10
                    have HFIL := Lib.hid hfilc; clear hfilc
                    clear hns huv hszf
                    by_cases hfl : 0 < fl.length
                    · have hfl' : (0 : Int) < (fl.length : Int) := by omega
                      clear hself
                      go_upto_region 28 with fail
                      rw [← hWc]
                      clear hWc
                      go_wp2_with fail
                      refine HANY.out.mono ?_
                      rintro e wD ⟨rfl, rfl⟩
                      go_upto_region 31 with fail
                      rw [← hW10]
                      clear hW10
                      go_region_held3 (fun w' => w'.cell? ⟨Z + 1, 0, none⟩ = some (.slice (some ⟨Z, 0, none⟩) S.length S.length) ∧ w'.cell? ⟨wr.heap.size, 0, none⟩ = some (.int .i64 k1) ∧ w'.cell? ⟨wr.heap.size, 1, none⟩ = some (.string n1) ∧ w'.cell? ⟨wr.heap.size, 2, none⟩ = some (.int .i64 v1) ∧ w'.cell? ⟨wr.heap.size, 3, none⟩ = some (.slice A1 us.length c1'))
                        (first | exact ⟨x10, g0, g1, g2, g3⟩ | exact ⟨x10', g0', g1', g2', g3'⟩ | exact ⟨(set_other z1).trans x10', (set_other z2).trans g0', (set_other z2).trans g1', (set_other z2).trans g2', (set_other z2).trans g3'⟩)
                        (first | (go_at_call 12; refine (HFIL.out _ ?_).mono ?_; (first | exact (Below.refl _ _).drew | exact pw_drewN' _ _ | exact Below.refl _ _); rintro e w11 ⟨rfl, hb11⟩; have x10' := (hb11.cell (p := ⟨Z + 1, 0, none⟩) h10a).trans x10; have g0' := (hb11.cell (p := ⟨wr.heap.size, 0, none⟩) h10b).trans g0; have g1' := (hb11.cell (p := ⟨wr.heap.size, 1, none⟩) h10b).trans g1; have g2' := (hb11.cell (p := ⟨wr.heap.size, 2, none⟩) h10b).trans g2; have g3' := (hb11.cell (p := ⟨wr.heap.size, 3, none⟩) h10b).trans g3; have r3 := (hb11.cell (p := ⟨Z, i, none⟩) h10c).trans s10; have r4 := (hb11.frozen (p := ⟨Z, i, none⟩) h10c).trans s10f; have HB11 := Lib.hid hb11; clear hb11))
                      have hr12 : RowAt (w11.setCell ⟨Z, i, none⟩ (.int .i64 (szOf S i))) Z 0 (zs'.set i (szOf S i)) := by
                        have := (HROW10.out.keep (HB11.out.block Z (show Z < W10.heap.size by omega))).set i (by rw [List.length_set, HLEN.out]; exact hlt) (szOf S i)
                        rw [Nat.zero_add, List.set_set] at this
                        exact this
                      have hg12 : Wz.grownBy (w11.setCell ⟨Z, i, none⟩ (.int .i64 (szOf S i))) (some Z) := Gb.set (Gb.trans HG10.out (below_grown HB11.out _)) _ _
                      have HR12 := Lib.hid hr12; clear hr12
                      have HG12 := Lib.hid hg12; clear hg12
                      clear x10' g0' g1' g2' g3' r3 r4
                      generalize w11.setCell ⟨Z, i, none⟩ (.int .i64 (szOf S i)) = W12 at *
                      go_wp2_with fail
                      go_roundg (S.length - (i + 1))
                      case measure => omega
                      case rel => exact ⟨i + 1, _, true, cc, by omega, by go_num, HCC, by go_num, rfl, HZI2, HR12, HG12, Lib.hid (fun h => nomatch h), by simp; omega, by omega⟩
                    · have hfl0 : fl = [] := List.eq_nil_of_length_eq_zero (by omega)
                      have hkb : (k1 != 0) = true := by rw [bne_iff_ne]; exact fun h => hself ⟨hfl0, h⟩
                      subst hfl0
                      clear hself hfl
                      go_upto_region 28 with fail
                      rw [← hWc]
                      clear hWc
                      go_wp2_with fail
                      refine HANY.out.mono ?_
                      rintro e wD ⟨rfl, rfl⟩
                      go_upto_region 31 with fail
                      rw [← hW10]
                      clear hW10
                      go_region_held3 (fun w' => w'.cell? ⟨Z + 1, 0, none⟩ = some (.slice (some ⟨Z, 0, none⟩) S.length S.length) ∧ w'.cell? ⟨wr.heap.size, 0, none⟩ = some (.int .i64 k1) ∧ w'.cell? ⟨wr.heap.size, 1, none⟩ = some (.string n1) ∧ w'.cell? ⟨wr.heap.size, 2, none⟩ = some (.int .i64 v1) ∧ w'.cell? ⟨wr.heap.size, 3, none⟩ = some (.slice A1 us.length c1'))
                        (first | exact ⟨x10, g0, g1, g2, g3⟩ | exact ⟨x10', g0', g1', g2', g3'⟩ | exact ⟨(set_other z1).trans x10', (set_other z2).trans g0', (set_other z2).trans g1', (set_other z2).trans g2', (set_other z2).trans g3'⟩)
                        (first | (go_at_call 12; refine (HFIL.out _ ?_).mono ?_; (first | exact (Below.refl _ _).drew | exact pw_drewN' _ _ | exact Below.refl _ _); rintro e w11 ⟨rfl, hb11⟩; have x10' := (hb11.cell (p := ⟨Z + 1, 0, none⟩) h10a).trans x10; have g0' := (hb11.cell (p := ⟨wr.heap.size, 0, none⟩) h10b).trans g0; have g1' := (hb11.cell (p := ⟨wr.heap.size, 1, none⟩) h10b).trans g1; have g2' := (hb11.cell (p := ⟨wr.heap.size, 2, none⟩) h10b).trans g2; have g3' := (hb11.cell (p := ⟨wr.heap.size, 3, none⟩) h10b).trans g3; have r3 := (hb11.cell (p := ⟨Z, i, none⟩) h10c).trans s10; have r4 := (hb11.frozen (p := ⟨Z, i, none⟩) h10c).trans s10f; have HB11 := Lib.hid hb11; clear hb11))
                      have hr12 : RowAt (w11.setCell ⟨Z, i, none⟩ (.int .i64 (szOf S i))) Z 0 (zs'.set i (szOf S i)) := by
                        have := (HROW10.out.keep (HB11.out.block Z (show Z < W10.heap.size by omega))).set i (by rw [List.length_set, HLEN.out]; exact hlt) (szOf S i)
                        rw [Nat.zero_add, List.set_set] at this
                        exact this
                      have hg12 : Wz.grownBy (w11.setCell ⟨Z, i, none⟩ (.int .i64 (szOf S i))) (some Z) := Gb.set (Gb.trans HG10.out (below_grown HB11.out _)) _ _
                      have HR12 := Lib.hid hr12; clear hr12
                      have HG12 := Lib.hid hg12; clear hg12
                      clear x10' g0' g1' g2' g3' r3 r4
                      generalize w11.setCell ⟨Z, i, none⟩ (.int .i64 (szOf S i)) = W12 at *
                      go_wp2_with fail
                      go_roundg (S.length - (i + 1))
                      case measure => omega
                      case rel => exact ⟨i + 1, _, true, cc, by omega, by go_num, HCC, by go_num, rfl, HZI2, HR12, HG12, Lib.hid (fun h => nomatch h), by simp; omega, by omega⟩
              · have hyp : 0 < y := by
                  have h := zinv_pos HZI.out hlt (by rw [HY.out]; exact hy0)
                  rw [HY.out] at h; omega
                have HY0 := Lib.hid hy0; clear hy0
                go_upto_region 28 with fail
                rw [← hWc]
                clear hWc
                go_wp2_with fail
                go_roundg (S.length - (i + 1))
                case measure => omega
                case rel => exact ⟨i + 1, zs', more', c', by omega, by go_num, HCZ, rfl, rfl, HZI, HROWc, HGZ', Lib.hid (fun hm j hj => by
                  by_cases hji : j = i
                  · subst hji; exact .inl (by rw [HY.out]; exact HY0.out)
                  · exact HST.out hm j (by omega)), hms, hc4'⟩
            · have hi : i = S.length := by omega
              subst hi
              go_wp2_with fail
              go_roundg (2 * c' + (if more' then 1 else 0))
              case measure => omega
              case rel => exact ⟨zs', more', c', HCZ, rfl, rfl, HZI, HRW, Hgz, HST, by omega, hc4'⟩
end Go.Proofs.YtoafghnieebimaaDoor
