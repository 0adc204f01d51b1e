/- The contracts of Free, Vars and filled. -/
import Derived.Test.YtoafghnieebimaaDoorF
import Derived.Test.YtoafghnieebimaaDoorG
import Derived.Maps.AppendAt
namespace Go.Proofs.YtoafghnieebimaaDoor
open Go.RowKit

theorem info3 : (Tryd.prog.info? 3).map (fun i => (i.zero, i.size, i.bytes)) = some (some (.int .i64 0), 1, 8) := by kernel_rfl
/-- A row of numbers of the call's own. -/
def OwnI (w : World) (N : Nat) (v : Value) (xs : List Int) : Prop := w.ownsRow N 3 1 v xs.length (xs.map (Value.int .i64))
theorem OwnI.nil (w : World) (N : Nat) : OwnI w N (.slice none 0 0) [] := World.ownsRow_nil _ _ _ _
theorem OwnI.out {w : World} {N : Nat} {v : Value} {xs : List Int} (h : OwnI w N v xs) : w.ownsRow N 3 1 v xs.length (xs.map (Value.int .i64)) := h
theorem OwnI.slice {w : World} {N : Nat} {v : Value} {xs : List Int} (h : OwnI w N v xs) : ∃ A c, v = .slice A xs.length c ∧ IntsAt w (fun b => v.ownBlock = some b) A xs ∧ xs.length ≤ 9223372036854775807 := by
  obtain ⟨hl, h⟩ := h
  rcases h with ⟨rfl, h0⟩ | ⟨g, cap, cur, rfl, hg, hh, hn, hm, hs, ht⟩
  · have : xs = [] := List.eq_nil_of_length_eq_zero h0
    subst this
    exact ⟨none, 0, rfl, ⟨by simp, fun h => by simp at h⟩, by simp⟩
  · have hmm : xs.length ≤ 9223372036854775807 := by unfold maxLen at hm; omega
    refine ⟨_, cap, rfl, ⟨hmm, fun _ => ⟨g, 0, rfl, rfl, fun j hj => ?_⟩⟩, hmm⟩
    rw [cell_of_row w g (0 + j) cur 3 (0, 0) hh]
    have h2 : (cur.toList.take (xs.length * 1))[j]? = (xs.map (Value.int .i64))[j]? := by rw [ht]
    rw [List.getElem?_take, if_pos (by omega)] at h2
    simp only [Nat.zero_add]
    rw [← Array.getElem?_toList, h2]
    simp [List.getD, hj]
theorem OwnI.lt {w : World} {N : Nat} {v : Value} {xs : List Int} (h : OwnI w N v xs) : ∀ k, v.ownBlock = some k → N ≤ k ∧ k < w.heap.size := World.ownsRow.lt h
theorem OwnI.below {w w' : World} {N B : Nat} {v : Value} {xs : List Int} (h : OwnI w N v xs) (hb : Below B w w') (hB : w.heap.size ≤ B) : OwnI w' N v xs :=
  World.ownsRow.kept (row := some w.heap.size) h ⟨hb.os, hb.tape, hb.output, hb.size, fun k hk _ => hb.block k (by omega)⟩ (by
    cases hv : v.ownBlock with
    | none => exact .inl rfl
    | some k => exact .inr (by intro e; cases e; have := h.lt _ hv; omega))
theorem OwnI.alloc {w : World} {N : Nat} {v : Value} {xs : List Int} (h : OwnI w N v xs) (o : Obj) : OwnI (w.alloc o) N v xs := World.ownsRow.alloc h o
theorem OwnI.mono {w : World} {N N' : Nat} {v : Value} {xs : List Int} (h : OwnI w N v xs) (hN : N' ≤ N) : OwnI w N' v xs := by
  obtain ⟨hl, h⟩ := h
  refine ⟨hl, ?_⟩
  rcases h with h | ⟨g, cap, cur, h1, h2, h3⟩
  · exact .inl h
  · exact .inr ⟨g, cap, cur, h1, by omega, h3⟩
theorem OwnI.one (w : World) (N : Nat) (x : Int) (hN : N ≤ w.heap.size) : OwnI (w.alloc (.cells #[.int .i64 x] 3)) N (.slice (some ⟨w.heap.size, 0, none⟩) 1 1) [x] :=
  ⟨by simp, .inr ⟨w.heap.size, 1, #[.int .i64 x], by simp, hN, heap_alloc_new _ _, by simp, by decide, by simp, by simp⟩⟩
theorem OwnI.cast {w : World} {N : Nat} {v : Value} {xs : List Int} {x : Int} (h : w.ownsRow N 3 1 v (xs.length + 1) (xs.map (Value.int .i64) ++ [.int .i64 x])) : OwnI w N v (xs ++ [x]) := by
  unfold OwnI
  simpa using h
theorem one_cell (x : Int) : ∀ u ∈ [Value.int .i64 x], u.oneCell' = true := by intro u hu; simp at hu; subst hu; rfl

def FreePost (t : Ty) (w : World) (e : Ending) (w' : World) : Prop := ∃ v, e = .returned v ∧ OwnI w' w.heap.size v (freeL t) ∧ Below w.heap.size w w'
def FreeSays (t : Ty) : Prop := ∀ (A : Option Addr) (c : Nat) (B : Nat) (w : World), B ≤ w.heap.size → cnt t ≤ 1000000 → ArgsAt w (· < B) A t.args →
    Calls Tryd.prog 50 #[.agg #[.int .i64 t.kind, .string t.name, .int .i64 t.var, .slice A t.args.length c]] w fun e w' => FreePost t w e w'

set_option maxRecDepth 100000 in
set_option maxHeartbeats 4000000 in
theorem free_says : ∀ t, FreeSays t := by
  apply Ty.ind
  intro k n v ts ih A c B w hB hcnt hA
  show Calls Tryd.prog 50 #[.agg #[.int .i64 k, .string n, .int .i64 v, .slice A ts.length c]] w fun e w' => FreePost (.mk k n v ts) w e w'
  replace hA : ArgsAt w (· < B) A ts := hA
  have hm := hA.1
  by_cases hk : k = 0
  · have HF : Hid (freeL (.mk k n v ts) = [v]) := Lib.hid (by rw [freeL, if_pos hk])
    subst hk
    clear ih hA
    go_enter Tryd.func50, Tryd.ntmps50
    go_wp2_with fail
    go_ret
    refine ⟨_, rfl, ?_, Below.alloc (Below.alloc (Below.refl _ _) (Nat.le_refl _) _) (by simp) _⟩
    rw [HF.out]
    have := OwnI.one (w.alloc (.cells #[.int .i64 0, .string n, .int .i64 v, .slice A ts.length c] 27)) w.heap.size v (by simp)
    simpa using this
  have hkb : (k == 0) = false := by rw [beq_eq_false_iff_ne]; exact hk
  have HF : Hid (freeL (.mk k n v ts) = freeAll (ts.drop 0) []) := Lib.hid (by rw [freeL, if_neg hk]; rfl)
  have hcn : cntAll ts ≤ 1000000 := by rw [cnt] at hcnt; omega
  have HI := Lib.hid ih; clear ih
  clear hk hcnt
  obtain ⟨i0, hi, hz0, hz1, hz2⟩ := info_parts info3
  go_enter Tryd.func50, Tryd.ntmps50
  go_wp2_with fail
  obtain ⟨W, hW⟩ : ∃ W : World, W = w.alloc (.cells #[.int .i64 k, .string n, .int .i64 v, .slice A ts.length c] 27) := ⟨_, rfl⟩
  have hg : Below w.heap.size w W := by rw [hW]; exact Below.alloc (Below.refl _ _) (Nat.le_refl _) _
  rw [← hW]
  clear hW
  have HA := Lib.hid hA; clear hA
  obtain ⟨N, hN⟩ : ∃ N, N = w.heap.size := ⟨_, rfl⟩
  have HN := Lib.hid hN
  rw [← hN] at hg hB
  have HG := Lib.hid hg; clear hg
  clear hN
  go_loopg [3, 17] ts.length (fun g ov x wr => ∃ i : Nat, ∃ outL : List Int, ∃ ow : Value, i + g = ts.length ∧ x = .int .i64 i ∧ ow = ov ∧ Hid (OwnI wr N ow outL) ∧ Hid (freeAll (ts.drop 0) [] = freeAll (ts.drop i) outL) ∧ outL.length + cntAll (ts.drop i) ≤ 1000000 ∧ Hid (Below N W wr))
  case atStart => exact ⟨0, [], _, by omega, rfl, rfl, Lib.hid (OwnI.nil _ _), Lib.hid rfl, by simpa using hcn, Lib.hid (Below.refl _ _)⟩
  case round =>
    obtain ⟨i, outL, ow, hig, rfl, rfl, HO, HFr, hbd, Hgr⟩ := hrel
    have hNr : N ≤ wr.heap.size := by have h1 := Hgr.out.size; have h2 := HG.out.size; have h3 := HN.out; omega
    by_cases hlt : i < ts.length
    · rcases (HA.out.under ((HG.out.trans Hgr.out).mono hB)).elem with h | ⟨b', off', hAeq, hel⟩
      · exact absurd hlt (by omega)
      subst hAeq
      obtain ⟨k1, n1, v1, us, A1, c1, ht, hb1, e0, e1, e2, e3, hA1, _⟩ := hel i hlt
      clear hel
      rw [cntAll_drop ht] at hbd
      have hIH := HI.out _ (List.mem_of_getElem? ht) A1 c1 B (wr.alloc (.cells #[.int .i64 k1, .string n1, .int .i64 v1, .slice A1 us.length c1] 27)) (by simp; omega) (by omega)
        (hA1.keep fun b h => ⟨h, Below.heap_alloc _ _ _ (by omega)⟩)
      replace hIH : Calls Tryd.prog 50 #[.agg #[.int .i64 k1, .string n1, .int .i64 v1, .slice A1 us.length c1]] _ fun e w' => FreePost (.mk k1 n1 v1 us) _ e w' := hIH
      have hst := freeAll_step ht outL
      have hvl := freeL_len (.mk k1 n1 v1 us)
      unfold FreePost at hIH
      generalize freeL (.mk k1 n1 v1 us) = vs at *
      have HST := Lib.hid hst; clear hst
      clear hA1
      have hgw : Below wr.heap.size wr (wr.alloc (.cells #[.int .i64 k1, .string n1, .int .i64 v1, .slice A1 us.length c1] 27)) := Below.alloc (Below.refl _ _) (Nat.le_refl _) _
      have hbd2 : outL.length + vs.length + cntAll (ts.drop (i + 1)) ≤ 1000000 := by omega
      clear hbd hvl
      have HGW := Lib.hid hgw; clear hgw
      have HIH := Lib.hid hIH; clear hIH
      go_wp2_with fail
      refine HIH.out.mono ?_
      rintro e w2 ⟨v2, rfl, ho2, hb2⟩
      rw [World.size_alloc] at ho2 hb2
      obtain ⟨A2, c2, rfl, hi2, hl2⟩ := ho2.slice
      have hown2 := HO.out.below (HGW.out.trans (hb2.mono (by omega))) (Nat.le_refl _)
      have hne : ∀ g, Value.ownBlock ow = some g → ∀ g', Value.ownBlock (.slice A2 vs.length c2) = some g' → g ≠ g' := by
        intro g h1 g' h2
        have := HO.out.lt g h1
        have := ho2.lt g' h2
        omega
      have Hb2 := Lib.hid (Hgr.out.trans ((HGW.out.trans (hb2.mono (by omega))).mono hNr))
      have Hown2 := Lib.hid hown2
      have Hi2 := Lib.hid hi2
      have Hne := Lib.hid hne
      clear hown2 hi2 hne hb2 ho2
      go_wp2_with fail
      go_loopg [3, 24] vs.length (fun g ov x wx => ∃ j : Nat, ∃ outJ : List Int, ∃ oj : Value, j + g = vs.length ∧ x = .int .i64 j ∧ oj = ov ∧ Hid (OwnI wx N oj outJ) ∧ Hid (addNew outL (vs.drop 0) = addNew outJ (vs.drop j)) ∧ outJ.length ≤ outL.length + j ∧ Hid (Below N W wx) ∧
        Hid (IntsAt wx (fun b => Value.ownBlock (.slice A2 vs.length c2) = some b) A2 vs) ∧ Hid (∀ g, Value.ownBlock oj = some g → ∀ g', Value.ownBlock (.slice A2 vs.length c2) = some g' → g ≠ g'))
      case atStart => exact ⟨0, outL, _, by omega, rfl, rfl, Hown2, Lib.hid rfl, by omega, Hb2, Hi2, Hne⟩
      case round =>
        obtain ⟨j, outJ, oj, hjg, rfl, rfl, HOj, HAj, hbj, Hbx, Hix, Hnx⟩ := hrel
        have hNx : N ≤ wr.heap.size := by have h1 := Hbx.out.size; have h2 := HG.out.size; have h3 := HN.out; omega
        by_cases hltj : j < vs.length
        · obtain ⟨bv, offv, rfl, hbv, hcv⟩ := Hix.out.2 (by omega)
          have h1 := hcv j hltj
          have hstj := addNew_step hltj outJ
          clear hcv
          obtain ⟨Ao, co, rfl, hio, hlo⟩ := HOj.out.slice
          generalize vs.getD j 0 = y at *
          have HSJ := Lib.hid hstj; clear hstj
          have HIO := Lib.hid hio; clear hio
          go_wp2_with fail
          refine (contains_any _ _ _ _ _ _ HIO.out).mono ?_
          rintro e w3 ⟨rfl, rfl⟩
          by_cases hmem : y ∈ outJ
          · rw [decide_eq_true hmem]
            have HM := Lib.hid hmem; clear hmem
            go_wp2_with fail
            go_roundg (vs.length - (j + 1))
            case measure => omega
            case rel => exact ⟨j + 1, outJ, _, by omega, by go_num, rfl, HOj, Lib.hid (HAj.out.trans (HSJ.out.trans (by rw [if_pos HM.out]))), by omega, Hbx, Hix, Hnx⟩
          · rw [decide_eq_false hmem]
            have HM := Lib.hid hmem; clear hmem
            go_wp2_with (at_builtin; refine wpList_append_own_at _ rfl _ _ 30 rfl N 3 i0 (.int .i64 0) 1 8 Tryd.underlying30 hi hz0 hz1 hz2 rfl (by decide) _ _ _ rfl (HOj.out.out.alloc _) ⟨_, 0, none⟩ 1 1 [.int .i64 y] rfl rfl (cell_one_new _ _ _) (one_cell y) ?c3 ?c4 ?c5 ?_)
            case c3 => unfold maxLen; omega
            case c4 => omega
            case c5 => simp; omega
            intro v3 w4 ho3 hg3 _ hb3
            have hbw : bv < wr.heap.size := World.block_lt_of_cell? _ _ h1
            have hO4 : OwnI w4 N v3 (outJ ++ [y]) := OwnI.cast ho3
            have hB4 : Below N W w4 := (Hbx.out.alloc hNx _).grown hg3 (by simp; omega) (fun k hk => (HOj.out.lt k hk).1)
            have hI4 : IntsAt w4 (fun b => Value.ownBlock (.slice (some ⟨bv, offv, none⟩) vs.length c2) = some b) (some ⟨bv, offv, none⟩) vs := Hix.out.keep fun b hb => ⟨hb, by
              have e : b = bv := by simpa [Value.ownBlock, eq_comm] using hb
              subst e
              exact (hg3.block b (by simp; omega) (fun e => Hnx.out b e.symm b hb rfl)).trans (Below.heap_alloc _ _ _ hbw)⟩
            have hN4 : ∀ g, Value.ownBlock v3 = some g → ∀ g', Value.ownBlock (.slice (some ⟨bv, offv, none⟩) vs.length c2) = some g' → g ≠ g' := by
              intro g h1 g' h2
              rcases hb3 with e | e
              · exact Hnx.out g (e ▸ h1) g' h2
              · rw [e] at h1
                have e2 : g' = bv := by simpa [Value.ownBlock, eq_comm] using h2
                simp at h1
                omega
            have HO4 := Lib.hid hO4
            have HB4 := Lib.hid hB4
            have HI4 := Lib.hid hI4
            have HN4 := Lib.hid hN4
            clear hO4 hB4 hI4 hN4 ho3 hg3 hb3 h1 HIO
            go_wp2_with fail
            go_roundg (vs.length - (j + 1))
            case measure => omega
            case rel => exact ⟨j + 1, outJ ++ [y], _, by omega, by go_num, rfl, HO4, Lib.hid (HAj.out.trans (HSJ.out.trans (by rw [if_neg HM.out]))), by simp; omega, HB4, HI4, HN4⟩
        · go_wp2_with fail
          go_roundg (ts.length - (i + 1))
          case measure => omega
          case rel => exact ⟨i + 1, outJ, _, by omega, by go_num, rfl, HOj, Lib.hid (HFr.out.trans (HST.out.trans (by rw [show addNew outL vs = outJ from HAj.out.trans (addNew_end (by omega) _)]))), by omega, Hbx⟩
    · go_wp2_with fail
      go_ret
      refine ⟨_, rfl, ?_, ?_⟩
      · rw [HF.out, HFr.out, freeAll_end (by omega), ← HN.out]; exact HO.out
      · rw [← HN.out]; exact HG.out.trans Hgr.out

def VarsPost (N : Nat) (xs : List Int) (w : World) (e : Ending) (w' : World) : Prop := ∃ v, e = .returned v ∧ OwnI w' N v xs ∧ Below N w w'
def VarsSays (t : Ty) : Prop := ∀ (A : Option Addr) (c : Nat) (sv : Value) (seen : List Int) (N B : Nat) (w : World), B ≤ N → N ≤ w.heap.size → OwnI w N sv seen → seen.length + cnt t ≤ 1000000 → ArgsAt w (· < B) A t.args →
    Calls Tryd.prog 8 #[.agg #[.int .i64 t.kind, .string t.name, .int .i64 t.var, .slice A t.args.length c], sv] w fun e w' => VarsPost N (seenL t seen) w e w'

set_option maxRecDepth 100000 in
set_option maxHeartbeats 4000000 in
theorem vars_says : ∀ t, VarsSays t := by
  apply Ty.ind
  intro k n v ts ih A c sv seen N B w hB hN hO hcnt hA
  show Calls Tryd.prog 8 #[.agg #[.int .i64 k, .string n, .int .i64 v, .slice A ts.length c], sv] w fun e w' => VarsPost N (seenL (.mk k n v ts) seen) w e w'
  replace hA : ArgsAt w (· < B) A ts := hA
  have hm := hA.1
  by_cases hk : k = 0
  · have HF : Hid (seenL (.mk k n v ts) seen = if v ∈ seen then seen else seen ++ [v]) := Lib.hid (by rw [seenL, if_pos hk])
    subst hk
    have hcn : seen.length + 1 ≤ 1000000 := by rw [cnt] at hcnt; omega
    clear ih hA hcnt
    obtain ⟨i0, hi, hz0, hz1, hz2⟩ := info_parts info3
    have hO' := hO.alloc (.cells #[.int .i64 0, .string n, .int .i64 v, .slice A ts.length c] 27)
    obtain ⟨As, cs, rfl, his, hls⟩ := hO'.slice
    have HO := Lib.hid hO'; clear hO' hO
    have HIS := Lib.hid his; clear his
    go_enter Tryd.func8, Tryd.ntmps8
    go_wp2_with fail
    obtain ⟨W, hW⟩ : ∃ W : World, W = w.alloc (.cells #[.int .i64 0, .string n, .int .i64 v, .slice A ts.length c] 27) := ⟨_, rfl⟩
    have hg : Below N w W := by rw [hW]; exact Below.alloc (Below.refl _ _) hN _
    have hv2 : W.cell? ⟨w.heap.size, 2, none⟩ = some (.int .i64 v) := by rw [hW]; simp [go_sem]
    have hNW : N ≤ W.heap.size := by rw [hW]; simp; omega
    rw [← hW] at HO HIS ⊢
    clear hW
    have HG := Lib.hid hg; clear hg
    go_loopg [6, 14] seen.length (fun g _ x wr => ∃ j : Nat, j + g = seen.length ∧ x = .int .i64 j ∧ wr = W ∧ Hid (∀ i, i < j → seen.getD i 0 ≠ v))
    case atStart => exact ⟨0, by omega, rfl, rfl, Lib.hid (fun j hj => by omega)⟩
    case round =>
      obtain ⟨j, hj, rfl, rfl, HN⟩ := hrel
      by_cases hlt : j < seen.length
      · obtain ⟨b, off, rfl, _, hcc⟩ := HIS.out.2 (by omega)
        have h1 := hcc j hlt
        clear hcc
        have hx : seen.getD j 0 ∈ seen := by simp [List.getD, hlt]
        generalize hy : seen.getD j 0 = y at *
        have HX := Lib.hid hx; clear hx
        have HY := Lib.hid hy; clear hy
        by_cases hvy : y = v
        · have hb1 : (y == v) = true := by rw [hvy]; exact beq_self_eq_true v
          have HV := Lib.hid hvy; clear hvy
          go_wp2_with fail
          go_ret
          exact ⟨_, rfl, by rw [HF.out, if_pos (by rw [← HV.out]; exact HX.out)]; exact HO.out, HG.out⟩
        · have hb1 : (y == v) = false := by rw [beq_eq_false_iff_ne]; exact hvy
          have HV := Lib.hid hvy; clear hvy
          go_wp2_with fail
          go_roundg (seen.length - (j + 1))
          case measure => omega
          case rel => exact ⟨j + 1, by omega, by go_num, rfl, Lib.hid (fun i hi => by
            by_cases hij : i = j
            · subst hij; rw [HY.out]; exact HV.out
            · exact HN.out i (by omega))⟩
      · have hnm : v ∉ seen := fun h => by
          obtain ⟨i, hi, rfl⟩ := List.getElem_of_mem h
          exact HN.out i (by omega) (by simp [List.getD, hi])
        have HNM := Lib.hid hnm; clear hnm
        go_wp2_with (at_builtin; refine wpList_append_own_at _ rfl _ _ 30 rfl N 3 i0 (.int .i64 0) 1 8 Tryd.underlying30 hi hz0 hz1 hz2 rfl (by decide) _ _ _ rfl (HO.out.out.alloc _) ⟨_, 0, none⟩ 1 1 [.int .i64 v] rfl rfl (cell_one_new _ _ _) (one_cell v) ?c3 ?c4 ?c5 ?_)
        case c3 => unfold maxLen; omega
        case c4 => omega
        case c5 => simp; omega
        intro v3 w4 ho3 hg3 _ _
        have HO4 : Hid (OwnI w4 N v3 (seen ++ [v])) := Lib.hid (OwnI.cast ho3)
        have HB4 : Hid (Below N w w4) := Lib.hid ((HG.out.alloc hNW _).grown hg3 (by simp; omega) (fun k hk => (HO.out.lt k hk).1))
        clear ho3 hg3
        go_wp2_with fail
        go_ret
        exact ⟨_, rfl, by rw [HF.out, if_neg HNM.out]; exact HO4.out, HB4.out⟩
  · have hkb : (k == 0) = false := by rw [beq_eq_false_iff_ne]; exact hk
    have HF : Hid (seenL (.mk k n v ts) seen = seenAll (ts.drop 0) seen) := Lib.hid (by rw [seenL, if_neg hk]; rfl)
    have hcn : seen.length + cntAll ts ≤ 1000000 := by rw [cnt] at hcnt; omega
    have HI := Lib.hid ih; clear ih
    clear hk hcnt
    have hO' := hO.alloc (.cells #[.int .i64 k, .string n, .int .i64 v, .slice A ts.length c] 27)
    have HO := Lib.hid hO'; clear hO' hO
    go_enter Tryd.func8, Tryd.ntmps8
    go_wp2_with fail
    obtain ⟨W, hW⟩ : ∃ W : World, W = w.alloc (.cells #[.int .i64 k, .string n, .int .i64 v, .slice A ts.length c] 27) := ⟨_, rfl⟩
    have hg : Below N w W := by rw [hW]; exact Below.alloc (Below.refl _ _) hN _
    have hNW : N ≤ W.heap.size := by rw [hW]; simp; omega
    rw [← hW] at HO ⊢
    clear hW
    have HA := Lib.hid (hA.under (hg.mono hB)); clear hA
    have HG := Lib.hid hg; clear hg
    go_loopg [1, 32] ts.length (fun g ov x wr => ∃ i : Nat, ∃ outL : List Int, ∃ ow : Value, i + g = ts.length ∧ x = .int .i64 i ∧ ow = ov ∧ Hid (OwnI wr N ow outL) ∧ Hid (seenAll (ts.drop 0) seen = seenAll (ts.drop i) outL) ∧ outL.length + cntAll (ts.drop i) ≤ 1000000 ∧ Hid (Below N W wr))
    case atStart => exact ⟨0, seen, _, by omega, rfl, rfl, HO, Lib.hid rfl, by simpa using hcn, Lib.hid (Below.refl _ _)⟩
    case round =>
      obtain ⟨i, outL, ow, hig, rfl, rfl, HOr, HFr, hbd, Hgr⟩ := hrel
      have hNr : N ≤ wr.heap.size := by have h1 := Hgr.out.size; omega
      by_cases hlt : i < ts.length
      · rcases (HA.out.under (Hgr.out.mono hB)).elem with h | ⟨b', off', hAeq, hel⟩
        · exact absurd hlt (by omega)
        subst hAeq
        obtain ⟨k1, n1, v1, us, A1, c1, ht, hb1, e0, e1, e2, e3, hA1, _⟩ := hel i hlt
        clear hel
        rw [cntAll_drop ht] at hbd
        have hIH := HI.out _ (List.mem_of_getElem? ht) A1 c1 ow outL N B (wr.alloc (.cells #[.int .i64 k1, .string n1, .int .i64 v1, .slice A1 us.length c1] 27)) hB (by simp; omega) (HOr.out.alloc _) (by omega)
          (hA1.keep fun b h => ⟨h, Below.heap_alloc _ _ _ (by omega)⟩)
        replace hIH : Calls Tryd.prog 8 #[.agg #[.int .i64 k1, .string n1, .int .i64 v1, .slice A1 us.length c1], ow] _ fun e w' => VarsPost N (seenL (.mk k1 n1 v1 us) outL) _ e w' := hIH
        have hst := seenAll_step ht outL
        have hvl := seenL_len (.mk k1 n1 v1 us) outL
        generalize seenL (.mk k1 n1 v1 us) outL = vs at *
        have HST := Lib.hid hst; clear hst
        clear hA1
        have hgw : Below N wr (wr.alloc (.cells #[.int .i64 k1, .string n1, .int .i64 v1, .slice A1 us.length c1] 27)) := Below.alloc (Below.refl _ _) hNr _
        have HGW := Lib.hid hgw; clear hgw
        have HIH := Lib.hid hIH; clear hIH
        go_wp2_with fail
        refine HIH.out.mono ?_
        rintro e w2 ⟨v2, rfl, ho2, hb2⟩
        have HO2 := Lib.hid ho2; clear ho2
        have HB2 := Lib.hid hb2; clear hb2
        go_wp2_with fail
        go_roundg (ts.length - (i + 1))
        case measure => omega
        case rel => exact ⟨i + 1, vs, _, by omega, by go_num, rfl, HO2, Lib.hid (HFr.out.trans HST.out), by omega, Lib.hid (Hgr.out.trans (HGW.out.trans HB2.out))⟩
      · go_wp2_with fail
        go_ret
        exact ⟨_, rfl, by rw [HF.out, HFr.out, seenAll_end (by omega)]; exact HOr.out, HG.out.trans Hgr.out⟩
end Go.Proofs.YtoafghnieebimaaDoor
