/- The contracts of filled, meter.size and sized. -/
import Derived.Test.YtoafghnieebimaaDoorH
namespace Go.Proofs.YtoafghnieebimaaDoor
open Go.RowKit

def FilSays (sz : Int → Int) (t : Ty) : Prop := ∀ (A As : Option Addr) (c cs : Nat) (zs : List Int) (B : Nat) (w : World), B ≤ w.heap.size → ArgsAt w (· < B) A t.args → IntsAt w (· < B) As zs →
    (∀ v ∈ vars t, 0 ≤ v ∧ v < zs.length ∧ zs.getD v.toNat 0 = sz v ∧ 1 ≤ sz v ∧ sz v ≤ 4097) →
    Calls Tryd.prog 12 #[.agg #[.int .i64 t.kind, .string t.name, .int .i64 t.var, .slice A t.args.length c], .slice As zs.length cs] w fun e w' => e = .returned (.int .i64 (fil sz t)) ∧ Below w.heap.size w w'

set_option maxRecDepth 100000 in
set_option maxHeartbeats 4000000 in
theorem fil_says (sz : Int → Int) : ∀ t, FilSays sz t := by
  apply Ty.ind
  intro k n v ts ih A As c cs zs B w hB hA hZ hV
  show Calls Tryd.prog 12 #[.agg #[.int .i64 k, .string n, .int .i64 v, .slice A ts.length c], .slice As zs.length cs] w fun e w' => e = .returned (.int .i64 (fil sz (.mk k n v ts))) ∧ Below w.heap.size w w'
  replace hA : ArgsAt w (· < B) A ts := hA
  have hm := hA.1
  by_cases hk : k = 0
  · have HF : Hid (fil sz (.mk k n v ts) = sz v) := Lib.hid (by rw [fil, if_pos hk])
    rw [vars, if_pos hk] at hV
    obtain ⟨h1, h2, h3, _⟩ := hV v (by simp)
    subst hk
    clear ih hA hV
    obtain ⟨u, rfl⟩ := Int.eq_ofNat_of_zero_le h1
    obtain ⟨b, off, rfl, hb, hc⟩ := hZ.2 (by omega)
    have h4 := hc u (by omega)
    rw [Int.toNat_natCast] at h3
    rw [h3] at h4
    clear hc hZ
    generalize sz u = y at *
    clear h3
    have h5 : (w.alloc (.cells #[.int .i64 0, .string n, .int .i64 u, .slice A ts.length c] 27)).cell? ⟨b, off + u, none⟩ = some (.int .i64 y) := (World.cell?_alloc_past _ _ _ (by omega)).trans h4
    go_enter Tryd.func12, Tryd.ntmps12
    go_wp2_with fail
    go_ret
    exact ⟨ret_int HF.out.symm, Below.alloc (Below.refl _ _) (Nat.le_refl _) _⟩
  · have hkb : (k == 0) = false := by rw [beq_eq_false_iff_ne]; exact hk
    have HF : Hid (fil sz (.mk k n v ts) = filAll sz (ts.drop 0) 1) := Lib.hid (by rw [fil, if_neg hk]; rfl)
    rw [vars, if_neg hk] at hV
    have HV := Lib.hid hV; clear hV
    have HI := Lib.hid ih; clear ih
    clear hk
    have HA := Lib.hid hA; clear hA
    have HZ := Lib.hid hZ; clear hZ
    go_enter Tryd.func12, Tryd.ntmps12
    go_wp2_with fail
    obtain ⟨W, hW⟩ : ∃ W : World, W = w.alloc (.cells #[.int .i64 k, .string n, .int .i64 v, .slice A ts.length c] 27) := ⟨_, rfl⟩
    have hg : Below w.heap.size w W := by rw [hW]; exact Below.alloc (Below.refl _ _) (Nat.le_refl _) _
    rw [← hW]
    clear hW
    obtain ⟨N, hN⟩ : ∃ N, N = w.heap.size := ⟨_, rfl⟩
    rw [← hN] at hg hB
    have HN := Lib.hid hN; clear hN
    have HG := Lib.hid hg; clear hg
    go_loopg [5, 19] ts.length (fun g y x wr => ∃ i : Nat, ∃ m : Int, i + g = ts.length ∧ x = .int .i64 i ∧ y = .int .i64 m ∧ 1 ≤ m ∧ m ≤ 4097 ∧ Hid (filAll sz (ts.drop 0) 1 = filAll sz (ts.drop i) m) ∧ Hid (Below N W wr))
    case atStart => exact ⟨0, 1, by omega, rfl, rfl, by omega, by omega, Lib.hid rfl, Lib.hid (Below.refl _ _)⟩
    case round =>
      obtain ⟨i, m, hig, rfl, rfl, hm1, hm2, HFr, Hgr⟩ := hrel
      have hNr : N ≤ wr.heap.size := by have h1 := Hgr.out.size; have h2 := HG.out.size; have h3 := HN.out; omega
      by_cases hlt : i < ts.length
      · rcases (HA.out.under ((HG.out.trans Hgr.out).mono hB)).elem with h | ⟨b', off', hAeq, hel⟩
        · exact absurd hlt (by omega)
        subst hAeq
        obtain ⟨k1, n1, v1, us, A1, c1, ht, hb1, e0, e1, e2, e3, hA1, _⟩ := hel i hlt
        clear hel
        have hIH := HI.out _ (List.mem_of_getElem? ht) A1 As c1 cs zs B (wr.alloc (.cells #[.int .i64 k1, .string n1, .int .i64 v1, .slice A1 us.length c1] 27)) (by simp; omega)
          (hA1.keep fun b h => ⟨h, Below.heap_alloc _ _ _ (by omega)⟩) ((HZ.out.under ((HG.out.trans Hgr.out).mono hB)).keep fun b h => ⟨h, Below.heap_alloc _ _ _ (by omega)⟩)
          (fun x hx => HV.out x (mem_varsAll.2 ⟨_, List.mem_of_getElem? ht, hx⟩))
        replace hIH : Calls Tryd.prog 12 #[.agg #[.int .i64 k1, .string n1, .int .i64 v1, .slice A1 us.length c1], .slice As zs.length cs] _ fun e w' => e = .returned (.int .i64 (fil sz (.mk k1 n1 v1 us))) ∧ _ := hIH
        have hst := filAll_step (sz := sz) ht m
        have hvl := fil_bd (sz := sz) (.mk k1 n1 v1 us) (fun x hx => (HV.out x (mem_varsAll.2 ⟨_, List.mem_of_getElem? ht, hx⟩)).2.2.2)
        generalize fil sz (.mk k1 n1 v1 us) = z at *
        obtain ⟨z1, z2⟩ := hvl
        have HST := Lib.hid hst; clear hst
        clear hA1
        have hgw : Below wr.heap.size wr (wr.alloc (.cells #[.int .i64 k1, .string n1, .int .i64 v1, .slice A1 us.length c1] 27)) := Below.alloc (Below.refl _ _) (Nat.le_refl _) _
        have HGW := Lib.hid hgw; clear hgw
        have HIH := Lib.hid hIH; clear hIH
        go_wp2_with fail
        refine HIH.out.mono ?_
        rintro e w2 ⟨rfl, hb2⟩
        have HB2 := Lib.hid hb2; clear hb2
        by_cases hmin : m + z ≤ 4097
        · go_wp2_with fail
          go_roundg (ts.length - (i + 1))
          case measure => omega
          case rel => exact ⟨i + 1, m + z, by omega, by go_num, rfl, by omega, by omega, Lib.hid (HFr.out.trans (HST.out.trans (by rw [show min (m + z) 4097 = m + z by omega]))), Lib.hid (Hgr.out.trans (HGW.out.trans (HB2.out.mono (by simp)) |>.mono hNr))⟩
        · go_wp2_with fail
          go_roundg (ts.length - (i + 1))
          case measure => omega
          case rel => exact ⟨i + 1, 4097, by omega, by go_num, rfl, by omega, by omega, Lib.hid (HFr.out.trans (HST.out.trans (by rw [show min (m + z) 4097 = 4097 by omega]))), Lib.hid (Hgr.out.trans (HGW.out.trans (HB2.out.mono (by simp)) |>.mono hNr))⟩
      · go_wp2_with fail
        go_ret
        exact ⟨ret_int (by rw [HF.out, HFr.out, filAll_end (by omega)]), by rw [← HN.out]; exact HG.out.trans Hgr.out⟩

/-- A row of numbers at a place, that may be written. -/
def RowAt (w : World) (b off : Nat) (xs : List Int) : Prop := ∀ j, j < xs.length → w.cell? ⟨b, off + j, none⟩ = some (.int .i64 (xs.getD j 0)) ∧ w.frozen? ⟨b, off + j, none⟩ = false
theorem RowAt.keep {w w1 : World} {b off : Nat} {xs : List Int} (hx : RowAt w b off xs) (h : w1.heap[b]? = w.heap[b]?) : RowAt w1 b off xs :=
  fun j hj => ⟨(World.cell?_of_block (a := ⟨b, off + j, none⟩) h).trans (hx j hj).1, (World.frozen?_of_block (a := ⟨b, off + j, none⟩) h).trans (hx j hj).2⟩
theorem RowAt.set {w : World} {b off : Nat} {xs : List Int} (hx : RowAt w b off xs) (i : Nat) (hi : i < xs.length) (x : Int) : RowAt (w.setCell ⟨b, off + i, none⟩ (.int .i64 x)) b off (xs.set i x) := by
  intro j hj
  rw [List.length_set] at hj
  refine ⟨?_, by rw [World.frozen?_setCell]; exact (hx j hj).2⟩
  by_cases hij : j = i
  · subst hij
    rw [World.cell?_setCell_same _ _ _ (hx j hj).1]
    simp [List.getD, hj]
  · rw [World.cell?_setCell_other _ _ _ _ (fun e => hij (Nat.add_left_cancel (congrArg Addr.off e)).symm), (hx j hj).1]
    simp [List.getD, show ¬ i = j from fun h => hij h.symm]

/-- What meter.size finds: the rows of the substitution, the numbers known so far. -/
structure Metered (S : List Ty) (sz : Int → Int) (As : Option Addr) (cs : Nat) (Ao : Nat) (offo co : Nat) (bm B : Nat) (w : World) (ofs : List Int) : Prop where
  len : ofs.length = S.length
  big : S.length ≤ 4096
  rows : ArgsAt w (· < B) As S
  c0 : w.cell? ⟨bm, 0, none⟩ = some (.slice As S.length cs)
  c1 : w.cell? ⟨bm, 1, none⟩ = some (.slice (some ⟨Ao, offo, none⟩) S.length co)
  row : RowAt w Ao offo ofs
  bB : B ≤ bm
  bo : B ≤ Ao
  ne : bm ≠ Ao
  hm : bm < w.heap.size
  ho : Ao < w.heap.size
  inv : ∀ j, j < ofs.length → ofs.getD j 0 = 0 ∨ (Good S j ∧ ofs.getD j 0 = sz j)
theorem Metered.keep {S : List Ty} {sz : Int → Int} {As : Option Addr} {cs Ao offo co bm B : Nat} {w w1 : World} {ofs : List Int} (h : Metered S sz As cs Ao offo co bm B w ofs) (hb : Below w.heap.size w w1) : Metered S sz As cs Ao offo co bm B w1 ofs :=
  ⟨h.len, h.big, h.rows.keep fun b hb' => ⟨hb', hb.block b (by have := h.bB; have := h.hm; omega)⟩, (hb.cell (p := ⟨bm, 0, none⟩) h.hm).trans h.c0, (hb.cell (p := ⟨bm, 1, none⟩) h.hm).trans h.c1, h.row.keep (hb.block _ h.ho), h.bB, h.bo, h.ne, by have := hb.size; have := h.hm; omega, by have := hb.size; have := h.ho; omega, h.inv⟩

def SizePost (S : List Ty) (sz : Int → Int) (As : Option Addr) (cs Ao offo co bm B : Nat) (w : World) (r : Int) (e : Ending) (w' : World) : Prop :=
  e = .returned (.int .i64 r) ∧ ∃ ofs', Metered S sz As cs Ao offo co bm B w' ofs' ∧ w.grownBy w' (some Ao)
def VarSays (S : List Ty) (sz : Int → Int) (v : Int) : Prop := ∀ (n : ByteArray) (A : Option Addr) (m c : Nat) (As : Option Addr) (cs Ao offo co bm B : Nat) (ofs : List Int) (w : World), Metered S sz As cs Ao offo co bm B w ofs →
    Calls Tryd.prog 84 #[.pointer (some ⟨bm, 0, none⟩), .agg #[.int .i64 0, .string n, .int .i64 v, .slice A m c]] w fun e w' => SizePost S sz As cs Ao offo co bm B w (sz v) e w'
def SizeSays (S : List Ty) (sz : Int → Int) (t : Ty) : Prop := ∀ (A : Option Addr) (c : Nat) (As : Option Addr) (cs Ao offo co bm B : Nat) (ofs : List Int) (w : World), Metered S sz As cs Ao offo co bm B w ofs → ArgsAt w (· < B) A t.args →
    Calls Tryd.prog 84 #[.pointer (some ⟨bm, 0, none⟩), .agg #[.int .i64 t.kind, .string t.name, .int .i64 t.var, .slice A t.args.length c]] w fun e w' => SizePost S sz As cs Ao offo co bm B w (fil sz t) e w'

set_option maxRecDepth 100000 in
set_option maxHeartbeats 4000000 in
theorem size_node (S : List Ty) (sz : Int → Int) : ∀ t, (∀ v ∈ vars t, VarSays S sz v ∧ 1 ≤ sz v ∧ sz v ≤ 4097) → SizeSays S sz t := by
  apply Ty.ind
  intro k n v ts ih hV A c As cs Ao offo co bm B ofs w hM hA
  show Calls Tryd.prog 84 #[.pointer (some ⟨bm, 0, none⟩), .agg #[.int .i64 k, .string n, .int .i64 v, .slice A ts.length c]] w fun e w' => SizePost S sz As cs Ao offo co bm B w (fil sz (.mk k n v ts)) e w'
  replace hA : ArgsAt w (· < B) A ts := hA
  have hm := hA.1
  by_cases hk : k = 0
  · rw [vars, if_pos hk] at hV
    rw [fil, if_pos hk, hk]
    exact (hV v (by simp)).1 n A ts.length c As cs Ao offo co bm B ofs w hM
  have hkb : (k == 0) = false := by rw [beq_eq_false_iff_ne]; exact hk
  have HF : Hid (fil sz (.mk k n v ts) = filAll sz (ts.drop 0) 1) := Lib.hid (by rw [fil, if_neg hk]; rfl)
  rw [vars, if_neg hk] at hV
  have HV := Lib.hid hV; clear hV
  have HI := Lib.hid ih; clear ih
  clear hk
  have HA := Lib.hid hA; clear hA
  have HM := Lib.hid hM; clear hM
  go_enter Tryd.func84, Tryd.ntmps84
  go_wp2_with fail
  obtain ⟨W, hW⟩ : ∃ W : World, W = w.alloc (.cells #[.int .i64 k, .string n, .int .i64 v, .slice A ts.length c] 27) := ⟨_, rfl⟩
  have hg : Below w.heap.size w W := by rw [hW]; exact Below.alloc (Below.refl _ _) (Nat.le_refl _) _
  have hgg : w.grownBy W (some Ao) := by rw [hW]; exact World.grownBy_alloc _ _ _
  rw [← hW]
  clear hW
  have HMW := Lib.hid (HM.out.keep hg)
  have HAW := Lib.hid (HA.out.keep (w1 := W) (D' := (· < B)) fun b hb => ⟨hb, hg.block b (by have := HM.out.bB; have := HM.out.hm; omega)⟩)
  have HGG := Lib.hid hgg; clear hgg
  clear HM HA hg
  go_loopg [6, 60] ts.length (fun g y x wr => ∃ i : Nat, ∃ m : Int, i + g = ts.length ∧ x = .int .i64 i ∧ y = .int .i64 m ∧ 1 ≤ m ∧ m ≤ 4097 ∧ Hid (filAll sz (ts.drop 0) 1 = filAll sz (ts.drop i) m) ∧ Hid (W.grownBy wr (some Ao)) ∧ Hid (∃ of', Metered S sz As cs Ao offo co bm B wr of'))
  case atStart => exact ⟨0, 1, by omega, rfl, rfl, by omega, by omega, Lib.hid rfl, Lib.hid (Gb.refl _ _), Lib.hid ⟨_, HMW.out⟩⟩
  case round =>
    obtain ⟨i, m, hig, rfl, rfl, hm1, hm2, HFr, Hgr, HMr⟩ := hrel
    by_cases hlt : i < ts.length
    · obtain ⟨of', hMr⟩ := HMr.out
      have hbm := hMr.hm
      have hbB := hMr.bB
      have hbo := hMr.bo
      rcases (HAW.out.keep (w1 := wr) (D' := (· < B)) fun b hb => ⟨hb, Hgr.out.block b (by have := HMW.out.bB; have := HMW.out.hm; omega) (by intro e; cases e; omega)⟩).elem with h | ⟨b', off', hAeq, hel⟩
      · exact absurd hlt (by omega)
      subst hAeq
      obtain ⟨k1, n1, v1, us, A1, c1, ht, hb1, e0, e1, e2, e3, hA1, _⟩ := hel i hlt
      clear hel
      have hgw : Below wr.heap.size wr (wr.alloc (.cells #[.int .i64 k1, .string n1, .int .i64 v1, .slice A1 us.length c1] 27)) := Below.alloc (Below.refl _ _) (Nat.le_refl _) _
      have hIH := HI.out _ (List.mem_of_getElem? ht) (fun x hx => HV.out x (mem_varsAll.2 ⟨_, List.mem_of_getElem? ht, hx⟩)) A1 c1 As cs Ao offo co bm B of' _ (hMr.keep hgw)
        (hA1.keep fun b h => ⟨h, Below.heap_alloc _ _ _ (by omega)⟩)
      replace hIH : Calls Tryd.prog 84 #[.pointer (some ⟨bm, 0, none⟩), .agg #[.int .i64 k1, .string n1, .int .i64 v1, .slice A1 us.length c1]] _ fun e w' => SizePost S sz As cs Ao offo co bm B _ (fil sz (.mk k1 n1 v1 us)) e w' := hIH
      have hst := filAll_step (sz := sz) ht m
      have hvl := fil_bd (sz := sz) (.mk k1 n1 v1 us) (fun x hx => (HV.out x (mem_varsAll.2 ⟨_, List.mem_of_getElem? ht, hx⟩)).2)
      generalize fil sz (.mk k1 n1 v1 us) = z at *
      obtain ⟨z1, z2⟩ := hvl
      have HST := Lib.hid hst; clear hst
      clear hA1 hgw HMr
      have hgw : wr.grownBy (wr.alloc (.cells #[.int .i64 k1, .string n1, .int .i64 v1, .slice A1 us.length c1] 27)) (some Ao) := World.grownBy_alloc _ _ _
      have HGW := Lib.hid hgw; clear hgw
      have HIH := Lib.hid hIH; clear hIH
      have HMr := Lib.hid hMr; clear hMr
      go_wp2_with fail
      refine HIH.out.mono ?_
      rintro e w2 ⟨rfl, of2, hM2, hb2⟩
      have HB2 := Lib.hid hb2; clear hb2
      have HM2 := Lib.hid hM2; clear hM2
      by_cases hmin : m + z ≤ 4097
      · go_wp2_with fail
        go_roundg (ts.length - (i + 1))
        case measure => omega
        case rel => exact ⟨i + 1, m + z, by omega, by go_num, rfl, by omega, by omega, Lib.hid (HFr.out.trans (HST.out.trans (by rw [show min (m + z) 4097 = m + z by omega]))), Lib.hid (Gb.trans Hgr.out (Gb.trans HGW.out HB2.out)), Lib.hid ⟨_, HM2.out⟩⟩
      · go_wp2_with fail
        go_roundg (ts.length - (i + 1))
        case measure => omega
        case rel => exact ⟨i + 1, 4097, by omega, by go_num, rfl, by omega, by omega, Lib.hid (HFr.out.trans (HST.out.trans (by rw [show min (m + z) 4097 = 4097 by omega]))), Lib.hid (Gb.trans Hgr.out (Gb.trans HGW.out HB2.out)), Lib.hid ⟨_, HM2.out⟩⟩
    · go_wp2_with fail
      go_ret
      obtain ⟨of', hMr⟩ := HMr.out
      exact ⟨ret_int (by rw [HF.out, HFr.out, filAll_end (by omega)]), of', hMr, Gb.trans HGG.out Hgr.out⟩
end Go.Proofs.YtoafghnieebimaaDoor
