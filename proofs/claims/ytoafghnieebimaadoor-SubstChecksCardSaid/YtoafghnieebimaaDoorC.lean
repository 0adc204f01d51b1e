/- The contract of checker.check: what it computes (chk), and which memory it changes. -/
import Derived.Test.YtoafghnieebimaaDoorT
import Derived.BigQuiet
import Derived.Deep.QuietTactic
import Derived.Deep.LoopGhost
namespace Go.Proofs.YtoafghnieebimaaDoor
open Go.RowKit
def Tab (w : World) : Prop := w.cell? ⟨0, 0, none⟩ = some (.int .i64 0) ∧ w.cell? ⟨0, 1, none⟩ = some (.int .i64 (-1)) ∧ w.cell? ⟨0, 2, none⟩ = some (.int .i64 3) ∧ w.cell? ⟨0, 3, none⟩ = some (.int .i64 1) ∧ w.cell? ⟨0, 4, none⟩ = some (.int .i64 0) ∧ w.cell? ⟨0, 5, none⟩ = some (.int .i64 2)
namespace Gb
theorem trans {a b c : World} {r : Option Nat} (h : a.grownBy b r) (k : b.grownBy c r) : a.grownBy c r :=
  ⟨k.os.trans h.os, k.tape.trans h.tape, k.output.trans h.output, Nat.le_trans h.size k.size, fun i hi hr => (k.block i (Nat.lt_of_lt_of_le hi h.size) hr).trans (h.block i hi hr)⟩
theorem refl (w : World) (r : Option Nat) : w.grownBy w r := ⟨rfl, rfl, rfl, Nat.le_refl _, fun _ _ _ => rfl⟩
theorem alloc {a b : World} {r : Option Nat} (h : a.grownBy b r) (o : Obj) : a.grownBy (b.alloc o) r := trans h (World.grownBy_alloc b o r)
theorem set {a b : World} {p : Nat} (h : a.grownBy b (some p)) (o : Nat) (v : Value) : a.grownBy (b.setCell ⟨p, o, none⟩ v) (some p) :=
  trans h ⟨rfl, rfl, rfl, by simp [World.setCell], fun k hk hr => Below.heap_setCell _ _ _ _ (by intro e; exact hr (by rw [e]))⟩
theorem drew {a b : World} {r : Option Nat} (h : a.grownBy b r) : a.grownBy b.drew r := ⟨h.os, h.tape, h.output, h.size, h.block⟩
theorem drewN {a b : World} {r : Option Nat} (h : a.grownBy b r) (n : Nat) : a.grownBy (b.drewN n) r := ⟨h.os, h.tape, h.output, h.size, h.block⟩
end Gb
def CheckPost (bc : Nat) (w : World) (r : Int × Int) (e : Ending) (w' : World) : Prop := e = .returned (.int .i64 r.2) ∧ w'.cell? ⟨bc, 0, none⟩ = some (.int .i64 r.1) ∧ w'.frozen? ⟨bc, 0, none⟩ = false ∧ w.grownBy w' (some bc)
theorem sa_cell {w : World} {bc : Nat} {u : Value} (hb : bc < w.heap.size) (hc : w.cell? ⟨bc, 0, none⟩ = some u) (v : Value) (o : Obj) : ((w.setCell ⟨bc, 0, none⟩ v).alloc o).cell? ⟨bc, 0, none⟩ = some v := by simp [go_sem, hb, hc]
theorem sa_frozen {w : World} {bc : Nat} (hb : bc < w.heap.size) (hf : w.frozen? ⟨bc, 0, none⟩ = false) (v : Value) (o : Obj) : ((w.setCell ⟨bc, 0, none⟩ v).alloc o).frozen? ⟨bc, 0, none⟩ = false := by simp [go_sem, hb, hf]


def CheckSays (t : Ty) : Prop := ∀ (A : Option Addr) (c : Nat) (row : Bool) (depth left : Int) (bc B : Nat) (w : World), 0 ≤ left → left ≤ 4096 → bc < w.heap.size → 0 < B → B ≤ bc → 0 ≤ depth → depth ≤ 401 →
    w.cell? ⟨bc, 0, none⟩ = some (.int .i64 left) → w.frozen? ⟨bc, 0, none⟩ = false → Tab w → ArgsAt w (· < B) A t.args →
    Calls Tryd.prog 49 #[.pointer (some ⟨bc, 0, none⟩), .agg #[.int .i64 t.kind, .string t.name, .int .i64 t.var, .slice A t.args.length c], .bool row, .int .i64 depth] w fun e w' => CheckPost bc w (chk t row depth left) e w'

theorem chk_bad {k v : Int} {n : ByteArray} {ts : List Ty} {row : Bool} {depth left e : Int} (h : headErr k n v ts.length row depth (left - 1) = e) (he : e ≠ 0) : chk (.mk k n v ts) row depth left = (left - 1, e) := by
  rw [chk, if_pos (by rw [h]; exact he), h]
theorem chk_ok {k v : Int} {n : ByteArray} {ts : List Ty} {row : Bool} {depth left : Int} (h : headErr k n v ts.length row depth (left - 1) = 0) : chk (.mk k n v ts) row depth left = chkAll k (ts.drop 0) 0 depth (left - 1) := by
  rw [chk, if_neg (by rw [h]; simp)]; rfl
theorem chkAll_end {k : Int} {ts : List Ty} {i : Nat} (h : ts.length ≤ i) (depth left : Int) : chkAll k (ts.drop i) i depth left = (left, 0) := by
  rw [List.drop_eq_nil_of_le h, chkAll]
theorem chkAll_step {k : Int} {ts : List Ty} {i : Nat} {t : Ty} (h : ts[i]? = some t) (depth left : Int) :
    chkAll k (ts.drop i) i depth left = if (chk t (rowed k i t.kind) (depth + 1) left).2 ≠ 0 then chk t (rowed k i t.kind) (depth + 1) left else chkAll k (ts.drop (i + 1)) (i + 1) depth (chk t (rowed k i t.kind) (depth + 1) left).1 := by
  obtain ⟨hi, rfl⟩ := List.getElem?_eq_some_iff.1 h
  rw [List.drop_eq_getElem_cons hi, chkAll]
mutual
theorem chk_left : ∀ (t : Ty) (row : Bool) (depth left : Int), (chk t row depth left).1 ≤ left ∧ ((chk t row depth left).2 = 0 → 0 ≤ (chk t row depth left).1)
  | .mk k n v ts, row, depth, left => by
    rw [chk]
    split
    · rename_i h; exact ⟨by simp; omega, fun h' => absurd h' h⟩
    · rename_i h
      have h0 : 0 ≤ left - 1 := by
        have h' := Decidable.not_not.1 h
        unfold headErr at h'
        split at h'
        · cases h'
        · omega
      have := chkAll_left k ts 0 depth (left - 1) h0
      exact ⟨by omega, this.2⟩
theorem chkAll_left (k : Int) : ∀ (ts : List Ty) (i : Nat) (depth left : Int), 0 ≤ left → (chkAll k ts i depth left).1 ≤ left ∧ ((chkAll k ts i depth left).2 = 0 → 0 ≤ (chkAll k ts i depth left).1)
  | [], i, depth, left, h => by simp [chkAll, h]
  | t :: ts, i, depth, left, h => by
    have h1 := chk_left t (rowed k i t.kind) (depth + 1) left
    rw [chkAll]
    split
    · exact h1
    · rename_i he
      have h2 := chkAll_left k ts (i + 1) depth _ (h1.2 (Decidable.not_not.1 he))
      exact ⟨by omega, h2.2⟩
end
theorem keepBelow {w w1 : World} {bc B : Nat} (h : w.grownBy w1 (some bc)) (hB : B ≤ bc) (hb : bc < w.heap.size) {A : Option Addr} {ts : List Ty} (hx : ArgsAt w (· < B) A ts) : ArgsAt w1 (· < B) A ts :=
  hx.keep fun b hb' => ⟨hb', h.block b (by omega) (by intro e; cases e; omega)⟩
theorem Tab.keep {w w1 : World} (h : w1.heap[0]? = w.heap[0]?) (hx : Tab w) : Tab w1 := by
  have hc : ∀ o, w1.cell? ⟨0, o, none⟩ = w.cell? ⟨0, o, none⟩ := fun o => World.cell?_of_block h
  obtain ⟨t0, t1, t2, t3, t4, t5⟩ := hx
  exact ⟨(hc _).trans t0, (hc _).trans t1, (hc _).trans t2, (hc _).trans t3, (hc _).trans t4, (hc _).trans t5⟩
theorem gcell {w w1 : World} {r : Option Nat} (h : w.grownBy w1 r) {b : Nat} (hb : b < w.heap.size) (hr : some b ≠ r) (o : Nat) : w1.cell? ⟨b, o, none⟩ = w.cell? ⟨b, o, none⟩ := World.cell?_of_block (h.block b hb hr)
theorem gfrozen {w w1 : World} {r : Option Nat} (h : w.grownBy w1 r) {b : Nat} (hb : b < w.heap.size) (hr : some b ≠ r) (o : Nat) : w1.frozen? ⟨b, o, none⟩ = w.frozen? ⟨b, o, none⟩ := World.frozen?_of_block (h.block b hb hr)

set_option maxRecDepth 100000 in
set_option maxHeartbeats 8000000 in
theorem check_says : ∀ t, CheckSays t := by
  apply Ty.ind
  intro k n v ts ih A c row depth left bc B w hl0 hl1 hb hB0 hB hd0 hd1 hc hf hT hA
  show Calls Tryd.prog 49 #[.pointer (some ⟨bc, 0, none⟩), .agg #[.int .i64 k, .string n, .int .i64 v, .slice A ts.length c], .bool row, .int .i64 depth] w fun e w' => CheckPost bc w (chk (.mk k n v ts) row depth left) e w'
  replace hA : ArgsAt w (· < B) A ts := hA
  have hm := hA.1
  by_cases h0 : left = 0
  · rw [chk_bad (e := 2) (by unfold headErr; rw [if_pos (by omega)]) (by decide)]
    subst h0
    clear ih hA hT
    go_enter Tryd.func49, Tryd.ntmps49
    go_wp2_with fail
    go_ret
    exact ⟨rfl, sa_cell hb hc _ _, sa_frozen hb hf _ _, Gb.alloc (Gb.set (Gb.refl _ _) _ _) _⟩
  have h0' : 1 ≤ left := by omega
  have hlt : decide (left - 1 < 0) = false := by simp; omega
  by_cases h1 : 400 < depth
  · rw [chk_bad (e := 2) (by unfold headErr; rw [if_pos (by omega)]) (by decide)]
    clear ih hA hT
    go_enter Tryd.func49, Tryd.ntmps49
    go_wp2_with fail
    go_ret
    exact ⟨rfl, sa_cell hb hc _ _, sa_frozen hb hf _ _, Gb.alloc (Gb.set (Gb.refl _ _) _ _) _⟩
  have hE0 : headErr k n v ts.length row depth (left - 1) = if k < 0 ∨ 5 < k then 9 else if (0 ≤ arity k ∧ (ts.length : Int) ≠ arity k) ∨ (k ≠ 0 ∧ v ≠ 0) ∨ (k ≠ 1 ∧ k ≠ 5 ∧ n.toList.isEmpty = false) then 3 else if k ≠ 0 ∧ row ≠ decide (4 ≤ k) then 9 else if k = 0 ∧ (v < 0 ∨ 4096 ≤ v) then 4 else 0 := by
    unfold headErr; rw [if_neg (by omega)]
  by_cases h2 : k < 0
  · rw [chk_bad (e := 9) (by rw [hE0, if_pos (by omega)]) (by decide)]
    clear ih hA hT hE0
    go_enter Tryd.func49, Tryd.ntmps49
    go_wp2_with fail
    go_ret
    exact ⟨rfl, sa_cell hb hc _ _, sa_frozen hb hf _ _, Gb.alloc (Gb.set (Gb.refl _ _) _ _) _⟩
  by_cases h3 : 5 < k
  · rw [chk_bad (e := 9) (by rw [hE0, if_pos (by omega)]) (by decide)]
    clear ih hA hT hE0
    go_enter Tryd.func49, Tryd.ntmps49
    go_wp2_with fail
    go_ret
    exact ⟨rfl, sa_cell hb hc _ _, sa_frozen hb hf _ _, Gb.alloc (Gb.set (Gb.refl _ _) _ _) _⟩
  rw [if_neg (by omega)] at hE0
  have HE := Lib.hid hE0; clear hE0
  have HI := Lib.hid ih; clear ih
  have HA := Lib.hid hA; clear hA
  have HT := Lib.hid hT; clear hT
  have hm' : (ts.length : Int) ≤ 9223372036854775807 := by omega
  go_enter Tryd.func49, Tryd.ntmps49
  go_wp2_with fail
  obtain ⟨W, hW⟩ : ∃ W : World, W = (w.setCell ⟨bc, 0, none⟩ (.int .i64 (left - 1))).alloc (.cells #[.int .i64 k, .string n, .int .i64 v, .slice A ts.length c] 27) := ⟨_, rfl⟩
  have hg : w.grownBy W (some bc) := by rw [hW]; exact Gb.alloc (Gb.set (Gb.refl _ _) _ _) _
  have hc1 : W.cell? ⟨bc, 0, none⟩ = some (.int .i64 (left - 1)) := by rw [hW]; exact sa_cell hb hc _ _
  have hf1 : W.frozen? ⟨bc, 0, none⟩ = false := by rw [hW]; exact sa_frozen hb hf _ _
  have d0 : W.cell? ⟨w.heap.size, 0, none⟩ = some (.int .i64 k) := by rw [hW]; simp [go_sem, World.setCell]
  have d1 : W.cell? ⟨w.heap.size, 1, none⟩ = some (.string n) := by rw [hW]; simp [go_sem, World.setCell]
  have d2 : W.cell? ⟨w.heap.size, 2, none⟩ = some (.int .i64 v) := by rw [hW]; simp [go_sem, World.setCell]
  have d3 : W.cell? ⟨w.heap.size, 3, none⟩ = some (.slice A ts.length c) := by rw [hW]; simp [go_sem, World.setCell]
  have hz : w.heap.size < W.heap.size := by rw [hW]; simp [World.setCell]
  rw [← hW]
  clear hc hf hW
  have HT1 := Lib.hid (Tab.keep (hg.block 0 (by omega) (by intro e; cases e; omega)) HT.out)
  have HA1 := Lib.hid (keepBelow hg hB hb HA.out)
  have HG := Lib.hid hg; clear hg HA HT
  obtain ⟨N, hN⟩ : ∃ N, N = w.heap.size := ⟨_, rfl⟩
  rw [← hN] at hz d0 d1 d2 d3 hb ⊢
  have HN := Lib.hid hN; clear hN
  obtain rfl | rfl | rfl | rfl | rfl | rfl : k = 0 ∨ k = 1 ∨ k = 2 ∨ k = 3 ∨ k = 4 ∨ k = 5 := by omega
  · obtain ⟨t0, t1, t2, t3, t4, t5⟩ := HT1.out
    clear t1 t2 t3 t4 t5
    by_cases hmm : (ts.length : Int) ≠ 0
    · have hmb : ((ts.length : Int) != 0) = true := by rw [bne_iff_ne]; exact hmm
      go_quiet (fail)
      go_wp2_with fail
      go_ret
      rw [chk_bad (e := 3) (by rw [HE.out, if_pos (.inl ⟨by decide, hmm⟩)]) (by decide)]
      exact ⟨rfl, hc1, hf1, Gb.drewN HG.out _⟩
    have hmb : ((ts.length : Int) != 0) = false := by rw [Decidable.not_not.1 hmm]; rfl
    have HM := Lib.hid hmm; clear hmm
    by_cases hn : n.toList.isEmpty = false
    · have HN0 := Lib.hid hn
      go_quiet (fail)
      go_wp2_with fail
      go_ret
      rw [chk_bad (e := 3) (by rw [HE.out, if_pos (.inr (.inr ⟨by decide, by decide, HN0.out⟩))]) (by decide)]
      exact ⟨rfl, hc1, hf1, Gb.drewN HG.out _⟩
    have hnb : n.toList.isEmpty = true := by simpa using hn
    have HN0 := Lib.hid hn; clear hn
    have H3 : ¬ ((0 ≤ arity 0 ∧ (ts.length : Int) ≠ arity 0) ∨ ((0 : Int) ≠ 0 ∧ v ≠ 0) ∨ ((0 : Int) ≠ 1 ∧ (0 : Int) ≠ 5 ∧ n.toList.isEmpty = false)) := not_or.2 ⟨(fun h => HM.out h.2), not_or.2 ⟨(fun h => absurd h.1 (by decide)), (fun h => HN0.out h.2.2)⟩⟩
    have HE3 := Lib.hid (HE.out.trans (if_neg H3)); clear HE H3
    by_cases hv : v < 0
    · go_quiet (fail)
      go_wp2_with fail
      go_ret
      rw [chk_bad (e := 4) (HE3.out.trans ((if_neg (fun h => absurd rfl h.1)).trans (if_pos ⟨by trivial, .inl hv⟩))) (by decide)]
      exact ⟨rfl, hc1, hf1, Gb.drewN HG.out _⟩
    by_cases hv2 : 4096 ≤ v
    · go_quiet (fail)
      go_wp2_with fail
      go_ret
      rw [chk_bad (e := 4) (HE3.out.trans ((if_neg (fun h => absurd rfl h.1)).trans (if_pos ⟨by trivial, .inr hv2⟩))) (by decide)]
      exact ⟨rfl, hc1, hf1, Gb.drewN HG.out _⟩
    have HZ := Lib.hid (HE3.out.trans ((if_neg (fun h => absurd rfl h.1)).trans (if_neg (by omega)))); clear HE3
    go_quiet (fail)
    go_wp2_with fail
    have hzq : N < (W.drewN nq).heap.size := hz
    have hcq : (W.drewN nq).cell? ⟨bc, 0, none⟩ = some (.int .i64 (left - 1)) := hc1
    have hfq : (W.drewN nq).frozen? ⟨bc, 0, none⟩ = false := hf1
    have hdq : (W.drewN nq).cell? ⟨N, 0, none⟩ = some (.int .i64 0) := d0
    have HAq : Hid (ArgsAt (W.drewN nq) (· < B) A ts) := Lib.hid (ArgsAt.keep (w := W) (w1 := W.drewN nq) (fun b h => ⟨h, rfl⟩) HA1.out)
    have HTq : Hid (Tab (W.drewN nq)) := Lib.hid (Tab.keep rfl HT1.out)
    have HGq : Hid (w.grownBy (W.drewN nq) (some bc)) := Lib.hid (Gb.drewN HG.out _)
    have HR := Lib.hid (chk_ok HZ.out)
    clear HA1 HT1 HG HZ d0 d1 d2 d3 hc1 hf1 hz t0
    generalize W.drewN nq = Wq at *
    go_loopg [104] ts.length (fun g x wr => ∃ i : Nat, ∃ li : Int, i + g = ts.length ∧ x = .int .i64 i ∧ 0 ≤ li ∧ li ≤ 4096 ∧ Hid (chkAll 0 (ts.drop 0) 0 depth (left - 1) = chkAll 0 (ts.drop i) i depth li) ∧ wr.cell? ⟨bc, 0, none⟩ = some (.int .i64 li) ∧ wr.frozen? ⟨bc, 0, none⟩ = false ∧ Hid (Wq.grownBy wr (some bc)))
    case atStart => exact ⟨0, left - 1, by omega, rfl, by omega, by omega, Lib.hid rfl, hcq, hfq, Lib.hid (Gb.refl _ _)⟩
    case round =>
      obtain ⟨i, li, hig, rfl, hli0, hli1, HCk, hcr, hfr, Hgr⟩ := hrel
      clear hcq hfq
      have hdr : wr.cell? ⟨N, 0, none⟩ = some (.int .i64 0) := (gcell Hgr.out hzq (by intro e; cases e; omega) 0).trans hdq
      by_cases hlt : i < ts.length
      · rcases (keepBelow Hgr.out hB (by omega) HAq.out).elem with h | ⟨b', off', hAeq, hel⟩
        · exact absurd hlt (by omega)
        subst hAeq
        obtain ⟨k1, n1, v1, us, A1, c1, ht, hb1, e0, e1, e2, e3, hA1, _⟩ := hel i hlt
        clear hel
        have hsz : wr.heap.size ≥ Wq.heap.size := Hgr.out.size
        have hNr : N < wr.heap.size := by omega
        have hIH := HI.out _ (List.mem_of_getElem? ht) A1 c1 (rowed 0 i k1) (depth + 1) li bc B (wr.alloc (.cells #[.int .i64 k1, .string n1, .int .i64 v1, .slice A1 us.length c1] 27)) hli0 hli1
          (by simp; omega) hB0 hB (by omega) (by omega) ((World.cell?_alloc_past _ _ _ (by omega)).trans hcr) ((World.frozen?_alloc_past _ _ _ (by omega)).trans hfr)
          (Tab.keep (by rw [Below.heap_alloc _ _ _ (by omega), Hgr.out.block 0 (by omega) (by intro e; cases e; omega)]) HTq.out)
          (hA1.keep fun b h => ⟨h, Below.heap_alloc _ _ _ (by omega)⟩)
        replace hIH : Calls Tryd.prog 49 #[.pointer (some ⟨bc, 0, none⟩), .agg #[.int .i64 k1, .string n1, .int .i64 v1, .slice A1 us.length c1], .bool (rowed 0 i k1), .int .i64 (depth + 1)] _ _ := hIH
        have hst := chkAll_step (k := 0) ht depth li
        have hle := chk_left (.mk k1 n1 v1 us) (rowed 0 i k1) (depth + 1) li
        replace hst : _ = if (chk (.mk k1 n1 v1 us) (rowed 0 i k1) (depth + 1) li).2 ≠ 0 then _ else _ := hst
        rw [show rowed 0 i (Ty.kind (.mk k1 n1 v1 us)) = rowed 0 i k1 from rfl] at hst
        generalize chk (.mk k1 n1 v1 us) (rowed 0 i k1) (depth + 1) li = r at *
        have HST := Lib.hid hst; clear hst
        have HLE := Lib.hid hle; clear hle
        clear hA1
        have hgw : wr.grownBy (wr.alloc (.cells #[.int .i64 k1, .string n1, .int .i64 v1, .slice A1 us.length c1] 27)) (some bc) := World.grownBy_alloc _ _ _
        have HGW := Lib.hid hgw; clear hgw
        have HIH := Lib.hid hIH; clear hIH
        rw [show rowed 0 i k1 = false from by simp [rowed]] at HIH
        by_cases hr : r.2 = 0
        · have hrb : (r.2 != 0) = false := by rw [hr]; rfl
          have HRR := Lib.hid hr; clear hr
          go_wp2_with fail
          refine HIH.out.mono ?_
          rintro e w2 ⟨rfl, hc2, hf2, hg2⟩
          have Hg2 := Lib.hid hg2; clear hg2
          go_wp2_with fail
          go_roundg (ts.length - (i + 1))
          case measure => omega
          case rel => exact ⟨i + 1, r.1, by omega, by go_num, (HLE.out.2 HRR.out), by have := HLE.out.1; omega, Lib.hid (HCk.out.trans (HST.out.trans (if_neg (fun h => h HRR.out)))), hc2, hf2, Lib.hid (Gb.trans Hgr.out (Gb.trans HGW.out Hg2.out))⟩
        · have hrb : (r.2 != 0) = true := by rw [bne_iff_ne]; exact hr
          have HRR := Lib.hid hr; clear hr
          go_wp2_with fail
          refine HIH.out.mono ?_
          rintro e w2 ⟨rfl, hc2, hf2, hg2⟩
          have Hg2 := Lib.hid hg2; clear hg2
          go_wp2_with fail
          go_ret
          rw [HR.out, HCk.out, HST.out, if_pos HRR.out]
          exact ⟨rfl, hc2, hf2, Gb.trans HGq.out (Gb.trans Hgr.out (Gb.trans HGW.out Hg2.out))⟩
      · have hie : i = ts.length := by omega
        go_wp2_with fail
        go_ret
        rw [HR.out, HCk.out, chkAll_end (by omega)]
        exact ⟨rfl, hcr, hfr, Gb.trans HGq.out Hgr.out⟩
  · obtain ⟨t0, t1, t2, t3, t4, t5⟩ := HT1.out
    clear t0 t2 t3 t4 t5
    by_cases hv : v ≠ 0
    · have hvb : (v != 0) = true := by rw [bne_iff_ne]; exact hv
      go_quiet (fail)
      go_wp2_with fail
      go_ret
      rw [chk_bad (e := 3) (by rw [HE.out, if_pos (.inr (.inl ⟨by decide, hv⟩))]) (by decide)]
      exact ⟨rfl, hc1, hf1, Gb.drewN HG.out _⟩
    have hvb : (v != 0) = false := by rw [Decidable.not_not.1 hv]; rfl
    have HV := Lib.hid hv; clear hv
    have H3 : ¬ ((0 ≤ arity 1 ∧ (ts.length : Int) ≠ arity 1) ∨ ((1 : Int) ≠ 0 ∧ v ≠ 0) ∨ ((1 : Int) ≠ 1 ∧ (1 : Int) ≠ 5 ∧ n.toList.isEmpty = false)) := not_or.2 ⟨(fun h => absurd h.1 (by decide)), not_or.2 ⟨(fun h => HV.out h.2), (fun h => absurd rfl (h.1))⟩⟩
    have HE3 := Lib.hid (HE.out.trans (if_neg H3)); clear HE H3
    by_cases hr : row = true
    · subst hr
      go_quiet (fail)
      go_wp2_with fail
      go_ret
      rw [chk_bad (e := 9) (HE3.out.trans (if_pos ⟨by decide, by decide⟩)) (by decide)]
      exact ⟨rfl, hc1, hf1, Gb.drewN HG.out _⟩
    obtain rfl : row = false := by simpa using hr
    clear hr
    have HZ := Lib.hid (HE3.out.trans ((if_neg (fun h => absurd h.2 (by decide))).trans (if_neg (fun h => absurd h.1 (by decide))))); clear HE3
    go_quiet (fail)
    go_wp2_with fail
    have hzq : N < (W.drewN nq).heap.size := hz
    have hcq : (W.drewN nq).cell? ⟨bc, 0, none⟩ = some (.int .i64 (left - 1)) := hc1
    have hfq : (W.drewN nq).frozen? ⟨bc, 0, none⟩ = false := hf1
    have hdq : (W.drewN nq).cell? ⟨N, 0, none⟩ = some (.int .i64 1) := d0
    have HAq : Hid (ArgsAt (W.drewN nq) (· < B) A ts) := Lib.hid (ArgsAt.keep (w := W) (w1 := W.drewN nq) (fun b h => ⟨h, rfl⟩) HA1.out)
    have HTq : Hid (Tab (W.drewN nq)) := Lib.hid (Tab.keep rfl HT1.out)
    have HGq : Hid (w.grownBy (W.drewN nq) (some bc)) := Lib.hid (Gb.drewN HG.out _)
    have HR := Lib.hid (chk_ok HZ.out)
    clear HA1 HT1 HG HZ d0 d1 d2 d3 hc1 hf1 hz t1
    generalize W.drewN nq = Wq at *
    go_loopg [104] ts.length (fun g x wr => ∃ i : Nat, ∃ li : Int, i + g = ts.length ∧ x = .int .i64 i ∧ 0 ≤ li ∧ li ≤ 4096 ∧ Hid (chkAll 1 (ts.drop 0) 0 depth (left - 1) = chkAll 1 (ts.drop i) i depth li) ∧ wr.cell? ⟨bc, 0, none⟩ = some (.int .i64 li) ∧ wr.frozen? ⟨bc, 0, none⟩ = false ∧ Hid (Wq.grownBy wr (some bc)))
    case atStart => exact ⟨0, left - 1, by omega, rfl, by omega, by omega, Lib.hid rfl, hcq, hfq, Lib.hid (Gb.refl _ _)⟩
    case round =>
      obtain ⟨i, li, hig, rfl, hli0, hli1, HCk, hcr, hfr, Hgr⟩ := hrel
      clear hcq hfq
      have hdr : wr.cell? ⟨N, 0, none⟩ = some (.int .i64 1) := (gcell Hgr.out hzq (by intro e; cases e; omega) 0).trans hdq
      by_cases hlt : i < ts.length
      · rcases (keepBelow Hgr.out hB (by omega) HAq.out).elem with h | ⟨b', off', hAeq, hel⟩
        · exact absurd hlt (by omega)
        subst hAeq
        obtain ⟨k1, n1, v1, us, A1, c1, ht, hb1, e0, e1, e2, e3, hA1, _⟩ := hel i hlt
        clear hel
        have hsz : wr.heap.size ≥ Wq.heap.size := Hgr.out.size
        have hNr : N < wr.heap.size := by omega
        have hIH := HI.out _ (List.mem_of_getElem? ht) A1 c1 (rowed 1 i k1) (depth + 1) li bc B (wr.alloc (.cells #[.int .i64 k1, .string n1, .int .i64 v1, .slice A1 us.length c1] 27)) hli0 hli1
          (by simp; omega) hB0 hB (by omega) (by omega) ((World.cell?_alloc_past _ _ _ (by omega)).trans hcr) ((World.frozen?_alloc_past _ _ _ (by omega)).trans hfr)
          (Tab.keep (by rw [Below.heap_alloc _ _ _ (by omega), Hgr.out.block 0 (by omega) (by intro e; cases e; omega)]) HTq.out)
          (hA1.keep fun b h => ⟨h, Below.heap_alloc _ _ _ (by omega)⟩)
        replace hIH : Calls Tryd.prog 49 #[.pointer (some ⟨bc, 0, none⟩), .agg #[.int .i64 k1, .string n1, .int .i64 v1, .slice A1 us.length c1], .bool (rowed 1 i k1), .int .i64 (depth + 1)] _ _ := hIH
        have hst := chkAll_step (k := 1) ht depth li
        have hle := chk_left (.mk k1 n1 v1 us) (rowed 1 i k1) (depth + 1) li
        replace hst : _ = if (chk (.mk k1 n1 v1 us) (rowed 1 i k1) (depth + 1) li).2 ≠ 0 then _ else _ := hst
        rw [show rowed 1 i (Ty.kind (.mk k1 n1 v1 us)) = rowed 1 i k1 from rfl] at hst
        generalize chk (.mk k1 n1 v1 us) (rowed 1 i k1) (depth + 1) li = r at *
        have HST := Lib.hid hst; clear hst
        have HLE := Lib.hid hle; clear hle
        clear hA1
        have hgw : wr.grownBy (wr.alloc (.cells #[.int .i64 k1, .string n1, .int .i64 v1, .slice A1 us.length c1] 27)) (some bc) := World.grownBy_alloc _ _ _
        have HGW := Lib.hid hgw; clear hgw
        have HIH := Lib.hid hIH; clear hIH
        rw [show rowed 1 i k1 = decide (4 ≤ k1) from rfl] at HIH
        by_cases hr : r.2 = 0
        · have hrb : (r.2 != 0) = false := by rw [hr]; rfl
          have HRR := Lib.hid hr; clear hr
          go_wp2_with fail
          refine HIH.out.mono ?_
          rintro e w2 ⟨rfl, hc2, hf2, hg2⟩
          have Hg2 := Lib.hid hg2; clear hg2
          go_wp2_with fail
          go_roundg (ts.length - (i + 1))
          case measure => omega
          case rel => exact ⟨i + 1, r.1, by omega, by go_num, (HLE.out.2 HRR.out), by have := HLE.out.1; omega, Lib.hid (HCk.out.trans (HST.out.trans (if_neg (fun h => h HRR.out)))), hc2, hf2, Lib.hid (Gb.trans Hgr.out (Gb.trans HGW.out Hg2.out))⟩
        · have hrb : (r.2 != 0) = true := by rw [bne_iff_ne]; exact hr
          have HRR := Lib.hid hr; clear hr
          go_wp2_with fail
          refine HIH.out.mono ?_
          rintro e w2 ⟨rfl, hc2, hf2, hg2⟩
          have Hg2 := Lib.hid hg2; clear hg2
          go_wp2_with fail
          go_ret
          rw [HR.out, HCk.out, HST.out, if_pos HRR.out]
          exact ⟨rfl, hc2, hf2, Gb.trans HGq.out (Gb.trans Hgr.out (Gb.trans HGW.out Hg2.out))⟩
      · have hie : i = ts.length := by omega
        go_wp2_with fail
        go_ret
        rw [HR.out, HCk.out, chkAll_end (by omega)]
        exact ⟨rfl, hcr, hfr, Gb.trans HGq.out Hgr.out⟩
  · obtain ⟨t0, t1, t2, t3, t4, t5⟩ := HT1.out
    clear t0 t1 t3 t4 t5
    by_cases hmm : (ts.length : Int) ≠ 3
    · have hmb : ((ts.length : Int) != 3) = true := by rw [bne_iff_ne]; exact hmm
      go_quiet (fail)
      go_wp2_with fail
      go_ret
      rw [chk_bad (e := 3) (by rw [HE.out, if_pos (.inl ⟨by decide, hmm⟩)]) (by decide)]
      exact ⟨rfl, hc1, hf1, Gb.drewN HG.out _⟩
    have hmb : ((ts.length : Int) != 3) = false := by rw [Decidable.not_not.1 hmm]; rfl
    have HM := Lib.hid hmm; clear hmm
    by_cases hv : v ≠ 0
    · have hvb : (v != 0) = true := by rw [bne_iff_ne]; exact hv
      go_quiet (fail)
      go_wp2_with fail
      go_ret
      rw [chk_bad (e := 3) (by rw [HE.out, if_pos (.inr (.inl ⟨by decide, hv⟩))]) (by decide)]
      exact ⟨rfl, hc1, hf1, Gb.drewN HG.out _⟩
    have hvb : (v != 0) = false := by rw [Decidable.not_not.1 hv]; rfl
    have HV := Lib.hid hv; clear hv
    by_cases hn : n.toList.isEmpty = false
    · have HN0 := Lib.hid hn
      go_quiet (fail)
      go_wp2_with fail
      go_ret
      rw [chk_bad (e := 3) (by rw [HE.out, if_pos (.inr (.inr ⟨by decide, by decide, HN0.out⟩))]) (by decide)]
      exact ⟨rfl, hc1, hf1, Gb.drewN HG.out _⟩
    have hnb : n.toList.isEmpty = true := by simpa using hn
    have HN0 := Lib.hid hn; clear hn
    have H3 : ¬ ((0 ≤ arity 2 ∧ (ts.length : Int) ≠ arity 2) ∨ ((2 : Int) ≠ 0 ∧ v ≠ 0) ∨ ((2 : Int) ≠ 1 ∧ (2 : Int) ≠ 5 ∧ n.toList.isEmpty = false)) := not_or.2 ⟨(fun h => HM.out h.2), not_or.2 ⟨(fun h => HV.out h.2), (fun h => HN0.out h.2.2)⟩⟩
    have HE3 := Lib.hid (HE.out.trans (if_neg H3)); clear HE H3
    by_cases hr : row = true
    · subst hr
      go_quiet (fail)
      go_wp2_with fail
      go_ret
      rw [chk_bad (e := 9) (HE3.out.trans (if_pos ⟨by decide, by decide⟩)) (by decide)]
      exact ⟨rfl, hc1, hf1, Gb.drewN HG.out _⟩
    obtain rfl : row = false := by simpa using hr
    clear hr
    have HZ := Lib.hid (HE3.out.trans ((if_neg (fun h => absurd h.2 (by decide))).trans (if_neg (fun h => absurd h.1 (by decide))))); clear HE3
    go_quiet (fail)
    go_wp2_with fail
    have hzq : N < (W.drewN nq).heap.size := hz
    have hcq : (W.drewN nq).cell? ⟨bc, 0, none⟩ = some (.int .i64 (left - 1)) := hc1
    have hfq : (W.drewN nq).frozen? ⟨bc, 0, none⟩ = false := hf1
    have hdq : (W.drewN nq).cell? ⟨N, 0, none⟩ = some (.int .i64 2) := d0
    have HAq : Hid (ArgsAt (W.drewN nq) (· < B) A ts) := Lib.hid (ArgsAt.keep (w := W) (w1 := W.drewN nq) (fun b h => ⟨h, rfl⟩) HA1.out)
    have HTq : Hid (Tab (W.drewN nq)) := Lib.hid (Tab.keep rfl HT1.out)
    have HGq : Hid (w.grownBy (W.drewN nq) (some bc)) := Lib.hid (Gb.drewN HG.out _)
    have HR := Lib.hid (chk_ok HZ.out)
    clear HA1 HT1 HG HZ d0 d1 d2 d3 hc1 hf1 hz t2
    generalize W.drewN nq = Wq at *
    go_loopg [104] ts.length (fun g x wr => ∃ i : Nat, ∃ li : Int, i + g = ts.length ∧ x = .int .i64 i ∧ 0 ≤ li ∧ li ≤ 4096 ∧ Hid (chkAll 2 (ts.drop 0) 0 depth (left - 1) = chkAll 2 (ts.drop i) i depth li) ∧ wr.cell? ⟨bc, 0, none⟩ = some (.int .i64 li) ∧ wr.frozen? ⟨bc, 0, none⟩ = false ∧ Hid (Wq.grownBy wr (some bc)))
    case atStart => exact ⟨0, left - 1, by omega, rfl, by omega, by omega, Lib.hid rfl, hcq, hfq, Lib.hid (Gb.refl _ _)⟩
    case round =>
      obtain ⟨i, li, hig, rfl, hli0, hli1, HCk, hcr, hfr, Hgr⟩ := hrel
      clear hcq hfq
      have hdr : wr.cell? ⟨N, 0, none⟩ = some (.int .i64 2) := (gcell Hgr.out hzq (by intro e; cases e; omega) 0).trans hdq
      by_cases hlt : i < ts.length
      · rcases (keepBelow Hgr.out hB (by omega) HAq.out).elem with h | ⟨b', off', hAeq, hel⟩
        · exact absurd hlt (by omega)
        subst hAeq
        obtain ⟨k1, n1, v1, us, A1, c1, ht, hb1, e0, e1, e2, e3, hA1, _⟩ := hel i hlt
        clear hel
        have hsz : wr.heap.size ≥ Wq.heap.size := Hgr.out.size
        have hNr : N < wr.heap.size := by omega
        have hIH := HI.out _ (List.mem_of_getElem? ht) A1 c1 (rowed 2 i k1) (depth + 1) li bc B (wr.alloc (.cells #[.int .i64 k1, .string n1, .int .i64 v1, .slice A1 us.length c1] 27)) hli0 hli1
          (by simp; omega) hB0 hB (by omega) (by omega) ((World.cell?_alloc_past _ _ _ (by omega)).trans hcr) ((World.frozen?_alloc_past _ _ _ (by omega)).trans hfr)
          (Tab.keep (by rw [Below.heap_alloc _ _ _ (by omega), Hgr.out.block 0 (by omega) (by intro e; cases e; omega)]) HTq.out)
          (hA1.keep fun b h => ⟨h, Below.heap_alloc _ _ _ (by omega)⟩)
        replace hIH : Calls Tryd.prog 49 #[.pointer (some ⟨bc, 0, none⟩), .agg #[.int .i64 k1, .string n1, .int .i64 v1, .slice A1 us.length c1], .bool (rowed 2 i k1), .int .i64 (depth + 1)] _ _ := hIH
        have hst := chkAll_step (k := 2) ht depth li
        have hle := chk_left (.mk k1 n1 v1 us) (rowed 2 i k1) (depth + 1) li
        replace hst : _ = if (chk (.mk k1 n1 v1 us) (rowed 2 i k1) (depth + 1) li).2 ≠ 0 then _ else _ := hst
        rw [show rowed 2 i (Ty.kind (.mk k1 n1 v1 us)) = rowed 2 i k1 from rfl] at hst
        generalize chk (.mk k1 n1 v1 us) (rowed 2 i k1) (depth + 1) li = r at *
        have HST := Lib.hid hst; clear hst
        have HLE := Lib.hid hle; clear hle
        clear hA1
        have hgw : wr.grownBy (wr.alloc (.cells #[.int .i64 k1, .string n1, .int .i64 v1, .slice A1 us.length c1] 27)) (some bc) := World.grownBy_alloc _ _ _
        have HGW := Lib.hid hgw; clear hgw
        have HIH := Lib.hid hIH; clear hIH
        by_cases hi1 : i = 1
        · have hib : ((i : Int) == 1) = true := by rw [hi1]; rfl
          have HI1 := Lib.hid hi1; clear hi1
          rw [show rowed 2 i k1 = true from by simp [rowed, HI1.out]] at HIH
          by_cases hr : r.2 = 0
          · have hrb : (r.2 != 0) = false := by rw [hr]; rfl
            have HRR := Lib.hid hr; clear hr
            go_wp2_with fail
            refine HIH.out.mono ?_
            rintro e w2 ⟨rfl, hc2, hf2, hg2⟩
            have Hg2 := Lib.hid hg2; clear hg2
            go_wp2_with fail
            go_roundg (ts.length - (i + 1))
            case measure => omega
            case rel => exact ⟨i + 1, r.1, by omega, by go_num, (HLE.out.2 HRR.out), by have := HLE.out.1; omega, Lib.hid (HCk.out.trans (HST.out.trans (if_neg (fun h => h HRR.out)))), hc2, hf2, Lib.hid (Gb.trans Hgr.out (Gb.trans HGW.out Hg2.out))⟩
          · have hrb : (r.2 != 0) = true := by rw [bne_iff_ne]; exact hr
            have HRR := Lib.hid hr; clear hr
            go_wp2_with fail
            refine HIH.out.mono ?_
            rintro e w2 ⟨rfl, hc2, hf2, hg2⟩
            have Hg2 := Lib.hid hg2; clear hg2
            go_wp2_with fail
            go_ret
            rw [HR.out, HCk.out, HST.out, if_pos HRR.out]
            exact ⟨rfl, hc2, hf2, Gb.trans HGq.out (Gb.trans Hgr.out (Gb.trans HGW.out Hg2.out))⟩
        · have hib : ((i : Int) == 1) = false := by rw [beq_eq_false_iff_ne]; omega
          rw [show rowed 2 i k1 = false from by simp [rowed, hi1]] at HIH
          by_cases hr : r.2 = 0
          · have hrb : (r.2 != 0) = false := by rw [hr]; rfl
            have HRR := Lib.hid hr; clear hr
            go_wp2_with fail
            refine HIH.out.mono ?_
            rintro e w2 ⟨rfl, hc2, hf2, hg2⟩
            have Hg2 := Lib.hid hg2; clear hg2
            go_wp2_with fail
            go_roundg (ts.length - (i + 1))
            case measure => omega
            case rel => exact ⟨i + 1, r.1, by omega, by go_num, (HLE.out.2 HRR.out), by have := HLE.out.1; omega, Lib.hid (HCk.out.trans (HST.out.trans (if_neg (fun h => h HRR.out)))), hc2, hf2, Lib.hid (Gb.trans Hgr.out (Gb.trans HGW.out Hg2.out))⟩
          · have hrb : (r.2 != 0) = true := by rw [bne_iff_ne]; exact hr
            have HRR := Lib.hid hr; clear hr
            go_wp2_with fail
            refine HIH.out.mono ?_
            rintro e w2 ⟨rfl, hc2, hf2, hg2⟩
            have Hg2 := Lib.hid hg2; clear hg2
            go_wp2_with fail
            go_ret
            rw [HR.out, HCk.out, HST.out, if_pos HRR.out]
            exact ⟨rfl, hc2, hf2, Gb.trans HGq.out (Gb.trans Hgr.out (Gb.trans HGW.out Hg2.out))⟩
      · have hie : i = ts.length := by omega
        go_wp2_with fail
        go_ret
        rw [HR.out, HCk.out, chkAll_end (by omega)]
        exact ⟨rfl, hcr, hfr, Gb.trans HGq.out Hgr.out⟩
  · obtain ⟨t0, t1, t2, t3, t4, t5⟩ := HT1.out
    clear t0 t1 t2 t4 t5
    by_cases hmm : (ts.length : Int) ≠ 1
    · have hmb : ((ts.length : Int) != 1) = true := by rw [bne_iff_ne]; exact hmm
      go_quiet (fail)
      go_wp2_with fail
      go_ret
      rw [chk_bad (e := 3) (by rw [HE.out, if_pos (.inl ⟨by decide, hmm⟩)]) (by decide)]
      exact ⟨rfl, hc1, hf1, Gb.drewN HG.out _⟩
    have hmb : ((ts.length : Int) != 1) = false := by rw [Decidable.not_not.1 hmm]; rfl
    have HM := Lib.hid hmm; clear hmm
    by_cases hv : v ≠ 0
    · have hvb : (v != 0) = true := by rw [bne_iff_ne]; exact hv
      go_quiet (fail)
      go_wp2_with fail
      go_ret
      rw [chk_bad (e := 3) (by rw [HE.out, if_pos (.inr (.inl ⟨by decide, hv⟩))]) (by decide)]
      exact ⟨rfl, hc1, hf1, Gb.drewN HG.out _⟩
    have hvb : (v != 0) = false := by rw [Decidable.not_not.1 hv]; rfl
    have HV := Lib.hid hv; clear hv
    by_cases hn : n.toList.isEmpty = false
    · have HN0 := Lib.hid hn
      go_quiet (fail)
      go_wp2_with fail
      go_ret
      rw [chk_bad (e := 3) (by rw [HE.out, if_pos (.inr (.inr ⟨by decide, by decide, HN0.out⟩))]) (by decide)]
      exact ⟨rfl, hc1, hf1, Gb.drewN HG.out _⟩
    have hnb : n.toList.isEmpty = true := by simpa using hn
    have HN0 := Lib.hid hn; clear hn
    have H3 : ¬ ((0 ≤ arity 3 ∧ (ts.length : Int) ≠ arity 3) ∨ ((3 : Int) ≠ 0 ∧ v ≠ 0) ∨ ((3 : Int) ≠ 1 ∧ (3 : Int) ≠ 5 ∧ n.toList.isEmpty = false)) := not_or.2 ⟨(fun h => HM.out h.2), not_or.2 ⟨(fun h => HV.out h.2), (fun h => HN0.out h.2.2)⟩⟩
    have HE3 := Lib.hid (HE.out.trans (if_neg H3)); clear HE H3
    by_cases hr : row = true
    · subst hr
      go_quiet (fail)
      go_wp2_with fail
      go_ret
      rw [chk_bad (e := 9) (HE3.out.trans (if_pos ⟨by decide, by decide⟩)) (by decide)]
      exact ⟨rfl, hc1, hf1, Gb.drewN HG.out _⟩
    obtain rfl : row = false := by simpa using hr
    clear hr
    have HZ := Lib.hid (HE3.out.trans ((if_neg (fun h => absurd h.2 (by decide))).trans (if_neg (fun h => absurd h.1 (by decide))))); clear HE3
    go_quiet (fail)
    go_wp2_with fail
    have hzq : N < (W.drewN nq).heap.size := hz
    have hcq : (W.drewN nq).cell? ⟨bc, 0, none⟩ = some (.int .i64 (left - 1)) := hc1
    have hfq : (W.drewN nq).frozen? ⟨bc, 0, none⟩ = false := hf1
    have hdq : (W.drewN nq).cell? ⟨N, 0, none⟩ = some (.int .i64 3) := d0
    have HAq : Hid (ArgsAt (W.drewN nq) (· < B) A ts) := Lib.hid (ArgsAt.keep (w := W) (w1 := W.drewN nq) (fun b h => ⟨h, rfl⟩) HA1.out)
    have HTq : Hid (Tab (W.drewN nq)) := Lib.hid (Tab.keep rfl HT1.out)
    have HGq : Hid (w.grownBy (W.drewN nq) (some bc)) := Lib.hid (Gb.drewN HG.out _)
    have HR := Lib.hid (chk_ok HZ.out)
    clear HA1 HT1 HG HZ d0 d1 d2 d3 hc1 hf1 hz t3
    generalize W.drewN nq = Wq at *
    go_loopg [104] ts.length (fun g x wr => ∃ i : Nat, ∃ li : Int, i + g = ts.length ∧ x = .int .i64 i ∧ 0 ≤ li ∧ li ≤ 4096 ∧ Hid (chkAll 3 (ts.drop 0) 0 depth (left - 1) = chkAll 3 (ts.drop i) i depth li) ∧ wr.cell? ⟨bc, 0, none⟩ = some (.int .i64 li) ∧ wr.frozen? ⟨bc, 0, none⟩ = false ∧ Hid (Wq.grownBy wr (some bc)))
    case atStart => exact ⟨0, left - 1, by omega, rfl, by omega, by omega, Lib.hid rfl, hcq, hfq, Lib.hid (Gb.refl _ _)⟩
    case round =>
      obtain ⟨i, li, hig, rfl, hli0, hli1, HCk, hcr, hfr, Hgr⟩ := hrel
      clear hcq hfq
      have hdr : wr.cell? ⟨N, 0, none⟩ = some (.int .i64 3) := (gcell Hgr.out hzq (by intro e; cases e; omega) 0).trans hdq
      by_cases hlt : i < ts.length
      · rcases (keepBelow Hgr.out hB (by omega) HAq.out).elem with h | ⟨b', off', hAeq, hel⟩
        · exact absurd hlt (by omega)
        subst hAeq
        obtain ⟨k1, n1, v1, us, A1, c1, ht, hb1, e0, e1, e2, e3, hA1, _⟩ := hel i hlt
        clear hel
        have hsz : wr.heap.size ≥ Wq.heap.size := Hgr.out.size
        have hNr : N < wr.heap.size := by omega
        have hIH := HI.out _ (List.mem_of_getElem? ht) A1 c1 (rowed 3 i k1) (depth + 1) li bc B (wr.alloc (.cells #[.int .i64 k1, .string n1, .int .i64 v1, .slice A1 us.length c1] 27)) hli0 hli1
          (by simp; omega) hB0 hB (by omega) (by omega) ((World.cell?_alloc_past _ _ _ (by omega)).trans hcr) ((World.frozen?_alloc_past _ _ _ (by omega)).trans hfr)
          (Tab.keep (by rw [Below.heap_alloc _ _ _ (by omega), Hgr.out.block 0 (by omega) (by intro e; cases e; omega)]) HTq.out)
          (hA1.keep fun b h => ⟨h, Below.heap_alloc _ _ _ (by omega)⟩)
        replace hIH : Calls Tryd.prog 49 #[.pointer (some ⟨bc, 0, none⟩), .agg #[.int .i64 k1, .string n1, .int .i64 v1, .slice A1 us.length c1], .bool (rowed 3 i k1), .int .i64 (depth + 1)] _ _ := hIH
        have hst := chkAll_step (k := 3) ht depth li
        have hle := chk_left (.mk k1 n1 v1 us) (rowed 3 i k1) (depth + 1) li
        replace hst : _ = if (chk (.mk k1 n1 v1 us) (rowed 3 i k1) (depth + 1) li).2 ≠ 0 then _ else _ := hst
        rw [show rowed 3 i (Ty.kind (.mk k1 n1 v1 us)) = rowed 3 i k1 from rfl] at hst
        generalize chk (.mk k1 n1 v1 us) (rowed 3 i k1) (depth + 1) li = r at *
        have HST := Lib.hid hst; clear hst
        have HLE := Lib.hid hle; clear hle
        clear hA1
        have hgw : wr.grownBy (wr.alloc (.cells #[.int .i64 k1, .string n1, .int .i64 v1, .slice A1 us.length c1] 27)) (some bc) := World.grownBy_alloc _ _ _
        have HGW := Lib.hid hgw; clear hgw
        have HIH := Lib.hid hIH; clear hIH
        rw [show rowed 3 i k1 = true from by simp [rowed]] at HIH
        by_cases hr : r.2 = 0
        · have hrb : (r.2 != 0) = false := by rw [hr]; rfl
          have HRR := Lib.hid hr; clear hr
          go_wp2_with fail
          refine HIH.out.mono ?_
          rintro e w2 ⟨rfl, hc2, hf2, hg2⟩
          have Hg2 := Lib.hid hg2; clear hg2
          go_wp2_with fail
          go_roundg (ts.length - (i + 1))
          case measure => omega
          case rel => exact ⟨i + 1, r.1, by omega, by go_num, (HLE.out.2 HRR.out), by have := HLE.out.1; omega, Lib.hid (HCk.out.trans (HST.out.trans (if_neg (fun h => h HRR.out)))), hc2, hf2, Lib.hid (Gb.trans Hgr.out (Gb.trans HGW.out Hg2.out))⟩
        · have hrb : (r.2 != 0) = true := by rw [bne_iff_ne]; exact hr
          have HRR := Lib.hid hr; clear hr
          go_wp2_with fail
          refine HIH.out.mono ?_
          rintro e w2 ⟨rfl, hc2, hf2, hg2⟩
          have Hg2 := Lib.hid hg2; clear hg2
          go_wp2_with fail
          go_ret
          rw [HR.out, HCk.out, HST.out, if_pos HRR.out]
          exact ⟨rfl, hc2, hf2, Gb.trans HGq.out (Gb.trans Hgr.out (Gb.trans HGW.out Hg2.out))⟩
      · have hie : i = ts.length := by omega
        go_wp2_with fail
        go_ret
        rw [HR.out, HCk.out, chkAll_end (by omega)]
        exact ⟨rfl, hcr, hfr, Gb.trans HGq.out Hgr.out⟩
  · obtain ⟨t0, t1, t2, t3, t4, t5⟩ := HT1.out
    clear t0 t1 t2 t3 t5
    by_cases hmm : (ts.length : Int) ≠ 0
    · have hmb : ((ts.length : Int) != 0) = true := by rw [bne_iff_ne]; exact hmm
      go_quiet (fail)
      go_wp2_with fail
      go_ret
      rw [chk_bad (e := 3) (by rw [HE.out, if_pos (.inl ⟨by decide, hmm⟩)]) (by decide)]
      exact ⟨rfl, hc1, hf1, Gb.drewN HG.out _⟩
    have hmb : ((ts.length : Int) != 0) = false := by rw [Decidable.not_not.1 hmm]; rfl
    have HM := Lib.hid hmm; clear hmm
    by_cases hv : v ≠ 0
    · have hvb : (v != 0) = true := by rw [bne_iff_ne]; exact hv
      go_quiet (fail)
      go_wp2_with fail
      go_ret
      rw [chk_bad (e := 3) (by rw [HE.out, if_pos (.inr (.inl ⟨by decide, hv⟩))]) (by decide)]
      exact ⟨rfl, hc1, hf1, Gb.drewN HG.out _⟩
    have hvb : (v != 0) = false := by rw [Decidable.not_not.1 hv]; rfl
    have HV := Lib.hid hv; clear hv
    by_cases hn : n.toList.isEmpty = false
    · have HN0 := Lib.hid hn
      go_quiet (fail)
      go_wp2_with fail
      go_ret
      rw [chk_bad (e := 3) (by rw [HE.out, if_pos (.inr (.inr ⟨by decide, by decide, HN0.out⟩))]) (by decide)]
      exact ⟨rfl, hc1, hf1, Gb.drewN HG.out _⟩
    have hnb : n.toList.isEmpty = true := by simpa using hn
    have HN0 := Lib.hid hn; clear hn
    have H3 : ¬ ((0 ≤ arity 4 ∧ (ts.length : Int) ≠ arity 4) ∨ ((4 : Int) ≠ 0 ∧ v ≠ 0) ∨ ((4 : Int) ≠ 1 ∧ (4 : Int) ≠ 5 ∧ n.toList.isEmpty = false)) := not_or.2 ⟨(fun h => HM.out h.2), not_or.2 ⟨(fun h => HV.out h.2), (fun h => HN0.out h.2.2)⟩⟩
    have HE3 := Lib.hid (HE.out.trans (if_neg H3)); clear HE H3
    by_cases hr : row = false
    · subst hr
      go_quiet (fail)
      go_wp2_with fail
      go_ret
      rw [chk_bad (e := 9) (HE3.out.trans (if_pos ⟨by decide, by decide⟩)) (by decide)]
      exact ⟨rfl, hc1, hf1, Gb.drewN HG.out _⟩
    obtain rfl : row = true := by simpa using hr
    clear hr
    have HZ := Lib.hid (HE3.out.trans ((if_neg (fun h => absurd h.2 (by decide))).trans (if_neg (fun h => absurd h.1 (by decide))))); clear HE3
    go_quiet (fail)
    go_wp2_with fail
    have hzq : N < (W.drewN nq).heap.size := hz
    have hcq : (W.drewN nq).cell? ⟨bc, 0, none⟩ = some (.int .i64 (left - 1)) := hc1
    have hfq : (W.drewN nq).frozen? ⟨bc, 0, none⟩ = false := hf1
    have hdq : (W.drewN nq).cell? ⟨N, 0, none⟩ = some (.int .i64 4) := d0
    have HAq : Hid (ArgsAt (W.drewN nq) (· < B) A ts) := Lib.hid (ArgsAt.keep (w := W) (w1 := W.drewN nq) (fun b h => ⟨h, rfl⟩) HA1.out)
    have HTq : Hid (Tab (W.drewN nq)) := Lib.hid (Tab.keep rfl HT1.out)
    have HGq : Hid (w.grownBy (W.drewN nq) (some bc)) := Lib.hid (Gb.drewN HG.out _)
    have HR := Lib.hid (chk_ok HZ.out)
    clear HA1 HT1 HG HZ d0 d1 d2 d3 hc1 hf1 hz t4
    generalize W.drewN nq = Wq at *
    go_loopg [104] ts.length (fun g x wr => ∃ i : Nat, ∃ li : Int, i + g = ts.length ∧ x = .int .i64 i ∧ 0 ≤ li ∧ li ≤ 4096 ∧ Hid (chkAll 4 (ts.drop 0) 0 depth (left - 1) = chkAll 4 (ts.drop i) i depth li) ∧ wr.cell? ⟨bc, 0, none⟩ = some (.int .i64 li) ∧ wr.frozen? ⟨bc, 0, none⟩ = false ∧ Hid (Wq.grownBy wr (some bc)))
    case atStart => exact ⟨0, left - 1, by omega, rfl, by omega, by omega, Lib.hid rfl, hcq, hfq, Lib.hid (Gb.refl _ _)⟩
    case round =>
      obtain ⟨i, li, hig, rfl, hli0, hli1, HCk, hcr, hfr, Hgr⟩ := hrel
      clear hcq hfq
      have hdr : wr.cell? ⟨N, 0, none⟩ = some (.int .i64 4) := (gcell Hgr.out hzq (by intro e; cases e; omega) 0).trans hdq
      by_cases hlt : i < ts.length
      · rcases (keepBelow Hgr.out hB (by omega) HAq.out).elem with h | ⟨b', off', hAeq, hel⟩
        · exact absurd hlt (by omega)
        subst hAeq
        obtain ⟨k1, n1, v1, us, A1, c1, ht, hb1, e0, e1, e2, e3, hA1, _⟩ := hel i hlt
        clear hel
        have hsz : wr.heap.size ≥ Wq.heap.size := Hgr.out.size
        have hNr : N < wr.heap.size := by omega
        have hIH := HI.out _ (List.mem_of_getElem? ht) A1 c1 (rowed 4 i k1) (depth + 1) li bc B (wr.alloc (.cells #[.int .i64 k1, .string n1, .int .i64 v1, .slice A1 us.length c1] 27)) hli0 hli1
          (by simp; omega) hB0 hB (by omega) (by omega) ((World.cell?_alloc_past _ _ _ (by omega)).trans hcr) ((World.frozen?_alloc_past _ _ _ (by omega)).trans hfr)
          (Tab.keep (by rw [Below.heap_alloc _ _ _ (by omega), Hgr.out.block 0 (by omega) (by intro e; cases e; omega)]) HTq.out)
          (hA1.keep fun b h => ⟨h, Below.heap_alloc _ _ _ (by omega)⟩)
        replace hIH : Calls Tryd.prog 49 #[.pointer (some ⟨bc, 0, none⟩), .agg #[.int .i64 k1, .string n1, .int .i64 v1, .slice A1 us.length c1], .bool (rowed 4 i k1), .int .i64 (depth + 1)] _ _ := hIH
        have hst := chkAll_step (k := 4) ht depth li
        have hle := chk_left (.mk k1 n1 v1 us) (rowed 4 i k1) (depth + 1) li
        replace hst : _ = if (chk (.mk k1 n1 v1 us) (rowed 4 i k1) (depth + 1) li).2 ≠ 0 then _ else _ := hst
        rw [show rowed 4 i (Ty.kind (.mk k1 n1 v1 us)) = rowed 4 i k1 from rfl] at hst
        generalize chk (.mk k1 n1 v1 us) (rowed 4 i k1) (depth + 1) li = r at *
        have HST := Lib.hid hst; clear hst
        have HLE := Lib.hid hle; clear hle
        clear hA1
        have hgw : wr.grownBy (wr.alloc (.cells #[.int .i64 k1, .string n1, .int .i64 v1, .slice A1 us.length c1] 27)) (some bc) := World.grownBy_alloc _ _ _
        have HGW := Lib.hid hgw; clear hgw
        have HIH := Lib.hid hIH; clear hIH
        rw [show rowed 4 i k1 = false from by simp [rowed]] at HIH
        by_cases hr : r.2 = 0
        · have hrb : (r.2 != 0) = false := by rw [hr]; rfl
          have HRR := Lib.hid hr; clear hr
          go_wp2_with fail
          refine HIH.out.mono ?_
          rintro e w2 ⟨rfl, hc2, hf2, hg2⟩
          have Hg2 := Lib.hid hg2; clear hg2
          go_wp2_with fail
          go_roundg (ts.length - (i + 1))
          case measure => omega
          case rel => exact ⟨i + 1, r.1, by omega, by go_num, (HLE.out.2 HRR.out), by have := HLE.out.1; omega, Lib.hid (HCk.out.trans (HST.out.trans (if_neg (fun h => h HRR.out)))), hc2, hf2, Lib.hid (Gb.trans Hgr.out (Gb.trans HGW.out Hg2.out))⟩
        · have hrb : (r.2 != 0) = true := by rw [bne_iff_ne]; exact hr
          have HRR := Lib.hid hr; clear hr
          go_wp2_with fail
          refine HIH.out.mono ?_
          rintro e w2 ⟨rfl, hc2, hf2, hg2⟩
          have Hg2 := Lib.hid hg2; clear hg2
          go_wp2_with fail
          go_ret
          rw [HR.out, HCk.out, HST.out, if_pos HRR.out]
          exact ⟨rfl, hc2, hf2, Gb.trans HGq.out (Gb.trans Hgr.out (Gb.trans HGW.out Hg2.out))⟩
      · have hie : i = ts.length := by omega
        go_wp2_with fail
        go_ret
        rw [HR.out, HCk.out, chkAll_end (by omega)]
        exact ⟨rfl, hcr, hfr, Gb.trans HGq.out Hgr.out⟩
  · obtain ⟨t0, t1, t2, t3, t4, t5⟩ := HT1.out
    clear t0 t1 t2 t3 t4
    by_cases hmm : (ts.length : Int) ≠ 2
    · have hmb : ((ts.length : Int) != 2) = true := by rw [bne_iff_ne]; exact hmm
      go_quiet (fail)
      go_wp2_with fail
      go_ret
      rw [chk_bad (e := 3) (by rw [HE.out, if_pos (.inl ⟨by decide, hmm⟩)]) (by decide)]
      exact ⟨rfl, hc1, hf1, Gb.drewN HG.out _⟩
    have hmb : ((ts.length : Int) != 2) = false := by rw [Decidable.not_not.1 hmm]; rfl
    have HM := Lib.hid hmm; clear hmm
    by_cases hv : v ≠ 0
    · have hvb : (v != 0) = true := by rw [bne_iff_ne]; exact hv
      go_quiet (fail)
      go_wp2_with fail
      go_ret
      rw [chk_bad (e := 3) (by rw [HE.out, if_pos (.inr (.inl ⟨by decide, hv⟩))]) (by decide)]
      exact ⟨rfl, hc1, hf1, Gb.drewN HG.out _⟩
    have hvb : (v != 0) = false := by rw [Decidable.not_not.1 hv]; rfl
    have HV := Lib.hid hv; clear hv
    have H3 : ¬ ((0 ≤ arity 5 ∧ (ts.length : Int) ≠ arity 5) ∨ ((5 : Int) ≠ 0 ∧ v ≠ 0) ∨ ((5 : Int) ≠ 1 ∧ (5 : Int) ≠ 5 ∧ n.toList.isEmpty = false)) := not_or.2 ⟨(fun h => HM.out h.2), not_or.2 ⟨(fun h => HV.out h.2), (fun h => absurd rfl (h.2.1))⟩⟩
    have HE3 := Lib.hid (HE.out.trans (if_neg H3)); clear HE H3
    by_cases hr : row = false
    · subst hr
      go_quiet (fail)
      go_wp2_with fail
      go_ret
      rw [chk_bad (e := 9) (HE3.out.trans (if_pos ⟨by decide, by decide⟩)) (by decide)]
      exact ⟨rfl, hc1, hf1, Gb.drewN HG.out _⟩
    obtain rfl : row = true := by simpa using hr
    clear hr
    have HZ := Lib.hid (HE3.out.trans ((if_neg (fun h => absurd h.2 (by decide))).trans (if_neg (fun h => absurd h.1 (by decide))))); clear HE3
    go_quiet (fail)
    go_wp2_with fail
    have hzq : N < (W.drewN nq).heap.size := hz
    have hcq : (W.drewN nq).cell? ⟨bc, 0, none⟩ = some (.int .i64 (left - 1)) := hc1
    have hfq : (W.drewN nq).frozen? ⟨bc, 0, none⟩ = false := hf1
    have hdq : (W.drewN nq).cell? ⟨N, 0, none⟩ = some (.int .i64 5) := d0
    have HAq : Hid (ArgsAt (W.drewN nq) (· < B) A ts) := Lib.hid (ArgsAt.keep (w := W) (w1 := W.drewN nq) (fun b h => ⟨h, rfl⟩) HA1.out)
    have HTq : Hid (Tab (W.drewN nq)) := Lib.hid (Tab.keep rfl HT1.out)
    have HGq : Hid (w.grownBy (W.drewN nq) (some bc)) := Lib.hid (Gb.drewN HG.out _)
    have HR := Lib.hid (chk_ok HZ.out)
    clear HA1 HT1 HG HZ d0 d1 d2 d3 hc1 hf1 hz t5
    generalize W.drewN nq = Wq at *
    go_loopg [104] ts.length (fun g x wr => ∃ i : Nat, ∃ li : Int, i + g = ts.length ∧ x = .int .i64 i ∧ 0 ≤ li ∧ li ≤ 4096 ∧ Hid (chkAll 5 (ts.drop 0) 0 depth (left - 1) = chkAll 5 (ts.drop i) i depth li) ∧ wr.cell? ⟨bc, 0, none⟩ = some (.int .i64 li) ∧ wr.frozen? ⟨bc, 0, none⟩ = false ∧ Hid (Wq.grownBy wr (some bc)))
    case atStart => exact ⟨0, left - 1, by omega, rfl, by omega, by omega, Lib.hid rfl, hcq, hfq, Lib.hid (Gb.refl _ _)⟩
    case round =>
      obtain ⟨i, li, hig, rfl, hli0, hli1, HCk, hcr, hfr, Hgr⟩ := hrel
      clear hcq hfq
      have hdr : wr.cell? ⟨N, 0, none⟩ = some (.int .i64 5) := (gcell Hgr.out hzq (by intro e; cases e; omega) 0).trans hdq
      by_cases hlt : i < ts.length
      · rcases (keepBelow Hgr.out hB (by omega) HAq.out).elem with h | ⟨b', off', hAeq, hel⟩
        · exact absurd hlt (by omega)
        subst hAeq
        obtain ⟨k1, n1, v1, us, A1, c1, ht, hb1, e0, e1, e2, e3, hA1, _⟩ := hel i hlt
        clear hel
        have hsz : wr.heap.size ≥ Wq.heap.size := Hgr.out.size
        have hNr : N < wr.heap.size := by omega
        have hIH := HI.out _ (List.mem_of_getElem? ht) A1 c1 (rowed 5 i k1) (depth + 1) li bc B (wr.alloc (.cells #[.int .i64 k1, .string n1, .int .i64 v1, .slice A1 us.length c1] 27)) hli0 hli1
          (by simp; omega) hB0 hB (by omega) (by omega) ((World.cell?_alloc_past _ _ _ (by omega)).trans hcr) ((World.frozen?_alloc_past _ _ _ (by omega)).trans hfr)
          (Tab.keep (by rw [Below.heap_alloc _ _ _ (by omega), Hgr.out.block 0 (by omega) (by intro e; cases e; omega)]) HTq.out)
          (hA1.keep fun b h => ⟨h, Below.heap_alloc _ _ _ (by omega)⟩)
        replace hIH : Calls Tryd.prog 49 #[.pointer (some ⟨bc, 0, none⟩), .agg #[.int .i64 k1, .string n1, .int .i64 v1, .slice A1 us.length c1], .bool (rowed 5 i k1), .int .i64 (depth + 1)] _ _ := hIH
        have hst := chkAll_step (k := 5) ht depth li
        have hle := chk_left (.mk k1 n1 v1 us) (rowed 5 i k1) (depth + 1) li
        replace hst : _ = if (chk (.mk k1 n1 v1 us) (rowed 5 i k1) (depth + 1) li).2 ≠ 0 then _ else _ := hst
        rw [show rowed 5 i (Ty.kind (.mk k1 n1 v1 us)) = rowed 5 i k1 from rfl] at hst
        generalize chk (.mk k1 n1 v1 us) (rowed 5 i k1) (depth + 1) li = r at *
        have HST := Lib.hid hst; clear hst
        have HLE := Lib.hid hle; clear hle
        clear hA1
        have hgw : wr.grownBy (wr.alloc (.cells #[.int .i64 k1, .string n1, .int .i64 v1, .slice A1 us.length c1] 27)) (some bc) := World.grownBy_alloc _ _ _
        have HGW := Lib.hid hgw; clear hgw
        have HIH := Lib.hid hIH; clear hIH
        by_cases hi1 : i = 1
        · have hib : ((i : Int) == 1) = true := by rw [hi1]; rfl
          have HI1 := Lib.hid hi1; clear hi1
          rw [show rowed 5 i k1 = true from by simp [rowed, HI1.out]] at HIH
          by_cases hr : r.2 = 0
          · have hrb : (r.2 != 0) = false := by rw [hr]; rfl
            have HRR := Lib.hid hr; clear hr
            go_wp2_with fail
            refine HIH.out.mono ?_
            rintro e w2 ⟨rfl, hc2, hf2, hg2⟩
            have Hg2 := Lib.hid hg2; clear hg2
            go_wp2_with fail
            go_roundg (ts.length - (i + 1))
            case measure => omega
            case rel => exact ⟨i + 1, r.1, by omega, by go_num, (HLE.out.2 HRR.out), by have := HLE.out.1; omega, Lib.hid (HCk.out.trans (HST.out.trans (if_neg (fun h => h HRR.out)))), hc2, hf2, Lib.hid (Gb.trans Hgr.out (Gb.trans HGW.out Hg2.out))⟩
          · have hrb : (r.2 != 0) = true := by rw [bne_iff_ne]; exact hr
            have HRR := Lib.hid hr; clear hr
            go_wp2_with fail
            refine HIH.out.mono ?_
            rintro e w2 ⟨rfl, hc2, hf2, hg2⟩
            have Hg2 := Lib.hid hg2; clear hg2
            go_wp2_with fail
            go_ret
            rw [HR.out, HCk.out, HST.out, if_pos HRR.out]
            exact ⟨rfl, hc2, hf2, Gb.trans HGq.out (Gb.trans Hgr.out (Gb.trans HGW.out Hg2.out))⟩
        · have hib : ((i : Int) == 1) = false := by rw [beq_eq_false_iff_ne]; omega
          rw [show rowed 5 i k1 = false from by simp [rowed, hi1]] at HIH
          by_cases hr : r.2 = 0
          · have hrb : (r.2 != 0) = false := by rw [hr]; rfl
            have HRR := Lib.hid hr; clear hr
            go_wp2_with fail
            refine HIH.out.mono ?_
            rintro e w2 ⟨rfl, hc2, hf2, hg2⟩
            have Hg2 := Lib.hid hg2; clear hg2
            go_wp2_with fail
            go_roundg (ts.length - (i + 1))
            case measure => omega
            case rel => exact ⟨i + 1, r.1, by omega, by go_num, (HLE.out.2 HRR.out), by have := HLE.out.1; omega, Lib.hid (HCk.out.trans (HST.out.trans (if_neg (fun h => h HRR.out)))), hc2, hf2, Lib.hid (Gb.trans Hgr.out (Gb.trans HGW.out Hg2.out))⟩
          · have hrb : (r.2 != 0) = true := by rw [bne_iff_ne]; exact hr
            have HRR := Lib.hid hr; clear hr
            go_wp2_with fail
            refine HIH.out.mono ?_
            rintro e w2 ⟨rfl, hc2, hf2, hg2⟩
            have Hg2 := Lib.hid hg2; clear hg2
            go_wp2_with fail
            go_ret
            rw [HR.out, HCk.out, HST.out, if_pos HRR.out]
            exact ⟨rfl, hc2, hf2, Gb.trans HGq.out (Gb.trans Hgr.out (Gb.trans HGW.out Hg2.out))⟩
      · have hie : i = ts.length := by omega
        go_wp2_with fail
        go_ret
        rw [HR.out, HCk.out, chkAll_end (by omega)]
        exact ⟨rfl, hcr, hfr, Gb.trans HGq.out Hgr.out⟩
end Go.Proofs.YtoafghnieebimaaDoor
