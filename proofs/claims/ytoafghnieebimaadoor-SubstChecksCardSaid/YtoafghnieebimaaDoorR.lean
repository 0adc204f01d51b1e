/- Reading: what the form's own reading of a type (or of a list of types) says of the cells. -/
import Derived.Test.YtoafghnieebimaaDoorT
import Derived.ProofKit
import Derived.OpenShut
import Derived.Deep.DeepHandedRow
import Derived.Lib.LaidTab
namespace Go.Proofs.YtoafghnieebimaaDoor
open Go.RowKit Go.ChangeShapes Go.WideShapes Go.ChangeAt

theorem cells27 : Tryd.prog.cellsOf 27 = 4 := by kernel_rfl
theorem cells3 : Tryd.prog.cellsOf 3 = 1 := by kernel_rfl
theorem cells9 : Tryd.prog.cellsOf 9 = 1 := by kernel_rfl
theorem cells22 : Tryd.prog.cellsOf 22 = 1 := by kernel_rfl

section
variable {H : Type} {enc : TypeId × Value → H} {w : World} {spare : Nat → Bool} {held : Bool}
theorem i64_wf {n : Int} (h : (Lit.int .i64 n).wf = true) : -9223372036854775808 ≤ n ∧ n ≤ 9223372036854775807 := bounds_i64 h
theorem addr_add {a : Addr} (h : a.spot = none) (n : Nat) : a.add n = ⟨a.block, a.off + n, none⟩ := by
  obtain ⟨b, o, s⟩ := a
  obtain rfl : s = none := h
  unfold Addr.add
  split
  · rename_i h; subst h; rfl
  · rfl
set_option maxRecDepth 100000 in
/-- A type that can be read, and a list of types that can be read. -/
theorem trod_types : ∀ (fuel : Nat),
    (∀ (cs : List Value) (x : DataW H × List MemPlace), DataW.trod enc Tryd.prog w 0 spare held fuel 27 cs = some x →
      ∃ k n v A m c ts, cs = [.int .i64 k, .string n, .int .i64 v, .slice A m c] ∧ m = List.length ts ∧ ArgsAt w (· < w.heap.size) A ts ∧ Fits k v n) ∧
    (∀ (t : TypeId) (cs : List Value) (x : DataW H × List MemPlace), Tryd.prog.underlying t = some (.slice 27) → DataW.trod enc Tryd.prog w 0 spare held fuel t cs = some x →
      ∃ A m c ts, cs = [.slice A m c] ∧ m = List.length ts ∧ ArgsAt w (· < w.heap.size) A ts) := by
  intro fuel
  induction fuel with
  | zero => exact ⟨fun cs x h => by simp [DataW.trod] at h, fun t cs x _ h => by simp [DataW.trod] at h⟩
  | succ fuel ih =>
    constructor
    · intro cs x h
      obtain ⟨xs, n, hn, _, hl, hx, hf⟩ := DataW.trod_struct Tryd.underlying27 h
      obtain rfl : n = fuel := by omega
      rw [cells27] at hl
      match cs, hl with
      | [c0, c1, c2, c3], _ =>
        have h0 : DataW.trod enc Tryd.prog w 0 spare held n 3 [c0] = xs[0]? := by
          have h : DataW.trod enc Tryd.prog w 0 spare held n 3 ((([c0, c1, c2, c3] : List Value).drop 0).take (Tryd.prog.cellsOf 3)) = xs[0]? := hf 0 _ rfl
          rw [show (([c0, c1, c2, c3] : List Value).drop 0).take (Tryd.prog.cellsOf 3) = [c0] by rw [cells3]; rfl] at h
          exact h
        have h1 : DataW.trod enc Tryd.prog w 0 spare held n 9 [c1] = xs[1]? := by
          have h : DataW.trod enc Tryd.prog w 0 spare held n 9 ((([c0, c1, c2, c3] : List Value).drop 1).take (Tryd.prog.cellsOf 9)) = xs[1]? := hf 1 _ rfl
          rw [show (([c0, c1, c2, c3] : List Value).drop 1).take (Tryd.prog.cellsOf 9) = [c1] by rw [cells9]; rfl] at h
          exact h
        have h2 : DataW.trod enc Tryd.prog w 0 spare held n 3 [c2] = xs[2]? := by
          have h : DataW.trod enc Tryd.prog w 0 spare held n 3 ((([c0, c1, c2, c3] : List Value).drop 2).take (Tryd.prog.cellsOf 3)) = xs[2]? := hf 2 _ rfl
          rw [show (([c0, c1, c2, c3] : List Value).drop 2).take (Tryd.prog.cellsOf 3) = [c2] by rw [cells3]; rfl] at h
          exact h
        have h3 : DataW.trod enc Tryd.prog w 0 spare held n 22 [c3] = xs[3]? := by
          have h : DataW.trod enc Tryd.prog w 0 spare held n 22 ((([c0, c1, c2, c3] : List Value).drop 3).take (Tryd.prog.cellsOf 22)) = xs[3]? := hf 3 _ rfl
          rw [show (([c0, c1, c2, c3] : List Value).drop 3).take (Tryd.prog.cellsOf 22) = [c3] by rw [cells22]; rfl] at h
          exact h
        have hx4 : xs.length = 4 := hx
        rw [List.getElem?_eq_getElem (by omega)] at h0 h1 h2 h3
        obtain ⟨k, e0, _, w0⟩ := DataW.trod_int Tryd.underlying3 h0
        obtain ⟨s, e1, _, w1⟩ := DataW.trod_string Tryd.underlying9 h1
        obtain ⟨v, e2, _, w2⟩ := DataW.trod_int Tryd.underlying3 h2
        obtain ⟨A, m, c, ts, e3, hm, ha⟩ := ih.2 22 _ _ Tryd.underlying22 h3
        simp only [List.cons.injEq, and_true] at e0 e1 e2 e3
        subst e0 e1 e2 e3
        have a0 := i64_wf w0
        have a2 := i64_wf w2
        unfold maxLen at w1
        exact ⟨k, s, v, A, m, c, ts, rfl, hm, ha, a0.1, a0.2, a2.1, a2.2, by omega⟩
    · intro t cs x ht h
      rcases DataW.trod_slice ht h with ⟨rfl, _⟩ | ⟨a, len, cap, elems, rest, n, hn, rfl, _, _, hlc, hcm, hle, hel, _, _⟩
      · exact ⟨none, 0, 0, [], rfl, rfl, ArgsAt.nil _ _ _⟩
      · obtain rfl : n = fuel := by omega
        rw [cells27] at hel
        have hcell : ∀ i, i < len → ∃ cs', w.cells? 0 (a.add (i * 4)) 4 = some cs' ∧ ∃ y, DataW.trod enc Tryd.prog w 0 spare held n 27 cs' = some y := fun i hi => by
          have h1 := hel i hi
          rw [List.getElem?_eq_getElem (by omega)] at h1
          obtain ⟨cs', hc, ht'⟩ := Option.bind_eq_some_iff.1 h1
          exact ⟨cs', hc, _, ht'⟩
        have hsp : 0 < len → a.spot = none := fun h0 => by
          obtain ⟨cs', hc, y, hy⟩ := hcell 0 h0
          obtain ⟨k, s, v, A, m, c, ts, rfl, _⟩ := ih.1 _ _ hy
          obtain ⟨_, _, hcc⟩ := World.cells?_some hc
          have := World.cell?_spot (hcc 0 (by omega))
          simpa [Addr.add] using this
        have key : ∀ i, ∃ t : Ty, i < len → TyAt w (· < w.heap.size) t a.block (a.off + i * 4) := fun i => by
          by_cases hi : i < len
          · obtain ⟨cs', hc, y, hy⟩ := hcell i hi
            obtain ⟨k, s, v, A, m, c, ts, rfl, rfl, ha, hfit⟩ := ih.1 _ _ hy
            obtain ⟨_, _, hcc⟩ := World.cells?_some hc
            have q0 := hcc 0 (by omega)
            have q1 := hcc 1 (by omega)
            have q2 := hcc 2 (by omega)
            have q3 := hcc 3 (by omega)
            rw [addr_add (hsp (by omega))] at q0 q1 q2 q3
            rw [addr_add rfl] at q0 q1 q2 q3
            simp only [List.getElem?_cons_zero, List.getElem?_cons_succ, Nat.add_zero] at q0 q1 q2 q3
            obtain ⟨hl, b', off', hA, hs⟩ := ha
            exact ⟨.mk k s v ts, fun _ => .mk A c b' off' (World.block_lt_of_cell? w ⟨a.block, a.off + i * 4, none⟩ q0) q0 q1 q2 q3 ⟨hfit.1, hfit.2.1, hfit.2.2.1, hfit.2.2.2.1, hfit.2.2.2.2, hl⟩ hA hs⟩
          · exact ⟨default, fun h => absurd h hi⟩
        refine ⟨some a, len, cap, (List.range len).map fun i => Classical.choose (key i), rfl, by simp, by simp; unfold maxLen at hcm; omega, a.block, a.off, fun hne => ?_, fun j t ht => ?_⟩
        · have h0 : 0 < len := by
            rcases Nat.eq_zero_or_pos len with h | h
            · subst h; simp at hne
            · exact h
          have := hsp h0
          obtain ⟨b, o, s⟩ := a
          obtain rfl : s = none := this
          rfl
        · simp only [List.getElem?_map, Option.map_eq_some_iff] at ht
          obtain ⟨i, hi, rfl⟩ := ht
          obtain ⟨h1, h2⟩ := List.getElem?_eq_some_iff.1 hi
          simp at h1 h2
          subst h2
          exact Classical.choose_spec (key j) h1
end
end Go.Proofs.YtoafghnieebimaaDoor
