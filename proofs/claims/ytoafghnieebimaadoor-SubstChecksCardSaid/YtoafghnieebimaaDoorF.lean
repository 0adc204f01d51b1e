/- The contracts of the small functions: TypeError, slices.Index, Contains, IndexFunc, ContainsFunc at []int. -/
import Derived.Test.YtoafghnieebimaaDoorE
namespace Go.Proofs.YtoafghnieebimaaDoor
open Go.RowKit

theorem ret_int {a b : Int} (h : a = b) : Ending.returned (.int .i64 a) = .returned (.int .i64 b) := by rw [h]
theorem ret_bool {a b : Bool} (h : a = b) : Ending.returned (.bool a) = .returned (.bool b) := by rw [h]

/-- Numbers that lie in a row. -/
def IntsAt (w : World) (D : Nat → Prop) (A : Option Addr) (xs : List Int) : Prop :=
  xs.length ≤ 9223372036854775807 ∧ (0 < xs.length → ∃ b off, A = some ⟨b, off, none⟩ ∧ D b ∧ ∀ j, j < xs.length → w.cell? ⟨b, off + j, none⟩ = some (.int .i64 (xs.getD j 0)))
theorem IntsAt.keep {w w1 : World} {D D' : Nat → Prop} (h : ∀ b, D b → D' b ∧ w1.heap[b]? = w.heap[b]?) {A : Option Addr} {xs : List Int} (hx : IntsAt w D A xs) : IntsAt w1 D' A xs :=
  ⟨hx.1, fun h0 => by
    obtain ⟨b, off, e, hb, hc⟩ := hx.2 h0
    exact ⟨b, off, e, (h b hb).1, fun j hj => (World.cell?_of_block (h b hb).2).trans (hc j hj)⟩⟩
theorem IntsAt.under {w w1 : World} {B : Nat} (h : Below B w w1) {A : Option Addr} {xs : List Int} (hx : IntsAt w (· < B) A xs) : IntsAt w1 (· < B) A xs := hx.keep fun b hb => ⟨hb, h.block b hb⟩

def Is0 (r : Int) (e : Ending) : Prop := e = .returned (.int .i64 r)
set_option maxHeartbeats 400000 in
theorem typeError_any (t : Ty) (A : Option Addr) (c : Nat) (row : Bool) (B : Nat) (w : World) (hB : B ≤ w.heap.size) (hA : ArgsAt w (· < B) A t.args) :
    Calls Tryd.prog 7 #[.agg #[.int .i64 t.kind, .string t.name, .int .i64 t.var, .slice A t.args.length c], .bool row] w fun e w' => e = .returned (.int .i64 (chk t row 1 4096).2) ∧ Below w.heap.size w w' := by
  obtain ⟨k, n, v, ts⟩ := t
  have hT := te_says (.mk k n v ts) A c row 1 0 B (w.alloc (.cells #[.int .i64 k, .string n, .int .i64 v, .slice A ts.length c] 27)) (by omega) (by omega) (by simp; omega) (by omega) (by omega) (hA.keep fun b h => ⟨h, Below.heap_alloc _ _ _ (by omega)⟩)
  replace hT : Calls Tryd.prog 54 #[.agg #[.int .i64 k, .string n, .int .i64 v, .slice A ts.length c], .bool row, .int .i64 1, .int .i64 0] _ fun e w' => TePost _ (chk (.mk k n v ts) row 1 4096) e w' := hT
  show Calls Tryd.prog 7 #[.agg #[.int .i64 k, .string n, .int .i64 v, .slice A ts.length c], .bool row] w _
  generalize chk (.mk k n v ts) row 1 4096 = r at *
  have HT := Lib.hid hT; clear hT
  go_enter Tryd.func7, Tryd.ntmps7
  go_wp2_with fail
  refine HT.out.mono ?_
  rintro e w' ⟨rfl, hb⟩
  have HB := Lib.hid hb; clear hb
  go_wp2_with fail
  go_ret
  exact ⟨rfl, (Below.alloc (Below.refl _ _) (Nat.le_refl _) _).trans (HB.out.mono (by simp))⟩

def HasPost (v : Int) (xs : List Int) (w : World) (e : Ending) (w' : World) : Prop := ∃ r : Int, e = .returned (.int .i64 r) ∧ w = w' ∧ ((r = -1 ∧ v ∉ xs) ∨ (0 ≤ r ∧ v ∈ xs))
set_option maxHeartbeats 400000 in
theorem index_any (A : Option Addr) (c : Nat) (xs : List Int) (v : Int) (D : Nat → Prop) (w : World) (hr : IntsAt w D A xs) :
    Calls Tryd.prog 134 #[.slice A xs.length c, .int .i64 v] w fun e w' => HasPost v xs w e w' := by
  obtain ⟨hm, hc⟩ := hr
  go_enter Tryd.func134, Tryd.ntmps134
  go_wp2_with fail
  go_loopg [5, 8] xs.length (fun g _ x wr => ∃ k : Nat, k + g = xs.length ∧ x = .int .i64 k ∧ wr = w ∧ Hid (∀ j, j < k → xs.getD j 0 ≠ v))
  case atStart => exact ⟨0, by omega, rfl, rfl, Lib.hid (fun j hj => by omega)⟩
  case round =>
    obtain ⟨k, hk, rfl, rfl, HN⟩ := hrel
    by_cases hlt : k < xs.length
    · obtain ⟨b, off, rfl, _, hcc⟩ := hc (by omega)
      have h1 := hcc k hlt
      clear hcc hc
      have hx : xs.getD k 0 ∈ xs := by simp [List.getD, hlt]
      generalize hy : xs.getD k 0 = y at *
      have HX := Lib.hid hx; clear hx
      have HY := Lib.hid hy; clear hy
      by_cases hvy : v = y
      · have hb1 : (v == y) = true := by rw [hvy]; exact beq_self_eq_true y
        have HV := Lib.hid hvy; clear hvy
        go_wp2_with fail
        go_ret
        exact ⟨k, rfl, rfl, .inr ⟨by omega, by rw [HV.out]; exact HX.out⟩⟩
      · have hb1 : (v == y) = false := by rw [beq_eq_false_iff_ne]; exact hvy
        have HV := Lib.hid hvy; clear hvy
        go_wp2_with fail
        go_roundg (xs.length - (k + 1))
        case measure => omega
        case rel => exact ⟨k + 1, by omega, by go_num, rfl, Lib.hid (fun j hj => by
            by_cases hjk : j = k
            · subst hjk; rw [HY.out]; exact fun h => HV.out h.symm
            · exact HN.out j (by omega))⟩
    · go_wp2_with fail
      go_ret
      refine ⟨-1, rfl, rfl, .inl ⟨rfl, fun h => ?_⟩⟩
      obtain ⟨j, hj, rfl⟩ := List.getElem_of_mem h
      exact HN.out j (by omega) (by simp [List.getD, hj])
set_option maxHeartbeats 400000 in
theorem contains_any (A : Option Addr) (c : Nat) (xs : List Int) (v : Int) (D : Nat → Prop) (w : World) (hr : IntsAt w D A xs) :
    Calls Tryd.prog 82 #[.slice A xs.length c, .int .i64 v] w fun e w' => e = .returned (.bool (decide (v ∈ xs))) ∧ w = w' := by
  go_enter Tryd.func82, Tryd.ntmps82
  go_wp2_with fail
  refine (index_any A c xs v D w hr).mono ?_
  rintro e w' ⟨r, rfl, rfl, hcase⟩
  rcases hcase with ⟨hr, hv⟩ | ⟨hr, hv⟩
  · have hd : decide (0 ≤ r) = false := by simp [hr]
    have HV := Lib.hid hv; clear hv hr
    go_wp2_with fail
    go_ret
    exact ⟨ret_bool (by rw [eq_comm]; simpa using HV.out), rfl⟩
  · have HV := Lib.hid hv; clear hv
    go_wp2_with fail
    go_ret
    exact ⟨ret_bool (by rw [eq_comm]; simpa using HV.out), rfl⟩

def IfPost (n : Nat) (I J : Nat → World → Prop) (e : Ending) (w' : World) : Prop := (e = .returned (.int .i64 (-1)) ∧ I n w') ∨ (∃ k, k < n ∧ e = .returned (.int .i64 k) ∧ J k w')
set_option maxHeartbeats 400000 in
theorem indexFunc_any (g : Nat) (lb : Array Value) (eg : ∀ args w, (callFunc g args).run Tryd.prog w = .ok (.enter g args) w) (A : Option Addr) (c : Nat) (xs : List Int) (I J : Nat → World → Prop) (w : World)
    (hm : xs.length ≤ 9223372036854775807) (hI : I 0 w)
    (hread : ∀ k W, k < xs.length → I k W → ∃ b off, A = some ⟨b, off, none⟩ ∧ W.cell? ⟨b, off + k, none⟩ = some (.int .i64 (xs.getD k 0)))
    (hcall : ∀ k W, k < xs.length → I k W → Calls Tryd.prog g (#[.int .i64 (xs.getD k 0)] ++ lb) W fun e W' => (e = .returned (.bool false) ∧ I (k + 1) W') ∨ (e = .returned (.bool true) ∧ J k W')) :
    Calls Tryd.prog 55 #[.slice A xs.length c, .func (.func g) #[] lb] w fun e w' => IfPost xs.length I J e w' := by
  have HR := Lib.hid hread; clear hread
  have HC := Lib.hid hcall; clear hcall
  go_enter Tryd.func55, Tryd.ntmps55
  go_wp2_with fail
  go_loopg [5, 8] xs.length (fun gg _ x wr => ∃ k : Nat, k + gg = xs.length ∧ x = .int .i64 k ∧ Hid (I k wr))
  case atStart => exact ⟨0, by omega, rfl, Lib.hid hI⟩
  case round =>
    obtain ⟨k, hk, rfl, HI⟩ := hrel
    by_cases hlt : k < xs.length
    · obtain ⟨b, off, rfl, h1⟩ := HR.out k wr hlt HI.out
      have hc := HC.out k wr hlt HI.out
      generalize xs.getD k 0 = y at *
      have HCC := Lib.hid hc; clear hc
      go_wp2_with fail
      refine HCC.out.mono ?_
      rintro e w' (⟨rfl, h⟩ | ⟨rfl, h⟩)
      · have HH := Lib.hid h; clear h
        go_wp2_with fail
        go_roundg (xs.length - (k + 1))
        case measure => omega
        case rel => exact ⟨k + 1, by omega, by go_num, HH⟩
      · have HH := Lib.hid h; clear h
        go_wp2_with fail
        go_ret
        exact .inr ⟨k, hlt, rfl, HH.out⟩
    · have hkk : k = xs.length := by omega
      go_wp2_with fail
      go_ret
      exact .inl ⟨rfl, by rw [← hkk]; exact HI.out⟩
def CfPost (n : Nat) (I J : Nat → World → Prop) (e : Ending) (w' : World) : Prop := (e = .returned (.bool false) ∧ I n w') ∨ (∃ k, k < n ∧ e = .returned (.bool true) ∧ J k w')
set_option maxHeartbeats 400000 in
theorem containsFunc_any (g : Nat) (lb : Array Value) (eg : ∀ args w, (callFunc g args).run Tryd.prog w = .ok (.enter g args) w) (A : Option Addr) (c : Nat) (xs : List Int) (I J : Nat → World → Prop) (w : World)
    (hm : xs.length ≤ 9223372036854775807) (hI : I 0 w)
    (hread : ∀ k W, k < xs.length → I k W → ∃ b off, A = some ⟨b, off, none⟩ ∧ W.cell? ⟨b, off + k, none⟩ = some (.int .i64 (xs.getD k 0)))
    (hcall : ∀ k W, k < xs.length → I k W → Calls Tryd.prog g (#[.int .i64 (xs.getD k 0)] ++ lb) W fun e W' => (e = .returned (.bool false) ∧ I (k + 1) W') ∨ (e = .returned (.bool true) ∧ J k W')) :
    Calls Tryd.prog 9 #[.slice A xs.length c, .func (.func g) #[] lb] w fun e w' => CfPost xs.length I J e w' := by
  have HF := Lib.hid (indexFunc_any g lb eg A c xs I J w hm hI hread hcall)
  clear hread hcall hI eg
  go_enter Tryd.func9, Tryd.ntmps9
  go_wp2_with fail
  refine HF.out.mono ?_
  rintro e w' (⟨rfl, h⟩ | ⟨k, hk, rfl, h⟩)
  · have HH := Lib.hid h; clear h
    go_wp2_with fail
    go_ret
    exact .inl ⟨rfl, HH.out⟩
  · have HH := Lib.hid h; clear h
    go_wp2_with fail
    go_ret
    exact .inr ⟨k, hk, rfl, HH.out⟩
end Go.Proofs.YtoafghnieebimaaDoor
