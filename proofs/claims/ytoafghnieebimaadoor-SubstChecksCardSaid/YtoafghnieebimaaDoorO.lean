/- What the law SubstChecks needs: its closures, the fixed calls, and the plain law of the rounds. -/
import Derived.Test.YtoafghnieebimaaDoorN
namespace Go.Proofs.YtoafghnieebimaaDoor
open Go.RowKit

/-- slices.ContainsFunc with a function that only looks. -/
theorem pure_any (g : Nat) (eg : ∀ args w, (callFunc g args).run Tryd.prog w = .ok (.enter g args) w) (lb : Array Value) (p : Int → Bool) (A2 : Option Addr) (c2 : Nat) (fs : List Int) (w2 : World) (D : Nat → Prop)
    (hcall : ∀ v ∈ fs, Calls Tryd.prog g (#[.int .i64 v] ++ lb) w2 fun e w' => e = .returned (.bool (p v)) ∧ w2 = w') (hi : IntsAt w2 D A2 fs) :
    Calls Tryd.prog 9 #[.slice A2 fs.length c2, .func (.func g) #[] lb] w2 fun e w' => e = .returned (.bool (fs.any p)) ∧ w2 = w' := by
  refine (containsFunc_any g lb eg A2 c2 fs (fun k W => w2 = W ∧ ∀ j, j < k → p (fs.getD j 0) = false) (fun k W => w2 = W ∧ p (fs.getD k 0) = true) w2 hi.1 ⟨rfl, fun j hj => by omega⟩ ?_ ?_).mono ?_
  · rintro k W hk ⟨rfl, _⟩
    obtain ⟨b, off, h1, _, h3⟩ := hi.2 (by omega)
    exact ⟨b, off, h1, h3 k hk⟩
  · rintro k W hk ⟨rfl, hlt⟩
    refine (hcall _ (by simp [List.getD, hk])).mono ?_
    rintro e w' ⟨rfl, rfl⟩
    cases h : p (fs.getD k 0) with
    | true => exact .inr ⟨rfl, rfl, rfl⟩
    | false =>
      refine .inl ⟨rfl, rfl, fun j hj => ?_⟩
      by_cases hjk : j = k
      · subst hjk; exact h
      · exact hlt j (by omega)
  · rintro e w' (⟨rfl, rfl, h⟩ | ⟨k, hk, rfl, rfl, h⟩)
    · refine ⟨ret_bool ?_, rfl⟩
      rw [eq_comm, List.any_eq_false]
      intro v hv
      obtain ⟨j, hj, rfl⟩ := List.getElem_of_mem hv
      have := h j hj
      simpa [List.getD, hj] using this
    · refine ⟨ret_bool ?_, rfl⟩
      rw [eq_comm, List.any_eq_true]
      exact ⟨_, by simp [List.getD, hk], h⟩
theorem enters10 : ∀ args w, (callFunc 10 args).run Tryd.prog w = .ok (.enter 10 args) w := enters_of Tryd.func10 (by kernel_rfl) rfl
theorem enters11 : ∀ args w, (callFunc 11 args).run Tryd.prog w = .ok (.enter 11 args) w := enters_of Tryd.func11 (by kernel_rfl) rfl
theorem enters13 : ∀ args w, (callFunc 13 args).run Tryd.prog w = .ok (.enter 13 args) w := enters_of Tryd.func13 (by kernel_rfl) rfl
set_option maxHeartbeats 400000 in
theorem f10_any (v : Int) (As : Option Addr) (n cs N : Nat) (w : World) (h0 : w.cell? ⟨N, 0, none⟩ = some (.slice As n cs)) :
    Calls Tryd.prog 10 #[.int .i64 v, .pointer (some ⟨N, 0, none⟩)] w fun e w' => e = .returned (.bool (decide ((n : Int) ≤ v))) ∧ w = w' := by
  go_enter Tryd.func10, Tryd.ntmps10
  go_wp2_with fail
  go_ret
  exact ⟨rfl, rfl⟩
set_option maxHeartbeats 400000 in
theorem f11_any (v : Nat) (y : Int) (Z n cs N : Nat) (w : World) (h0 : w.cell? ⟨N, 0, none⟩ = some (.slice (some ⟨Z, 0, none⟩) n cs)) (hv : (v : Int) < (n : Int)) (h1 : w.cell? ⟨Z, v, none⟩ = some (.int .i64 y)) :
    Calls Tryd.prog 11 #[.int .i64 v, .pointer (some ⟨N, 0, none⟩)] w fun e w' => e = .returned (.bool (y == 0)) ∧ w = w' := by
  go_enter Tryd.func11, Tryd.ntmps11
  go_wp2_with fail
  go_ret
  exact ⟨rfl, rfl⟩
set_option maxHeartbeats 400000 in
theorem f13_any (v : Int) (w : World) : Calls Tryd.prog 13 #[.int .i64 v] w fun e w' => e = .returned (.bool (decide (4096 < v))) ∧ w = w' := by
  go_enter Tryd.func13, Tryd.ntmps13
  go_wp2_with fail
  go_ret
  exact ⟨rfl, rfl⟩

/-! The fixed calls -/
theorem chk_var {v : Int} (h0 : 0 ≤ v) (h1 : v < 4096) (row : Bool) : chk (.mk 0 ⟨#[]⟩ v []) row 1 4096 = (4095, 0) := by
  have hh : headErr 0 ⟨#[]⟩ v 0 row 1 4095 = 0 := by
    unfold headErr
    rw [if_neg (by omega), if_neg (by omega), if_neg, if_neg (by simp), if_neg (by omega)]
    rintro (h | h | h)
    · exact absurd h.2 (by decide)
    · exact absurd rfl h.1
    · exact absurd h.2.2 (by decide +kernel)
  rw [chk]
  simp [chkAll, hh]
theorem fixed_one : substErr [.mk 0 ⟨#[]⟩ 1 []] = 4 := by
  have h : rowsErr 1 [.mk 0 ⟨#[]⟩ 1 []] = 4 := by
    have : rowErr 1 (.mk 0 ⟨#[]⟩ 1 []) = 4 := rowErr_range (by rw [chk_var (by omega) (by omega)]) ⟨1, by simp [vars], by simp⟩
    simp [rowsErr, this]
  exact (substErr_row (by simp) (by show rowsErr 1 _ ≠ 0; rw [h]; decide)).trans h
theorem fixed_two : substErr [.mk 0 ⟨#[]⟩ 0 []] = 0 := by
  have h : rowsErr 1 [.mk 0 ⟨#[]⟩ 0 []] = 0 := by
    have : rowErr 1 (.mk 0 ⟨#[]⟩ 0 []) = 0 := rowErr_ok (by rw [chk_var (by omega) (by omega)]) (by simp [vars])
    simp [rowsErr, this]
  have hself : selfAt [.mk 0 ⟨#[]⟩ 0 []] ((0 : Nat) : Int) := ⟨rfl, rfl⟩
  have hg : Good [.mk 0 ⟨#[]⟩ 0 []] ((0 : Nat) : Int) := .mk _ fun v hv => by unfold uses at hv; rw [if_pos hself] at hv; cases hv
  have hg' : ∀ i : Nat, i < [Ty.mk 0 ⟨#[]⟩ 0 []].length → Good [.mk 0 ⟨#[]⟩ 0 []] i := fun i hi => by
    obtain rfl : i = 0 := by simpa using hi
    exact hg
  rw [substErr_sized (S := [.mk 0 ⟨#[]⟩ 0 []]) (by simp) h hg']
  refine sizedErr_ok fun i hi => ?_
  obtain rfl : i = 0 := by simpa using hi
  rw [szOf_spec _ _ hg, if_pos hself]
  decide

/-! The rounds -/
/-- nothing more can be settled -/
def Stuck (S : List Ty) (zs : List Int) (i : Nat) : Prop := ∀ j : Nat, j < i → zs.getD j 0 ≠ 0 ∨ ∃ v ∈ uses S j, zs.getD v.toNat 0 = 0
def ZInv (S : List Ty) (zs : List Int) : Prop := zs.length = S.length ∧ ∀ j : Nat, j < S.length → zs.getD j 0 = 0 ∨ (Good S j ∧ zs.getD j 0 = szOf S j)
theorem stuck_good {S : List Ty} (hR : Rows1 S) {zs : List Int} (h : Stuck S zs S.length) {i : Int} (g : Good S i) : 0 ≤ i → i < S.length → zs.getD i.toNat 0 ≠ 0 := by
  induction g with
  | mk i hg ih =>
    intro h0 h1
    obtain ⟨n, rfl⟩ := Int.eq_ofNat_of_zero_le h0
    rw [Int.toNat_natCast]
    rcases h n (by omega) with h | ⟨v, hv, hz⟩
    · exact h
    · have hv' : v ∈ vars (at' S n) := by
        unfold uses at hv
        split at hv
        · cases hv
        · exact hv
      have := hR.vars n (by omega) v hv'
      exact absurd hz (ih v hv this.1 this.2)
theorem zinv_set {S : List Ty} {zs : List Int} (h : ZInv S zs) {i : Nat} (hi : i < S.length) (hg : Good S i) : ZInv S (zs.set i (szOf S i)) := by
  refine ⟨by rw [List.length_set]; exact h.1, fun j hj => ?_⟩
  rw [getD_set (by rw [h.1]; exact hi)]
  split
  · rename_i hji; subst hji; exact .inr ⟨hg, rfl⟩
  · exact h.2 j hj
theorem zinv_pos {S : List Ty} {zs : List Int} (h : ZInv S zs) {i : Nat} (hi : i < S.length) (h0 : zs.getD i 0 ≠ 0) : Good S i ∧ zs.getD i 0 = szOf S i ∧ 1 ≤ zs.getD i 0 ∧ zs.getD i 0 ≤ 4097 := by
  rcases h.2 i hi with h1 | ⟨h1, h2⟩
  · exact absurd h1 h0
  · have := (szOf_spec S).bd h1
    exact ⟨h1, h2, by omega, by omega⟩
theorem count_zero {zs : List Int} (h : zs.count 0 = 0) {j : Nat} (hj : j < zs.length) : zs.getD j 0 ≠ 0 := by
  intro h0
  have h1 : (0 : Int) ∈ zs := by rw [← h0]; simp [List.getD, hj]
  have := List.count_pos_iff.2 h1
  omega
theorem count_pos_ex {zs : List Int} (h : 0 < zs.count 0) : ∃ j : Nat, j < zs.length ∧ zs.getD j 0 = 0 := by
  obtain ⟨j, hj, h⟩ := List.getElem_of_mem (List.count_pos_iff.1 h)
  exact ⟨j, hj, by simp [List.getD, hj, h]⟩
end Go.Proofs.YtoafghnieebimaaDoor
