/- cyclic. -/
import Derived.Test.YtoafghnieebimaaDoorK
import Derived.Shelf.Abstract
namespace Go.Proofs.YtoafghnieebimaaDoor
open Go.RowKit

theorem count_le : ∀ (a b : List Int), a.length = b.length → (∀ j, j < a.length → a.getD j 0 ≠ 0 → b.getD j 0 ≠ 0) → b.count 0 ≤ a.count 0
  | [], [], _, _ => by simp
  | x :: a, y :: b, hl, h => by
    have h1 := count_le a b (by simpa using hl) (fun j hj h' => by have := h (j + 1) (by simpa using hj); simpa [List.getD] using this (by simpa [List.getD] using h'))
    have h0 := h 0 (by simp)
    simp only [List.getD, List.getElem?_cons_zero, Option.getD_some] at h0
    rw [List.count_cons, List.count_cons]
    by_cases hx : x = 0
    · by_cases hy : y = 0 <;> simp [hx, hy] <;> omega
    · have := h0 hx; simp [hx, this]; exact h1
theorem count_set : ∀ (a : List Int) (v : Nat) (x : Int), v < a.length → a.getD v 0 = 0 → x ≠ 0 → (a.set v x).count 0 + 1 = a.count 0
  | y :: a, 0, x, _, h, hx => by
    simp only [List.getD, List.getElem?_cons_zero, Option.getD_some] at h
    subst h
    simp [List.set, hx]
  | y :: a, v + 1, x, hv, h, hx => by
    have := count_set a v x (by simpa using hv) (by simpa [List.getD] using h) hx
    simp only [List.set, List.count_cons]
    omega
theorem getD_set {l : List Int} {i j : Nat} {x : Int} (hi : i < l.length) : (l.set i x).getD j 0 = if j = i then x else l.getD j 0 := by
  by_cases h : j = i
  · subst h; simp [List.getD, hi]
  · rw [if_neg h]; simp [List.getD, show ¬ i = j from fun h' => h h'.symm]

/-- What is known of the states: 2 means good. -/
def CycInv (S : List Ty) (st : List Int) : Prop := ∀ j : Nat, j < st.length → 0 ≤ st.getD j 0 ∧ (st.getD j 0 = 2 → Good S j) ∧ st.getD j 0 ≤ 2
def Grey (S : List Ty) (st : List Int) (v : Int) : Prop := ∀ j : Nat, j < st.length → st.getD j 0 = 1 → Leads S j v
structure CycEnd (S : List Ty) (v : Int) (st st' : List Int) : Prop where
  good : Good S v
  inv : CycInv S st'
  grey : ∀ j : Nat, st'.getD j 0 = 1 ↔ st.getD j 0 = 1
  mono : ∀ j : Nat, st.getD j 0 ≠ 0 → st'.getD j 0 ≠ 0
def CycPost (S : List Ty) (v : Int) (st : List Int) (Ab : Nat) (w : World) (e : Ending) (w' : World) : Prop :=
  ∃ b : Bool, ∃ st' : List Int, e = .returned (.bool b) ∧ st'.length = st.length ∧ RowAt w' Ab 0 st' ∧ w.grownBy w' (some Ab) ∧ (b = true → ∃ j : Nat, j < S.length ∧ ¬ Good S j) ∧ (b = false → CycEnd S v st st')

/-- The closure: it calls cyclic with what it has captured. -/
theorem enters83 : ∀ args w, (callFunc 83 args).run Tryd.prog w = .ok (.enter 83 args) w := enters_of Tryd.func83 (by kernel_rfl) rfl
set_option maxHeartbeats 400000 in
theorem cyc83_any (S : List Ty) (v : Int) (st : List Int) (Ab : Nat) (As : Option Addr) (n cs co N M : Nat) (w : World) (h0 : w.cell? ⟨N, 0, none⟩ = some (.slice As n cs)) (h1 : w.cell? ⟨M, 0, none⟩ = some (.slice (some ⟨Ab, 0, none⟩) n co))
    (hc : Calls Tryd.prog 52 #[.slice As n cs, .slice (some ⟨Ab, 0, none⟩) n co, .int .i64 v] w fun e w' => CycPost S v st Ab w e w') :
    Calls Tryd.prog 83 #[.int .i64 v, .pointer (some ⟨N, 0, none⟩), .pointer (some ⟨M, 0, none⟩)] w fun e w' => CycPost S v st Ab w e w' := by
  have HC := Lib.hid hc; clear hc
  go_enter Tryd.func83, Tryd.ntmps83
  go_wp2_with fail
  refine HC.out.mono ?_
  rintro e w' ⟨b, st', rfl, h⟩
  have H := Lib.hid h; clear h
  go_wp2_with fail
  go_ret
  exact ⟨b, st', rfl, H.out⟩

def CycSays (S : List Ty) (k : Nat) : Prop := ∀ (u : Nat) (st : List Int) (As : Option Addr) (cs co Ab B : Nat) (w : World), st.count 0 ≤ k → u < S.length → st.length = S.length → B ≤ Ab → Ab < w.heap.size → ArgsAt w (· < B) As S → RowAt w Ab 0 st → CycInv S st → Grey S st u →
      Calls Tryd.prog 52 #[.slice As S.length cs, .slice (some ⟨Ab, 0, none⟩) S.length co, .int .i64 u] w fun e w' => CycPost S u st Ab w e w'

theorem cyc_done {S : List Ty} {u : Nat} {st : List Int} {Ab : Nat} {w w' : World} (hu : u < S.length) (hsl : st.length = S.length) (hinv : CycInv S st) (hgrey : Grey S st u) (hrow : RowAt w' Ab 0 st) (hg : w.grownBy w' (some Ab)) (h : 0 < st.getD u 0 ∨ selfAt S u) :
    CycPost S u st Ab w (.returned (.bool (st.getD u 0 == 1))) w' := by
  refine ⟨_, st, rfl, rfl, hrow, hg, fun hb => ⟨u, hu, ?_⟩, fun hb => ⟨?_, hinv, fun j => Iff.rfl, fun j hj => hj⟩⟩
  · have h1 : st.getD u 0 = 1 := by simpa using hb
    exact not_good_of_cycle (hgrey u (by omega) h1)
  · have h1 : st.getD u 0 ≠ 1 := by simpa using hb
    have h2 := hinv u (by omega)
    rcases h with h | h
    · exact h2.2.1 (by omega)
    · exact .mk _ (fun v hv => by unfold uses at hv; rw [if_pos h] at hv; cases hv)

/-- what holds in the middle: k of the variables are good -/
structure Mid (S : List Ty) (fs st1 : List Int) (Ab : Nat) (W0 : World) (k : Nat) (W : World) (st : List Int) : Prop where
  len : st.length = st1.length
  row : RowAt W Ab 0 st
  inv : CycInv S st
  grey : ∀ j : Nat, st.getD j 0 = 1 ↔ st1.getD j 0 = 1
  mono : ∀ j : Nat, st1.getD j 0 ≠ 0 → st.getD j 0 ≠ 0
  grown : W0.grownBy W (some Ab)
  good : ∀ j, j < k → Good S (fs.getD j 0)

theorem cyc_end {S : List Ty} {u : Nat} {st fs : List Int} {Ab : Nat} {w2 w3 : World} {st3 : List Int} {t : Ty} (hu : u < S.length) (hsl : st.length = S.length) (hst : st.getD u 0 = 0) (hus : uses S (u : Int) = vars t) (hfs : ∀ x, x ∈ fs ↔ x ∈ vars (at' S u)) (M : Mid S fs (st.set u 1) Ab w2 fs.length w3 st3) (hat : at' S u = t) :
    CycEnd S u st (st3.set u 2) := by
  have hl3 : st3.length = S.length := M.len.trans (by rw [List.length_set]; exact hsl)
  have hg : Good S u := .mk _ fun v hv => by
    rw [hus, ← hat] at hv
    obtain ⟨j, hj, rfl⟩ := List.getElem_of_mem ((hfs v).2 hv)
    have := M.good j hj
    simpa [List.getD, hj] using this
  refine ⟨hg, fun j hj => ?_, fun j => ?_, fun j h => ?_⟩
  · rw [List.length_set] at hj
    rw [getD_set (by omega)]
    split
    · rename_i hju; exact ⟨by omega, fun _ => by rw [hju]; exact hg, by omega⟩
    · exact M.inv j hj
  · rw [getD_set (by omega)]
    split
    · rename_i hju; subst hju; rw [hst]; omega
    · rename_i hju
      have := M.grey j
      rw [getD_set (by omega), if_neg hju] at this
      exact this
  · rw [getD_set (by omega)]
    split
    · omega
    · rename_i hju
      refine M.mono j ?_
      rw [getD_set (by omega), if_neg hju]
      exact h
def CycI (S : List Ty) (fs st1 : List Int) (Ab : Nat) (w2 : World) (k : Nat) (W : World) : Prop := ∃ st, Mid S fs st1 Ab w2 k W st
def CycJ (S : List Ty) (st1 : List Int) (Ab : Nat) (w2 : World) (_ : Nat) (W : World) : Prop := (∃ j : Nat, j < S.length ∧ ¬ Good S j) ∧ ∃ st', st'.length = st1.length ∧ RowAt W Ab 0 st' ∧ w2.grownBy W (some Ab)
theorem cyc_contains (S : List Ty) (hS : ∀ i : Nat, i < S.length → ∀ x ∈ vars (at' S i), 0 ≤ x ∧ x < S.length) (k : Nat) (ih : ∀ k', k' < k → CycSays S k') (u : Nat) (hu : u < S.length) (fs st : List Int) (hfs : ∀ x, x ∈ fs ↔ x ∈ vars (at' S u)) (hus : uses S (u : Int) = vars (at' S u))
    (hst : st.getD u 0 = 0) (hsl : st.length = S.length) (hk : st.count 0 ≤ k) (hinv : CycInv S st) (hgrey : Grey S st u) (As A2 : Option Addr) (cs c2 co Ab B N M g off : Nat) (w2 : World) (hB : B ≤ Ab) (hAb : Ab < w2.heap.size) (hr : ArgsAt w2 (· < B) As S) (hrow : RowAt w2 Ab 0 (st.set u 1))
    (h0 : w2.cell? ⟨N, 0, none⟩ = some (.slice As S.length cs)) (h1 : w2.cell? ⟨M, 0, none⟩ = some (.slice (some ⟨Ab, 0, none⟩) S.length co)) (hN : N < w2.heap.size ∧ N ≠ Ab) (hM : M < w2.heap.size ∧ M ≠ Ab)
    (hl : fs.length ≤ 9223372036854775807) (hlist : 0 < fs.length → A2 = some ⟨g, off, none⟩ ∧ g < w2.heap.size ∧ g ≠ Ab ∧ ∀ j, j < fs.length → w2.cell? ⟨g, off + j, none⟩ = some (.int .i64 (fs.getD j 0))) :
    Calls Tryd.prog 9 #[.slice A2 fs.length c2, .func (.func 83) #[] #[.pointer (some ⟨N, 0, none⟩), .pointer (some ⟨M, 0, none⟩)]] w2 fun e w' => CfPost fs.length (CycI S fs (st.set u 1) Ab w2) (CycJ S (st.set u 1) Ab w2) e w' := by
  refine containsFunc_any 83 _ enters83 A2 c2 fs _ _ w2 hl ?_ ?_ ?_
  · refine ⟨st.set u 1, rfl, hrow, fun j hj => ?_, fun j => Iff.rfl, fun j hj => hj, Gb.refl _ _, fun j hj => by omega⟩
    rw [List.length_set] at hj
    rw [getD_set (by omega)]
    split
    · exact ⟨by omega, fun h => by omega, by omega⟩
    · exact hinv j hj
  · rintro i W hi ⟨stk, Mk⟩
    obtain ⟨rfl, h2, h3, h4⟩ := hlist (by omega)
    exact ⟨g, off, rfl, (gcell Mk.grown h2 (by intro e; cases e; exact h3 rfl) _).trans (h4 i hi)⟩
  · rintro i W hi ⟨stk, Mk⟩
    have hmem : fs.getD i 0 ∈ fs := by simp [List.getD, hi]
    have hx := hS u hu _ ((hfs _).1 hmem)
    have hxu : fs.getD i 0 ∈ uses S (u : Int) := by rw [hus]; exact (hfs _).1 hmem
    generalize hy : fs.getD i 0 = y at *
    obtain ⟨y', rfl⟩ := Int.eq_ofNat_of_zero_le hx.1
    have hlen : stk.length = S.length := by rw [Mk.len, List.length_set]; exact hsl
    have hcnt : stk.count 0 < k := by
      have a1 := count_set st u 1 (by omega) hst (by decide)
      have a2 := count_le (st.set u 1) stk Mk.len.symm (fun j _ h => Mk.mono j h)
      omega
    have hg : Grey S stk (y' : Int) := by
      intro j hj h
      have h1 := (Mk.grey j).1 h
      rw [getD_set (by omega)] at h1
      split at h1
      · rename_i hju
        subst hju
        exact .one hxu
      · exact .step (hgrey j (by omega) h1) hxu
    have hc := ih (stk.count 0) hcnt y' stk As cs co Ab B W (Nat.le_refl _) (by omega) hlen hB (by have := Mk.grown.size; omega) (hr.keep fun b hb => ⟨hb, Mk.grown.block b (by omega) (by intro e; cases e; omega)⟩) Mk.row Mk.inv hg
    refine (cyc83_any S y' stk Ab As S.length cs co N M W ((gcell Mk.grown hN.1 (by intro e; cases e; exact hN.2 rfl) _).trans h0) ((gcell Mk.grown hM.1 (by intro e; cases e; exact hM.2 rfl) _).trans h1) hc).mono ?_
    rintro e w' ⟨b, st', rfl, hl', hr', hg', ht, hf⟩
    cases b with
    | true => exact .inr ⟨rfl, ht rfl, st', hl'.trans Mk.len, hr', Gb.trans Mk.grown hg'⟩
    | false =>
      have hE := hf rfl
      refine .inl ⟨rfl, st', hl'.trans Mk.len, hr', hE.inv, fun j => (hE.grey j).trans (Mk.grey j), fun j h => hE.mono j (Mk.mono j h), Gb.trans Mk.grown hg', fun j hj => ?_⟩
      by_cases hji : j = i
      · subst hji; rw [hy]; exact hE.good
      · exact Mk.good j (by omega)

set_option maxRecDepth 100000 in
set_option maxHeartbeats 4000000 in
theorem cyclic_step (S : List Ty) (hS : ∀ i : Nat, i < S.length → ∀ x ∈ vars (at' S i), 0 ≤ x ∧ x < S.length) (hcnt : ∀ i : Nat, i < S.length → cnt (at' S i) ≤ 1000000) (_hl : S.length ≤ 4096) (k : Nat) (ih : ∀ k', k' < k → CycSays S k') : CycSays S k := by
  intro u st As cs co Ab B w hk hu hsl hB hAb hr hrow hinv hgrey
  have hmf : ∀ (fn : Fn) (first cap : Array Value) (w : World), (Instr.makeFunc fn first cap).run Tryd.prog w = .ok (.func fn first cap) w := fun _ _ _ _ => rfl
  rcases hr.elem with h | ⟨b', off', hAeq, hel⟩
  · omega
  subst hAeq
  obtain ⟨k1, n1, v1, us, A1, c1, ht, hb1, e0, e1, e2, e3, hA1, _⟩ := hel u hu
  clear hel
  have hat : at' S (u : Int) = .mk k1 n1 v1 us := by unfold at'; simp [List.getD, ht]
  have hself : selfAt S (u : Int) ↔ k1 = 0 ∧ v1 = (u : Int) := by unfold selfAt; rw [hat]; rfl
  have HS := Lib.hid hself; clear hself
  have hstu := hrow u (by omega)
  have hiu := (hinv u (by omega)).1
  obtain ⟨W, hW⟩ : ∃ W : World, W = (w.alloc (.cells #[.slice (some ⟨b', off', none⟩) S.length cs] 23)).alloc (.cells #[.slice (some ⟨Ab, 0, none⟩) S.length co] 30) := ⟨_, rfl⟩
  have hg : Below w.heap.size w W := by rw [hW]; exact ((Below.refl _ _).alloc (Nat.le_refl _) _).alloc (by simp) _
  have c0 : W.cell? ⟨w.heap.size, 0, none⟩ = some (.slice (some ⟨b', off', none⟩) S.length cs) := by rw [hW]; simp [go_sem]
  have c9 : W.cell? ⟨w.heap.size + 1, 0, none⟩ = some (.slice (some ⟨Ab, 0, none⟩) S.length co) := by rw [hW]; simp [go_sem]
  have hzW : W.heap.size = w.heap.size + 2 := by rw [hW]; simp
  have hc : ∀ {b o : Nat} {x : Value}, w.cell? ⟨b, o, none⟩ = some x → W.cell? ⟨b, o, none⟩ = some x := fun h => (hg.cell (World.block_lt_of_cell? _ _ h)).trans h
  have e0 := hc e0
  have e1 := hc e1
  have e2 := hc e2
  have e3 := hc e3
  have s0 := hc hstu.1
  have s1 : W.frozen? ⟨Ab, 0 + u, none⟩ = false := (hg.frozen (p := ⟨Ab, 0 + u, none⟩) hAb).trans hstu.2
  rw [Nat.zero_add] at s0 s1
  have hrow1 := hrow.keep (hg.block Ab hAb)
  have hu' : (u : Int) < (S.length : Int) := by omega
  have hu0 : (0 : Int) ≤ (u : Int) := by omega
  clear hstu hc
  have HG := Lib.hid hg; clear hg
  have HZ := Lib.hid hzW; clear hzW
  have HD := Lib.hid (fun (h : 0 < st.getD u 0 ∨ selfAt S u) => cyc_done hu hsl hinv hgrey hrow1 (below_grown HG.out _) h)
  have HROW := Lib.hid hrow1; clear hrow1 hrow
  have HINV := Lib.hid hinv; clear hinv
  have HGREY := Lib.hid hgrey; clear hgrey
  have HIH := Lib.hid ih; clear ih
  have HR := Lib.hid hr; clear hr
  generalize hx : st.getD u 0 = x at *
  have HX := Lib.hid hx; clear hx
  by_cases hx0 : 0 < x
  · have hp : Hid (0 < x) := hx0
    go_enter Tryd.func52, Tryd.ntmps52
    go_upto_region 1 with fail
    rw [← hW]
    clear hW
    go_wp2_with fail
    go_ret
    exact HD.out (.inl hp.out)
  have hx0' : x = 0 := by omega
  subst hx0'
  clear hx0 hiu
  by_cases hs : k1 = 0 ∧ v1 = (u : Int)
  · have hp := Lib.hid (HS.out.2 hs)
    obtain ⟨rfl, rfl⟩ := hs
    go_enter Tryd.func52, Tryd.ntmps52
    go_upto_region 1 with fail
    rw [← hW]
    clear hW
    go_wp2_with fail
    go_ret
    exact HD.out (.inr hp.out)
  have HSN := Lib.hid (fun h => hs (HS.out.1 h))
  have hs' : (k1 == 0) = false ∨ (k1 = 0 ∧ (v1 == (u : Int)) = false) := by
    by_cases h : k1 = 0
    · exact .inr ⟨h, by rw [beq_eq_false_iff_ne]; exact fun h2 => hs ⟨h, h2⟩⟩
    · exact .inl (by rw [beq_eq_false_iff_ne]; exact h)
  clear hs HD HS
  have hus : uses S (u : Int) = vars (.mk k1 n1 v1 us) := by unfold uses; rw [if_neg HSN.out, hat]
  have hz : Ab < W.heap.size := by have := HZ.out; omega
  obtain ⟨W1, hW1⟩ : ∃ W1 : World, W1 = W.setCell ⟨Ab, u, none⟩ (.int .i64 1) := ⟨_, rfl⟩
  have hg1 : W.grownBy W1 (some Ab) := by rw [hW1]; exact Gb.set (Gb.refl _ _) _ _
  have hr1 : RowAt W1 Ab 0 (st.set u 1) := by have := HROW.out.set u (by omega) 1; rw [Nat.zero_add] at this; rw [hW1]; exact this
  have hz1 : W1.heap.size = W.heap.size := by rw [hW1]; simp
  have c0' : W1.cell? ⟨w.heap.size, 0, none⟩ = some (.slice (some ⟨b', off', none⟩) S.length cs) := (gcell hg1 (by have := HZ.out; omega) (by intro e; cases e; omega) 0).trans c0
  have c9' : W1.cell? ⟨w.heap.size + 1, 0, none⟩ = some (.slice (some ⟨Ab, 0, none⟩) S.length co) := (gcell hg1 (by have := HZ.out; omega) (by intro e; cases e; omega) 0).trans c9
  have ec : ∀ {o : Nat} {y : Value}, W.cell? ⟨b', o, none⟩ = some y → W1.cell? ⟨b', o, none⟩ = some y := fun h => (gcell hg1 (by omega) (by intro e; cases e; omega) _).trans h
  have e0' := ec e0
  have e1' := ec e1
  have e2' := ec e2
  have e3' := ec e3
  have hAW : ArgsAt W1 (· < B) A1 us := hA1.keep fun b hb => ⟨hb, (hg1.block b (by have := HZ.out; omega) (by intro e; cases e; omega)).trans (HG.out.block b (by omega))⟩
  have hRW : ArgsAt W1 (· < B) (some ⟨b', off', none⟩) S := HR.out.keep fun b hb => ⟨hb, (hg1.block b (by have := HZ.out; omega) (by intro e; cases e; omega)).trans (HG.out.block b (by omega))⟩
  have hfree := free_says (.mk k1 n1 v1 us) A1 c1 B W1 (by omega) (by rw [← hat]; exact hcnt u hu) hAW
  replace hfree : Calls Tryd.prog 50 #[.agg #[.int .i64 k1, .string n1, .int .i64 v1, .slice A1 us.length c1]] W1 fun e w' => FreePost (.mk k1 n1 v1 us) W1 e w' := hfree
  have hfm := mem_freeL (.mk k1 n1 v1 us)
  unfold FreePost at hfree
  generalize freeL (.mk k1 n1 v1 us) = fs at *
  have HFM := Lib.hid hfm; clear hfm
  have HFREE := Lib.hid hfree; clear hfree
  have HG1 := Lib.hid hg1; clear hg1
  have HR1 := Lib.hid hr1; clear hr1
  have HRW := Lib.hid hRW; clear hRW
  clear ec hAW hA1 HROW
  have hcf : ∀ (A2 : Option Addr) (c2 : Nat) (w2 : World), OwnI w2 W1.heap.size (.slice A2 fs.length c2) fs → Below W1.heap.size W1 w2 → IntsAt w2 (fun b => Value.ownBlock (.slice A2 fs.length c2) = some b) A2 fs → fs.length ≤ 9223372036854775807 →
      Calls Tryd.prog 9 #[.slice A2 fs.length c2, .func (.func 83) #[] #[.pointer (some ⟨w.heap.size, 0, none⟩), .pointer (some ⟨w.heap.size + 1, 0, none⟩)]] w2 fun e w' => CfPost fs.length (CycI S fs (st.set u 1) Ab w2) (CycJ S (st.set u 1) Ab w2) e w' := by
    intro A2 c2 w2 ho hb hi hlen
    have hz' := HZ.out
    have hzb := hb.size
    by_cases h0 : 0 < fs.length
    · obtain ⟨g, off, hA2, hg, hcc⟩ := hi.2 h0
      have hgl := ho.lt g hg
      refine cyc_contains S hS k HIH.out u hu fs st (by rw [hat]; exact HFM.out) (by rw [hat]; exact hus) HX.out hsl hk HINV.out HGREY.out _ A2 cs c2 co Ab B _ _ g off w2 hB (by omega) (HRW.out.keep fun b hb' => ⟨hb', hb.block b (by omega)⟩) (HR1.out.keep (hb.block Ab (by omega)))
        ((hb.cell (p := ⟨w.heap.size, 0, none⟩) (by show w.heap.size < _; omega)).trans c0') ((hb.cell (p := ⟨w.heap.size + 1, 0, none⟩) (by show w.heap.size + 1 < _; omega)).trans c9') ⟨by omega, by omega⟩ ⟨by omega, by omega⟩ hlen (fun _ => ⟨hA2, hgl.2, by omega, hcc⟩)
    · refine cyc_contains S hS k HIH.out u hu fs st (by rw [hat]; exact HFM.out) (by rw [hat]; exact hus) HX.out hsl hk HINV.out HGREY.out _ A2 cs c2 co Ab B _ _ 0 0 w2 hB (by omega) (HRW.out.keep fun b hb' => ⟨hb', hb.block b (by omega)⟩) (HR1.out.keep (hb.block Ab (by omega)))
        ((hb.cell (p := ⟨w.heap.size, 0, none⟩) (by show w.heap.size < _; omega)).trans c0') ((hb.cell (p := ⟨w.heap.size + 1, 0, none⟩) (by show w.heap.size + 1 < _; omega)).trans c9') ⟨by omega, by omega⟩ ⟨by omega, by omega⟩ hlen (fun h => absurd h h0)
  have HCF := Lib.hid hcf; clear hcf
  rcases hs' with hkb | ⟨hk0, hvb⟩
  · go_enter Tryd.func52, Tryd.ntmps52
    go_upto_region 1 with fail
    rw [← hW]
    clear hW
    go_upto_region 4 with fail
    rw [← hW1]
    clear hW1
    go_wp2_with fail
    refine HFREE.out.mono ?_
    rintro e w2 ⟨v2, rfl, ho2, hb2⟩
    obtain ⟨A2, c2, rfl, hi2, hl2⟩ := ho2.slice
    have hc := HCF.out A2 c2 w2 ho2 hb2 hi2 hl2
    have HC := Lib.hid hc; clear hc
    have HB2 := Lib.hid hb2; clear hb2
    clear ho2 hi2
    go_wp2_with fail
    refine HC.out.mono ?_
    rintro e w3 (⟨rfl, st3, M3⟩ | ⟨kk, hkk, rfl, hJ, st3, hl3, hr3, hg3⟩)
    · have hl3 : st3.length = S.length := M3.len.trans (by rw [List.length_set]; exact hsl)
      have r3 := M3.row u (by omega)
      rw [Nat.zero_add] at r3
      have r31 := r3.1
      have r32 := r3.2
      clear r3
      have z3 : w2.heap.size ≤ w3.heap.size := M3.grown.size
      have z2 : W1.heap.size ≤ w2.heap.size := HB2.out.size
      have zw : w.heap.size + 1 < w2.heap.size := by have := HZ.out; omega
      have g9 : w3.cell? ⟨w.heap.size + 1, 0, none⟩ = some (.slice (some ⟨Ab, 0, none⟩) S.length co) := (gcell M3.grown zw (by intro e; cases e; omega) 0).trans ((HB2.out.cell (p := ⟨w.heap.size + 1, 0, none⟩) (by have := HZ.out; show w.heap.size + 1 < _; omega)).trans c9')
      have HM3 := Lib.hid M3; clear M3
      go_wp2_with fail
      go_ret
      refine ⟨false, st3.set u 2, rfl, by rw [List.length_set]; omega, ?_, ?_, (fun h => nomatch h), fun _ => ?_⟩
      · have := HM3.out.row.set u (by omega) 2
        rw [Nat.zero_add] at this
        exact this
      · exact Gb.set (Gb.trans (below_grown HG.out _) (Gb.trans HG1.out (Gb.trans (below_grown HB2.out _) HM3.out.grown))) _ _
      · exact cyc_end hu hsl HX.out hus (by rw [← hat] at HFM; exact HFM.out) HM3.out hat
    · have HR3 := Lib.hid (And.intro hl3 (And.intro hr3 hg3)); clear hl3 hr3 hg3
      have HJ := Lib.hid hJ; clear hJ
      go_wp2_with fail
      go_ret
      exact ⟨true, st3, rfl, HR3.out.1.trans (List.length_set ..), HR3.out.2.1, Gb.trans (below_grown HG.out _) (Gb.trans HG1.out (Gb.trans (below_grown HB2.out _) HR3.out.2.2)), fun _ => HJ.out, fun h => nomatch h⟩
  · subst hk0
    go_enter Tryd.func52, Tryd.ntmps52
    go_upto_region 1 with fail
    rw [← hW]
    clear hW
    go_upto_region 4 with fail
    rw [← hW1]
    clear hW1
    go_wp2_with fail
    refine HFREE.out.mono ?_
    rintro e w2 ⟨v2, rfl, ho2, hb2⟩
    obtain ⟨A2, c2, rfl, hi2, hl2⟩ := ho2.slice
    have hc := HCF.out A2 c2 w2 ho2 hb2 hi2 hl2
    have HC := Lib.hid hc; clear hc
    have HB2 := Lib.hid hb2; clear hb2
    clear ho2 hi2
    go_wp2_with fail
    refine HC.out.mono ?_
    rintro e w3 (⟨rfl, st3, M3⟩ | ⟨kk, hkk, rfl, hJ, st3, hl3, hr3, hg3⟩)
    · have hl3 : st3.length = S.length := M3.len.trans (by rw [List.length_set]; exact hsl)
      have r3 := M3.row u (by omega)
      rw [Nat.zero_add] at r3
      have r31 := r3.1
      have r32 := r3.2
      clear r3
      have z3 : w2.heap.size ≤ w3.heap.size := M3.grown.size
      have z2 : W1.heap.size ≤ w2.heap.size := HB2.out.size
      have zw : w.heap.size + 1 < w2.heap.size := by have := HZ.out; omega
      have g9 : w3.cell? ⟨w.heap.size + 1, 0, none⟩ = some (.slice (some ⟨Ab, 0, none⟩) S.length co) := (gcell M3.grown zw (by intro e; cases e; omega) 0).trans ((HB2.out.cell (p := ⟨w.heap.size + 1, 0, none⟩) (by have := HZ.out; show w.heap.size + 1 < _; omega)).trans c9')
      have HM3 := Lib.hid M3; clear M3
      go_wp2_with fail
      go_ret
      refine ⟨false, st3.set u 2, rfl, by rw [List.length_set]; omega, ?_, ?_, (fun h => nomatch h), fun _ => ?_⟩
      · have := HM3.out.row.set u (by omega) 2
        rw [Nat.zero_add] at this
        exact this
      · exact Gb.set (Gb.trans (below_grown HG.out _) (Gb.trans HG1.out (Gb.trans (below_grown HB2.out _) HM3.out.grown))) _ _
      · exact cyc_end hu hsl HX.out hus (by rw [← hat] at HFM; exact HFM.out) HM3.out hat
    · have HR3 := Lib.hid (And.intro hl3 (And.intro hr3 hg3)); clear hl3 hr3 hg3
      have HJ := Lib.hid hJ; clear hJ
      go_wp2_with fail
      go_ret
      exact ⟨true, st3, rfl, HR3.out.1.trans (List.length_set ..), HR3.out.2.1, Gb.trans (below_grown HG.out _) (Gb.trans HG1.out (Gb.trans (below_grown HB2.out _) HR3.out.2.2)), fun _ => HJ.out, fun h => nomatch h⟩
theorem cyclic_any (S : List Ty) (hS : ∀ i : Nat, i < S.length → ∀ x ∈ vars (at' S i), 0 ≤ x ∧ x < S.length) (hcnt : ∀ i : Nat, i < S.length → cnt (at' S i) ≤ 1000000) (hl : S.length ≤ 4096) (k : Nat) : CycSays S k := by
  induction k using Nat.strongRecOn with
  | ind k ih => exact cyclic_step S hS hcnt hl k ih
end Go.Proofs.YtoafghnieebimaaDoor
