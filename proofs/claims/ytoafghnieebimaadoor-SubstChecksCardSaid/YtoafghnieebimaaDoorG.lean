/- Plain facts on types: how many nodes a checked type has; lengths of lists of variables. -/
import Derived.Test.YtoafghnieebimaaDoorS
namespace Go.Proofs.YtoafghnieebimaaDoor
mutual
/-- the number of nodes -/
def cnt : Ty → Nat
  | .mk _ _ _ ts => cntAll ts + 1
def cntAll : List Ty → Nat
  | [] => 0
  | t :: ts => cnt t + cntAll ts
end
theorem cnt_pos (t : Ty) : 1 ≤ cnt t := by cases t; simp [cnt]
theorem cntAll_mem {ts : List Ty} {t : Ty} (h : t ∈ ts) : cnt t ≤ cntAll ts := by
  induction ts with
  | nil => cases h
  | cons a ts ih =>
    rw [cntAll]
    rcases List.mem_cons.1 h with rfl | h
    · omega
    · have := ih h; omega
theorem cntAll_len (ts : List Ty) : ts.length ≤ cntAll ts := by
  induction ts with
  | nil => simp
  | cons a ts ih => rw [cntAll, List.length_cons]; have := cnt_pos a; omega
theorem cntAll_drop {ts : List Ty} {i : Nat} {t : Ty} (h : ts[i]? = some t) : cntAll (ts.drop i) = cnt t + cntAll (ts.drop (i + 1)) := by
  obtain ⟨hi, rfl⟩ := List.getElem?_eq_some_iff.1 h
  rw [List.drop_eq_getElem_cons hi, cntAll]
mutual
theorem chk_cnt : ∀ (t : Ty) (row : Bool) (depth left : Int), (chk t row depth left).2 = 0 → (chk t row depth left).1 = left - cnt t
  | .mk k n v ts, row, depth, left => by
    rw [chk, cnt]
    split
    · rename_i h; exact fun h' => absurd h' h
    · intro h
      have := chkAll_cnt k ts 0 depth (left - 1) h
      omega
theorem chkAll_cnt (k : Int) : ∀ (ts : List Ty) (i : Nat) (depth left : Int), (chkAll k ts i depth left).2 = 0 → (chkAll k ts i depth left).1 = left - cntAll ts
  | [], i, depth, left => by simp [chkAll, cntAll]
  | t :: ts, i, depth, left => by
    rw [chkAll, cntAll]
    split
    · rename_i h; exact fun h' => absurd h' h
    · rename_i he
      intro h
      have h1 := chk_cnt t (rowed k i t.kind) (depth + 1) left (Decidable.not_not.1 he)
      have h2 := chkAll_cnt k ts (i + 1) depth _ h
      omega
end
theorem headErr_left {k : Int} {n : ByteArray} {v : Int} {m : Nat} {row : Bool} {depth left : Int} (h : headErr k n v m row depth left = 0) : 0 ≤ left := by
  unfold headErr at h
  split at h
  · cases h
  · omega
mutual
theorem chk_nonneg : ∀ (t : Ty) (row : Bool) (depth left : Int), (chk t row depth left).2 = 0 → 0 ≤ (chk t row depth left).1
  | .mk k n v ts, row, depth, left => by
    rw [chk]
    split
    · rename_i h; exact fun h' => absurd h' h
    · rename_i he
      exact chkAll_nonneg k ts 0 depth (left - 1) (headErr_left (Decidable.not_not.1 he))
theorem chkAll_nonneg (k : Int) : ∀ (ts : List Ty) (i : Nat) (depth left : Int), 0 ≤ left → (chkAll k ts i depth left).2 = 0 → 0 ≤ (chkAll k ts i depth left).1
  | [], i, depth, left => by simp [chkAll]
  | t :: ts, i, depth, left => by
    intro hl
    rw [chkAll]
    split
    · rename_i h; exact fun h' => absurd h' h
    · rename_i he
      exact chkAll_nonneg k ts (i + 1) depth _ (chk_nonneg t _ _ _ (Decidable.not_not.1 he))
end
theorem chk_size {t : Ty} {row : Bool} {depth : Int} (h : (chk t row depth 4096).2 = 0) : cnt t ≤ 4096 := by
  have h1 := chk_cnt t row depth 4096 h
  have h2 := chk_nonneg t row depth 4096 h
  omega
theorem headErr_var {n : ByteArray} {v : Int} {m : Nat} {row : Bool} {depth left : Int} (h : headErr 0 n v m row depth left = 0) : 0 ≤ v ∧ v < 4096 := by
  unfold headErr at h
  split at h
  · cases h
  · split at h
    · cases h
    · split at h
      · cases h
      · split at h
        · cases h
        · split at h
          · cases h
          · omega
mutual
theorem chk_vars : ∀ (t : Ty) (row : Bool) (depth left : Int), (chk t row depth left).2 = 0 → ∀ v ∈ vars t, 0 ≤ v ∧ v < 4096
  | .mk k n v ts, row, depth, left => by
    rw [chk, vars]
    split
    · rename_i h; exact fun h' => absurd h' h
    · rename_i he
      intro h x hx
      split at hx
      · rename_i hk
        subst hk
        obtain rfl : x = v := by simpa using hx
        exact headErr_var (Decidable.not_not.1 he)
      · exact chkAll_vars k ts 0 depth (left - 1) h x hx
theorem chkAll_vars (k : Int) : ∀ (ts : List Ty) (i : Nat) (depth left : Int), (chkAll k ts i depth left).2 = 0 → ∀ v ∈ varsAll ts, 0 ≤ v ∧ v < 4096
  | [], i, depth, left => by intro _ x hx; simp [varsAll] at hx
  | t :: ts, i, depth, left => by
    rw [chkAll, varsAll]
    split
    · rename_i h; exact fun h' => absurd h' h
    · rename_i he
      intro h x hx
      rcases List.mem_append.1 hx with hx | hx
      · exact chk_vars t _ _ _ (Decidable.not_not.1 he) x hx
      · exact chkAll_vars k ts (i + 1) depth _ h x hx
end

theorem addNew_len (vs : List Int) : ∀ out : List Int, (addNew out vs).length ≤ out.length + vs.length := by
  induction vs with
  | nil => intro out; simp [addNew]
  | cons v vs ih =>
    intro out
    rw [addNew]
    have := ih (if v ∈ out then out else out ++ [v])
    have h2 : (if v ∈ out then out else out ++ [v]).length ≤ out.length + 1 := by split <;> simp
    simp only [List.length_cons]
    omega
theorem freeAll_len {ts : List Ty} (ih : ∀ t ∈ ts, (freeL t).length ≤ cnt t) : ∀ out : List Int, (freeAll ts out).length ≤ out.length + cntAll ts := by
  induction ts with
  | nil => intro out; simp [freeAll, cntAll]
  | cons t ts ihl =>
    intro out
    rw [freeAll, cntAll]
    have h1 := ihl (fun t' ht => ih t' (List.mem_cons_of_mem _ ht)) (addNew out (freeL t))
    have h2 := addNew_len (freeL t) out
    have h3 := ih t List.mem_cons_self
    omega
theorem freeL_len : ∀ t : Ty, (freeL t).length ≤ cnt t := by
  apply Ty.ind
  intro k n v ts ih
  rw [freeL, cnt]
  split
  · simp
  · have := freeAll_len ih []
    simp at this
    omega
theorem seenAll_len {ts : List Ty} (ih : ∀ t ∈ ts, ∀ s, (seenL t s).length ≤ s.length + cnt t) : ∀ s : List Int, (seenAll ts s).length ≤ s.length + cntAll ts := by
  induction ts with
  | nil => intro s; simp [seenAll, cntAll]
  | cons t ts ihl =>
    intro s
    rw [seenAll, cntAll]
    have h1 := ihl (fun t' ht => ih t' (List.mem_cons_of_mem _ ht)) (seenL t s)
    have h2 := ih t List.mem_cons_self s
    omega
theorem seenL_len : ∀ (t : Ty) (s : List Int), (seenL t s).length ≤ s.length + cnt t := by
  apply Ty.ind
  intro k n v ts ih s
  rw [seenL, cnt]
  split
  · split <;> simp
  · have := seenAll_len ih s
    omega
-- the rest of a loop
theorem freeAll_step {ts : List Ty} {i : Nat} {t : Ty} (h : ts[i]? = some t) (out : List Int) : freeAll (ts.drop i) out = freeAll (ts.drop (i + 1)) (addNew out (freeL t)) := by
  obtain ⟨hi, rfl⟩ := List.getElem?_eq_some_iff.1 h
  rw [List.drop_eq_getElem_cons hi, freeAll]
theorem freeAll_end {ts : List Ty} {i : Nat} (h : ts.length ≤ i) (out : List Int) : freeAll (ts.drop i) out = out := by
  rw [List.drop_eq_nil_of_le h, freeAll]
theorem addNew_step {vs : List Int} {j : Nat} (h : j < vs.length) (out : List Int) : addNew out (vs.drop j) = addNew (if vs.getD j 0 ∈ out then out else out ++ [vs.getD j 0]) (vs.drop (j + 1)) := by
  rw [List.drop_eq_getElem_cons h, addNew]
  simp [List.getD, h]
theorem addNew_end {vs : List Int} {j : Nat} (h : vs.length ≤ j) (out : List Int) : addNew out (vs.drop j) = out := by
  rw [List.drop_eq_nil_of_le h, addNew]
theorem seenAll_step {ts : List Ty} {i : Nat} {t : Ty} (h : ts[i]? = some t) (s : List Int) : seenAll (ts.drop i) s = seenAll (ts.drop (i + 1)) (seenL t s) := by
  obtain ⟨hi, rfl⟩ := List.getElem?_eq_some_iff.1 h
  rw [List.drop_eq_getElem_cons hi, seenAll]
theorem seenAll_end {ts : List Ty} {i : Nat} (h : ts.length ≤ i) (s : List Int) : seenAll (ts.drop i) s = s := by
  rw [List.drop_eq_nil_of_le h, seenAll]
theorem filAll_step {sz : Int → Int} {ts : List Ty} {i : Nat} {t : Ty} (h : ts[i]? = some t) (n : Int) : filAll sz (ts.drop i) n = filAll sz (ts.drop (i + 1)) (min (n + fil sz t) 4097) := by
  obtain ⟨hi, rfl⟩ := List.getElem?_eq_some_iff.1 h
  rw [List.drop_eq_getElem_cons hi, filAll]
theorem filAll_end {sz : Int → Int} {ts : List Ty} {i : Nat} (h : ts.length ≤ i) (n : Int) : filAll sz (ts.drop i) n = n := by
  rw [List.drop_eq_nil_of_le h, filAll]
end Go.Proofs.YtoafghnieebimaaDoor
