/- Types as plain data, and what SubstChecks computes, as plain functions. No program in sight. -/
namespace Go.Proofs.YtoafghnieebimaaDoor

inductive Ty where
  | mk (kind : Int) (name : ByteArray) (var : Int) (args : List Ty)
namespace Ty
def kind : Ty → Int | .mk k _ _ _ => k
def name : Ty → ByteArray | .mk _ n _ _ => n
def var : Ty → Int | .mk _ _ v _ => v
def args : Ty → List Ty | .mk _ _ _ ts => ts
end Ty
instance : Inhabited Ty := ⟨.mk 0 ByteArray.empty 0 []⟩

/-- induction on types, with all arguments at once -/
theorem Ty.ind {P : Ty → Prop} (h : ∀ k n v ts, (∀ t ∈ ts, P t) → P (.mk k n v ts)) : ∀ t, P t := by
  intro t
  exact Ty.rec (motive_1 := P) (motive_2 := fun ts => ∀ t ∈ ts, P t) (fun k n v ts ih => h k n v ts ih) (by intro t ht; cases ht)
    (by intro a l ha hl t ht; rcases List.mem_cons.1 ht with rfl | ht; exact ha; exact hl t ht) t

/-- how many arguments a kind has; -1: any -/
def arity (k : Int) : Int := if k = 0 then 0 else if k = 1 then -1 else if k = 2 then 3 else if k = 3 then 1 else if k = 4 then 0 else 2
def rowed (k : Int) (i : Nat) (ak : Int) : Bool := if k = 1 then decide (4 ≤ ak) else decide ((k = 2 ∧ i = 1) ∨ k = 3 ∨ (k = 5 ∧ i = 1))
def headErr (k : Int) (n : ByteArray) (v : Int) (m : Nat) (row : Bool) (depth left : Int) : Int :=
  if left < 0 ∨ 400 < depth then 2
  else if k < 0 ∨ 5 < k then 9
  else if (0 ≤ arity k ∧ (m : Int) ≠ arity k) ∨ (k ≠ 0 ∧ v ≠ 0) ∨ (k ≠ 1 ∧ k ≠ 5 ∧ n.toList.isEmpty = false) then 3
  else if k ≠ 0 ∧ row ≠ decide (4 ≤ k) then 9
  else if k = 0 ∧ (v < 0 ∨ 4096 ≤ v) then 4
  else 0
mutual
/-- the check of a type: how many nodes are left, and the error -/
def chk : Ty → Bool → Int → Int → Int × Int
  | .mk k n v ts, row, depth, left =>
    if headErr k n v ts.length row depth (left - 1) ≠ 0 then (left - 1, headErr k n v ts.length row depth (left - 1)) else chkAll k ts 0 depth (left - 1)
def chkAll (k : Int) : List Ty → Nat → Int → Int → Int × Int
  | [], _, _, left => (left, 0)
  | t :: ts, i, depth, left =>
    let r := chk t (rowed k i t.kind) (depth + 1) left
    if r.2 ≠ 0 then r else chkAll k ts (i + 1) depth r.1
end

mutual
def vars : Ty → List Int
  | .mk k _ v ts => if k = 0 then [v] else varsAll ts
def varsAll : List Ty → List Int
  | [] => []
  | t :: ts => vars t ++ varsAll ts
end
theorem mem_varsAll {ts : List Ty} {x : Int} : x ∈ varsAll ts ↔ ∃ t ∈ ts, x ∈ vars t := by
  induction ts with
  | nil => simp [varsAll]
  | cons t ts ih => simp [varsAll, ih]

def addNew : List Int → List Int → List Int
  | out, [] => out
  | out, v :: vs => addNew (if v ∈ out then out else out ++ [v]) vs
mutual
def freeL : Ty → List Int
  | .mk k _ v ts => if k = 0 then [v] else freeAll ts []
def freeAll : List Ty → List Int → List Int
  | [], out => out
  | t :: ts, out => freeAll ts (addNew out (freeL t))
end
theorem mem_addNew {vs out : List Int} {x : Int} : x ∈ addNew out vs ↔ x ∈ out ∨ x ∈ vs := by
  induction vs generalizing out with
  | nil => simp [addNew]
  | cons v vs ih =>
    rw [addNew, ih]
    by_cases h : v ∈ out
    · rw [if_pos h]; simp only [List.mem_cons]
      constructor
      · rintro (h1 | h1)
        · exact .inl h1
        · exact .inr (.inr h1)
      · rintro (h1 | rfl | h1)
        · exact .inl h1
        · exact .inl h
        · exact .inr h1
    · rw [if_neg h]; simp only [List.mem_append, List.mem_cons, List.not_mem_nil, or_false, or_assoc]
theorem mem_freeAll {ts : List Ty} (ih : ∀ t ∈ ts, ∀ x, x ∈ freeL t ↔ x ∈ vars t) {out : List Int} {x : Int} : x ∈ freeAll ts out ↔ x ∈ out ∨ x ∈ varsAll ts := by
  induction ts generalizing out with
  | nil => simp [freeAll, varsAll]
  | cons t ts ihl =>
    rw [freeAll, ihl (fun t' ht => ih t' (List.mem_cons_of_mem _ ht)), mem_addNew, ih t List.mem_cons_self, varsAll, List.mem_append, or_assoc]
theorem mem_freeL : ∀ (t : Ty) (x : Int), x ∈ freeL t ↔ x ∈ vars t := by
  apply Ty.ind
  intro k n v ts ih x
  rw [freeL, vars]
  split
  · rfl
  · rw [mem_freeAll ih]; simp
mutual
def seenL : Ty → List Int → List Int
  | .mk k _ v ts, seen => if k = 0 then (if v ∈ seen then seen else seen ++ [v]) else seenAll ts seen
def seenAll : List Ty → List Int → List Int
  | [], seen => seen
  | t :: ts, seen => seenAll ts (seenL t seen)
end
theorem mem_seenAll {ts : List Ty} (ih : ∀ t ∈ ts, ∀ x s, x ∈ seenL t s ↔ x ∈ s ∨ x ∈ vars t) {s : List Int} {x : Int} : x ∈ seenAll ts s ↔ x ∈ s ∨ x ∈ varsAll ts := by
  induction ts generalizing s with
  | nil => simp [seenAll, varsAll]
  | cons t ts ihl =>
    rw [seenAll, ihl (fun t' ht => ih t' (List.mem_cons_of_mem _ ht)), ih t List.mem_cons_self, varsAll, List.mem_append, or_assoc]
theorem mem_seenL : ∀ (t : Ty) (x : Int) (s : List Int), x ∈ seenL t s ↔ x ∈ s ∨ x ∈ vars t := by
  apply Ty.ind
  intro k n v ts ih x s
  rw [seenL, vars]
  split
  · by_cases h : v ∈ s
    · rw [if_pos h]; simp only [List.mem_singleton]
      constructor
      · exact .inl
      · rintro (h1 | rfl)
        · exact h1
        · exact h
    · rw [if_neg h]; simp
  · rw [mem_seenAll ih]

mutual
/-- the number of nodes of a type whose variables have so many -/
def fil (sz : Int → Int) : Ty → Int
  | .mk k _ v ts => if k = 0 then sz v else filAll sz ts 1
def filAll (sz : Int → Int) : List Ty → Int → Int
  | [], n => n
  | t :: ts, n => filAll sz ts (min (n + fil sz t) 4097)
end
theorem filAll_congr {f g : Int → Int} {ts : List Ty} (ih : ∀ t ∈ ts, fil f t = fil g t) (n : Int) : filAll f ts n = filAll g ts n := by
  induction ts generalizing n with
  | nil => rfl
  | cons t ts ihl => rw [filAll, filAll, ih t List.mem_cons_self, ihl (fun t' ht => ih t' (List.mem_cons_of_mem _ ht))]
theorem fil_congr {f g : Int → Int} : ∀ t : Ty, (∀ v ∈ vars t, f v = g v) → fil f t = fil g t := by
  apply Ty.ind
  intro k n v ts ih h
  rw [fil, fil]
  rw [vars] at h
  split
  · rename_i h0; rw [if_pos h0] at h; exact h v (by simp)
  · rename_i h0
    rw [if_neg h0] at h
    exact filAll_congr (fun t ht => ih t ht (fun v hv => h v (mem_varsAll.2 ⟨t, ht, hv⟩))) 1
theorem filAll_bd {sz : Int → Int} {ts : List Ty} (ih : ∀ t ∈ ts, 1 ≤ fil sz t ∧ fil sz t ≤ 4097) {n : Int} (h1 : 1 ≤ n) (h2 : n ≤ 4097) : 1 ≤ filAll sz ts n ∧ filAll sz ts n ≤ 4097 := by
  induction ts generalizing n with
  | nil => exact ⟨h1, h2⟩
  | cons t ts ihl =>
    have := ih t List.mem_cons_self
    exact ihl (fun t' ht => ih t' (List.mem_cons_of_mem _ ht)) (by omega) (by omega)
theorem fil_bd {sz : Int → Int} : ∀ t : Ty, (∀ v ∈ vars t, 1 ≤ sz v ∧ sz v ≤ 4097) → 1 ≤ fil sz t ∧ fil sz t ≤ 4097 := by
  apply Ty.ind
  intro k n v ts ih h
  rw [fil]
  rw [vars] at h
  split
  · rename_i h0; rw [if_pos h0] at h; exact h v (by simp)
  · rename_i h0
    rw [if_neg h0] at h
    exact filAll_bd (fun t ht => ih t ht (fun v hv => h v (mem_varsAll.2 ⟨t, ht, hv⟩))) (by omega) (by omega)

/-- a row of types, by the index as a number -/
def at' (S : List Ty) (i : Int) : Ty := S.getD i.toNat default
/-- a variable is free: it stands for itself -/
def selfAt (S : List Ty) (i : Int) : Prop := (at' S i).kind = 0 ∧ (at' S i).var = i
instance (S : List Ty) (i : Int) : Decidable (selfAt S i) := by unfold selfAt; infer_instance
/-- the variables that a variable needs -/
def uses (S : List Ty) (i : Int) : List Int := if selfAt S i then [] else vars (at' S i)
/-- a variable from which no way leads on without an end -/
inductive Good (S : List Ty) : Int → Prop
  | mk (i : Int) : (∀ v ∈ uses S i, Good S v) → Good S i
/-- u leads to v in at least one step -/
inductive Leads (S : List Ty) : Int → Int → Prop
  | one {u v : Int} : v ∈ uses S u → Leads S u v
  | step {u v x : Int} : Leads S u v → x ∈ uses S v → Leads S u x
theorem Leads.trans {S : List Ty} {a b c : Int} (h : Leads S a b) (k : Leads S b c) : Leads S a c := by
  induction k with
  | one h1 => exact .step h h1
  | step _ h1 ih => exact .step ih h1
theorem Good.of_leads {S : List Ty} {a b : Int} (h : Leads S a b) (g : Good S a) : Good S b := by
  induction h with
  | one h1 => obtain ⟨_, g⟩ := g; exact g _ h1
  | step _ h1 ih => obtain ⟨_, g'⟩ := ih; exact g' _ h1
theorem not_good_of_cycle {S : List Ty} {a : Int} (h : Leads S a a) : ¬ Good S a := by
  intro g
  induction g with
  | mk i hg ih =>
    cases h with
    | one h1 => exact ih _ h1 (.one h1)
    | step h1 h2 =>
      -- a leads to v, v uses a; so some first step w of a leads back to w
      have key : ∀ {x y : Int}, Leads S x y → ∃ w ∈ uses S x, w = y ∨ Leads S w y := by
        intro x y hxy
        induction hxy with
        | one h => exact ⟨_, h, .inl rfl⟩
        | step _ h ih =>
          obtain ⟨w, hw, h'⟩ := ih
          refine ⟨w, hw, .inr ?_⟩
          rcases h' with rfl | h'
          · exact .one h
          · exact .step h' h
      obtain ⟨w, hw, h'⟩ := key (.step h1 h2)
      rcases h' with rfl | h'
      · exact ih _ hw (.one hw)
      · exact ih _ hw (.step h' hw)

/-- the first error of the rows, each by itself -/
def rowErr (n : Nat) (t : Ty) : Int := if (chk t (decide (4 ≤ t.kind)) 1 4096).2 ≠ 0 then (chk t (decide (4 ≤ t.kind)) 1 4096).2 else if ∃ v ∈ vars t, (n : Int) ≤ v then 4 else 0
instance (n : Nat) (l : List Int) : Decidable (∃ v ∈ l, (n : Int) ≤ v) := by infer_instance
def rowsErr (n : Nat) : List Ty → Int
  | [] => 0
  | t :: ts => if rowErr n t ≠ 0 then rowErr n t else rowsErr n ts

/-- sizes that fit -/
def Sizes (S : List Ty) (sz : Int → Int) : Prop := ∀ i : Int, Good S i → sz i = if selfAt S i then 1 else fil sz (at' S i)
def szk (S : List Ty) : Nat → Int → Int
  | 0, _ => 0
  | k + 1, i => if selfAt S i then 1 else fil (szk S k) (at' S i)
theorem exists_sup (l : List Int) (P : Int → Nat → Prop) (mono : ∀ v a b, a ≤ b → P v a → P v b) (h : ∀ v ∈ l, ∃ K, P v K) : ∃ K, ∀ v ∈ l, P v K := by
  induction l with
  | nil => exact ⟨0, by intro v hv; cases hv⟩
  | cons a l ih =>
    obtain ⟨K, hK⟩ := ih (fun v hv => h v (List.mem_cons_of_mem _ hv))
    obtain ⟨K', hK'⟩ := h a List.mem_cons_self
    refine ⟨max K K', fun v hv => ?_⟩
    rcases List.mem_cons.1 hv with rfl | hv
    · exact mono _ _ _ (by omega) hK'
    · exact mono _ _ _ (by omega) (hK v hv)
theorem szk_stable {S : List Ty} {i : Int} (g : Good S i) : ∃ K, ∀ k, K ≤ k → szk S k i = szk S K i := by
  induction g with
  | mk i hg ih =>
    by_cases hs : selfAt S i
    · exact ⟨1, fun k hk => by obtain ⟨k', rfl⟩ : ∃ k', k = k' + 1 := ⟨k - 1, by omega⟩; simp [szk, hs]⟩
    · have hu : uses S i = vars (at' S i) := by simp [uses, hs]
      obtain ⟨K, hK⟩ := exists_sup (uses S i) (fun v K => ∀ k, K ≤ k → szk S k v = szk S K v) (fun v a b hab h k hk => by rw [h k (by omega), h b hab]) ih
      refine ⟨K + 1, fun k hk => ?_⟩
      obtain ⟨k', rfl⟩ : ∃ k', k = k' + 1 := ⟨k - 1, by omega⟩
      simp only [szk, if_neg hs]
      exact fil_congr _ (fun v hv => hK v (by rw [hu]; exact hv) k' (by omega))
theorem exists_sizes (S : List Ty) : ∃ sz, Sizes S sz := by
  classical
  have h : ∀ i, ∃ x, Good S i → ∃ K, ∀ k, K ≤ k → szk S k i = x := by
    intro i
    by_cases g : Good S i
    · obtain ⟨K, hK⟩ := szk_stable g
      exact ⟨szk S K i, fun _ => ⟨K, hK⟩⟩
    · exact ⟨0, fun h => absurd h g⟩
  refine ⟨fun i => Classical.choose (h i), fun i g => ?_⟩
  obtain ⟨K, hK⟩ := Classical.choose_spec (h i) g
  show Classical.choose (h i) = _
  by_cases hs : selfAt S i
  · rw [if_pos hs, ← hK (K + 1) (by omega)]; simp [szk, hs]
  · rw [if_neg hs]
    have hu : uses S i = vars (at' S i) := by simp [uses, hs]
    have g' := g
    obtain ⟨_, hg⟩ := g'
    obtain ⟨M, hM⟩ := exists_sup (uses S i) (fun v M => ∀ k, M ≤ k → szk S k v = Classical.choose (h v)) (fun v a b hab h k hk => h k (by omega))
      (fun v hv => Classical.choose_spec (h v) (hg v hv))
    rw [← hK (max K M + 1) (by omega), szk, if_neg hs]
    exact fil_congr _ (fun v hv => hM v (by rw [hu]; exact hv) _ (by omega))
theorem Sizes.bd {S : List Ty} {sz : Int → Int} (hs : Sizes S sz) {i : Int} (g : Good S i) : 1 ≤ sz i ∧ sz i ≤ 4097 := by
  induction g with
  | mk i hg ih =>
    rw [hs i (.mk i hg)]
    by_cases h : selfAt S i
    · rw [if_pos h]; omega
    · rw [if_neg h]
      exact fil_bd _ (fun v hv => ih v (by simp [uses, h]; exact hv))
theorem Sizes.unique {S : List Ty} {sz sz' : Int → Int} (hs : Sizes S sz) (hs' : Sizes S sz') {i : Int} (g : Good S i) : sz i = sz' i := by
  induction g with
  | mk i hg ih =>
    rw [hs i (.mk i hg), hs' i (.mk i hg)]
    by_cases h : selfAt S i
    · rw [if_pos h, if_pos h]
    · rw [if_neg h, if_neg h]
      exact fil_congr _ (fun v hv => ih v (by simp [uses, h]; exact hv))

noncomputable def szOf (S : List Ty) : Int → Int := Classical.choose (exists_sizes S)
theorem szOf_spec (S : List Ty) : Sizes S (szOf S) := Classical.choose_spec (exists_sizes S)
open Classical in
/-- the error of a substitution -/
noncomputable def substErr (S : List Ty) : Int :=
  if 4096 < S.length then 2 else if rowsErr S.length S ≠ 0 then rowsErr S.length S
  else if ∃ i : Nat, i < S.length ∧ ¬ Good S i then 8
  else if ∃ i : Nat, i < S.length ∧ 4096 < szOf S i then 2 else 0
end Go.Proofs.YtoafghnieebimaaDoor
