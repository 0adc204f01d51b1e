/- Types as they lie in memory: the predicates by which the walks read them. -/
import Derived.Test.YtoafghnieebimaaDoorProg
import Derived.Test.YtoafghnieebimaaDoorS
import Derived.WalkKit
import Derived.WalkSpells
import Derived.WalkLawsBesides
import Derived.Lib.Hide
namespace Go.Proofs.YtoafghnieebimaaDoor
open Go.RowKit

/-- A type that lies in memory at a place, all of it in blocks of D. -/
inductive TyAt (w : World) (D : Nat → Prop) : Ty → Nat → Nat → Prop
  | mk {k : Int} {n : ByteArray} {v : Int} {ts : List Ty} {b off : Nat} (A : Option Addr) (c b' off' : Nat)
    (hb : D b) (h0 : w.cell? ⟨b, off, none⟩ = some (.int .i64 k)) (h1 : w.cell? ⟨b, off + 1, none⟩ = some (.string n))
    (h2 : w.cell? ⟨b, off + 2, none⟩ = some (.int .i64 v)) (h3 : w.cell? ⟨b, off + 3, none⟩ = some (.slice A ts.length c))
    (hw : -9223372036854775808 ≤ k ∧ k ≤ 9223372036854775807 ∧ -9223372036854775808 ≤ v ∧ v ≤ 9223372036854775807 ∧ n.size ≤ 9223372036854775807 ∧ ts.length ≤ 9223372036854775807)
    (hA : ts ≠ [] → A = some ⟨b', off', none⟩)
    (hs : ∀ j t, ts[j]? = some t → TyAt w D t b' (off' + j * 4)) : TyAt w D (.mk k n v ts) b off

/-- The arguments of a type behind a slice's address. -/
def ArgsAt (w : World) (D : Nat → Prop) (A : Option Addr) (ts : List Ty) : Prop :=
  ts.length ≤ 9223372036854775807 ∧ ∃ b off, (ts ≠ [] → A = some ⟨b, off, none⟩) ∧ ∀ j t, ts[j]? = some t → TyAt w D t b (off + j * 4)
/-- The numbers of a node fit. -/
def Fits (k v : Int) (n : ByteArray) : Prop := -9223372036854775808 ≤ k ∧ k ≤ 9223372036854775807 ∧ -9223372036854775808 ≤ v ∧ v ≤ 9223372036854775807 ∧ n.size ≤ 9223372036854775807

theorem TyAt.keep {w w1 : World} {D D' : Nat → Prop} (h : ∀ b, D b → D' b ∧ w1.heap[b]? = w.heap[b]?) {t : Ty} {b off : Nat} (hx : TyAt w D t b off) : TyAt w1 D' t b off := by
  induction hx with
  | mk A c b' off' hb h0 h1 h2 h3 hw hA hs ih =>
    have hc : ∀ o, w1.cell? ⟨_, o, none⟩ = w.cell? ⟨_, o, none⟩ := fun o => World.cell?_of_block (h _ hb).2
    exact .mk A c b' off' (h _ hb).1 ((hc _).trans h0) ((hc _).trans h1) ((hc _).trans h2) ((hc _).trans h3) hw hA ih
theorem ArgsAt.keep {w w1 : World} {D D' : Nat → Prop} (h : ∀ b, D b → D' b ∧ w1.heap[b]? = w.heap[b]?) {A : Option Addr} {ts : List Ty} (hx : ArgsAt w D A ts) : ArgsAt w1 D' A ts := by
  obtain ⟨hl, b, off, hA, hs⟩ := hx
  exact ⟨hl, b, off, hA, fun j t ht => (hs j t ht).keep h⟩
theorem ArgsAt.under {w w1 : World} {B : Nat} (h : Below B w w1) {A : Option Addr} {ts : List Ty} (hx : ArgsAt w (· < B) A ts) : ArgsAt w1 (· < B) A ts := hx.keep fun b hb => ⟨hb, h.block b hb⟩
theorem TyAt.under {w w1 : World} {B : Nat} (h : Below B w w1) {t : Ty} {b off : Nat} (hx : TyAt w (· < B) t b off) : TyAt w1 (· < B) t b off := hx.keep fun b hb => ⟨hb, h.block b hb⟩
theorem ArgsAt.nil (w : World) (D : Nat → Prop) (A : Option Addr) : ArgsAt w D A [] := ⟨by simp, 0, 0, by simp, by simp⟩
/-- one element of a list of types: its four cells and its own arguments -/
theorem ArgsAt.elem {w : World} {D : Nat → Prop} {A : Option Addr} {ts : List Ty} (hx : ArgsAt w D A ts) :
    ts.length = 0 ∨ ∃ b off, A = some ⟨b, off, none⟩ ∧ ∀ j, j < ts.length → ∃ k n v us A' c', ts[j]? = some (.mk k n v us) ∧ D b ∧ w.cell? ⟨b, off + j * 4, none⟩ = some (.int .i64 k) ∧ w.cell? ⟨b, off + j * 4 + 1, none⟩ = some (.string n) ∧
      w.cell? ⟨b, off + j * 4 + 2, none⟩ = some (.int .i64 v) ∧ w.cell? ⟨b, off + j * 4 + 3, none⟩ = some (.slice A' us.length c') ∧ ArgsAt w D A' us ∧ Fits k v n := by
  obtain ⟨hl, b, off, hA, hs⟩ := hx
  by_cases h0 : ts.length = 0
  · exact .inl h0
  · refine .inr ⟨b, off, hA (by intro h; simp [h] at h0), fun j hj => ?_⟩
    have := hs j ts[j] (by simp [hj])
    generalize ht : ts[j] = t at this
    have hj' : ts[j]? = some t := by simp [hj, ht]
    cases this with
    | mk A' c b' off' hb h0 h1 h2 h3 hw hA hs =>
      exact ⟨_, _, _, _, A', c, hj', hb, h0, h1, h2, h3, ⟨hw.2.2.2.2.2, b', off', hA, hs⟩, ⟨hw.1, hw.2.1, hw.2.2.1, hw.2.2.2.1, hw.2.2.2.2.1⟩⟩
end Go.Proofs.YtoafghnieebimaaDoor
