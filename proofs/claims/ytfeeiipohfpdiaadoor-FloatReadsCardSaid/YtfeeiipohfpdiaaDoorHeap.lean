/- Blocks that are known whole; slices that read as a list. Nothing of the program. -/
import Derived.WalkKit
import Derived.WalkLawsBesides
import Derived.Lib.Hide
import Derived.Below
import Derived.Deep.Draws
namespace Go.Proofs.YtfeeiipohfpdiaaDoor
set_option linter.unusedVariables false
set_option linter.unusedSimpArgs false
open Go.RowKit

/-- block b of the world: the cells xs, of type t, none of them frozen -/
def Blk (w : World) (b : Nat) (t : TypeId) (xs : List Value) : Prop := w.heap[b]? = some (.cells xs.toArray t (0, 0))

theorem Blk.lt {w : World} {b : Nat} {t : TypeId} {xs : List Value} (h : Blk w b t xs) : b < w.heap.size := (Array.getElem?_eq_some_iff.1 h).1
theorem Blk.cell {w : World} {b : Nat} {t : TypeId} {xs : List Value} (h : Blk w b t xs) (i : Nat) : w.cell? ⟨b, i, none⟩ = xs[i]? := by
  rw [cell_of_row w b i _ t _ h]; simp
theorem Blk.frozen {w : World} {b : Nat} {t : TypeId} {xs : List Value} (h : Blk w b t xs) (i : Nat) : w.frozen? ⟨b, i, none⟩ = false := by
  simp only [World.frozen?]
  rw [show w.heap[(⟨b, i, none⟩ : Addr).block]? = _ from h]
  simp
theorem Blk.new (w : World) (xs : List Value) (t : TypeId) : Blk (w.alloc (.cells xs.toArray t)) w.heap.size t xs := heap_alloc_new w _
theorem Blk.alloc {w : World} {b : Nat} {t : TypeId} {xs : List Value} (h : Blk w b t xs) (o : Obj) : Blk (w.alloc o) b t xs := by
  unfold Blk; rw [heap_alloc_old w o h.lt]; exact h
theorem Blk.drew {w : World} {b : Nat} {t : TypeId} {xs : List Value} (h : Blk w b t xs) : Blk w.drew b t xs := h
theorem Blk.drewN {w : World} {b : Nat} {t : TypeId} {xs : List Value} (h : Blk w b t xs) {n : Nat} : Blk (w.drewN n) b t xs := h
theorem Blk.set {w : World} {b : Nat} {t : TypeId} {xs : List Value} (h : Blk w b t xs) (i : Nat) (u : Value) : Blk (w.setCell ⟨b, i, none⟩ u) b t (xs.set i u) := by
  unfold Blk World.setCell
  simp only [Array.getElem?_modify, ↓reduceIte]
  rw [show w.heap[b]? = _ from h]
  simp
theorem Blk.other {w : World} {b : Nat} {t : TypeId} {xs : List Value} (h : Blk w b t xs) {a : Addr} (hne : b ≠ a.block) (u : Value) : Blk (w.setCell a u) b t xs := by
  unfold Blk; rw [Below.heap_setCell w a u b hne]; exact h
theorem Blk.below {w w' : World} {b B : Nat} {t : TypeId} {xs : List Value} (h : Blk w b t xs) (hb : Below B w w') (hlt : b < B) : Blk w' b t xs := by
  unfold Blk; rw [hb.block b hlt]; exact h
theorem Blk.kept {w w' : World} {b : Nat} {t : TypeId} {xs : List Value} (h : Blk w b t xs) (hb : Below w.heap.size w w') : Blk w' b t xs := h.below hb h.lt
theorem Blk.grown {w w' : World} {b : Nat} {t : TypeId} {xs : List Value} {row : Option Nat} (h : Blk w b t xs) (hg : w.grownBy w' row) (hne : some b ≠ row) : Blk w' b t xs := by
  unfold Blk; rw [hg.block b h.lt hne]; exact h

/-- the slice v reads as vs, each of one cell -/
def Sl (w : World) (v : Value) (vs : List Value) : Prop :=
  ∃ a cap, v = .slice a vs.length cap ∧ vs.length ≤ cap ∧ cap ≤ maxLen ∧
    ((a = none ∧ cap = 0) ∨ ∃ b off, a = some ⟨b, off, none⟩ ∧ b < w.heap.size ∧ ∀ i u, vs[i]? = some u → w.cell? ⟨b, off + i, none⟩ = some u)

/-- two ways: nothing in it; or a place where it lies -/
theorem Sl.cases {w : World} {v : Value} {vs : List Value} (h : Sl w v vs) :
    (vs = [] ∧ ∃ a cap, v = .slice a 0 cap) ∨
    (0 < vs.length ∧ ∃ b off cap, v = .slice (some ⟨b, off, none⟩) vs.length cap ∧ vs.length ≤ cap ∧ cap ≤ maxLen ∧ b < w.heap.size ∧ ∀ i u, vs[i]? = some u → w.cell? ⟨b, off + i, none⟩ = some u) := by
  obtain ⟨a, cap, rfl, hl, hm, h⟩ := h
  cases vs with
  | nil => exact .inl ⟨rfl, a, cap, rfl⟩
  | cons x vs =>
    right
    refine ⟨by simp, ?_⟩
    rcases h with ⟨rfl, rfl⟩ | ⟨b, off, rfl, hb, hc⟩
    · simp at hl
    · exact ⟨b, off, cap, rfl, hl, hm, hb, hc⟩

theorem Sl.nil (w : World) : Sl w (.slice none 0 0) [] := ⟨none, 0, rfl, by simp, by simp, .inl ⟨rfl, rfl⟩⟩
theorem Sl.mk {w : World} {b off cap : Nat} {vs : List Value} (hl : vs.length ≤ cap) (hm : cap ≤ maxLen) (hb : b < w.heap.size) (hc : ∀ i u, vs[i]? = some u → w.cell? ⟨b, off + i, none⟩ = some u) :
    Sl w (.slice (some ⟨b, off, none⟩) vs.length cap) vs := ⟨_, cap, rfl, hl, hm, .inr ⟨b, off, rfl, hb, hc⟩⟩
theorem Sl.kept {w w' : World} {v : Value} {vs : List Value} (h : Sl w v vs) (hs : w.heap.size ≤ w'.heap.size) (hk : ∀ b, v.ownBlock = some b → b < w.heap.size → w'.heap[b]? = w.heap[b]?) : Sl w' v vs := by
  obtain ⟨a, cap, rfl, hl, hm, h⟩ := h
  refine ⟨a, cap, rfl, hl, hm, ?_⟩
  rcases h with h | ⟨b, off, rfl, hb, hc⟩
  · exact .inl h
  · refine .inr ⟨b, off, rfl, by omega, fun i u hu => ?_⟩
    rw [World.cell?_of_block (w := w) (hk b rfl hb)]
    exact hc i u hu
theorem Sl.below {w w' : World} {v : Value} {vs : List Value} (h : Sl w v vs) (hb : Below w.heap.size w w') : Sl w' v vs :=
  h.kept hb.size fun b _ hlt => hb.block b hlt
theorem Sl.alloc {w : World} {v : Value} {vs : List Value} (h : Sl w v vs) (o : Obj) : Sl (w.alloc o) v vs :=
  h.kept (by simp) fun b _ hlt => heap_alloc_old w o hlt
theorem Sl.drew {w : World} {v : Value} {vs : List Value} (h : Sl w v vs) : Sl w.drew v vs := h
theorem Sl.drewN {w : World} {v : Value} {vs : List Value} (h : Sl w v vs) {n : Nat} : Sl (w.drewN n) v vs := h
theorem Sl.grown {w w' : World} {v : Value} {vs : List Value} {row : Option Nat} (h : Sl w v vs) (hg : w.grownBy w' row) (hne : ∀ b, row = some b → v.ownBlock ≠ some b) : Sl w' v vs :=
  h.kept hg.size fun b hb hlt => hg.block b hlt (fun e => hne b e.symm hb)
theorem Sl.setCell {w : World} {v : Value} {vs : List Value} (h : Sl w v vs) {a : Addr} (hne : v.ownBlock ≠ some a.block) (u : Value) : Sl (w.setCell a u) v vs :=
  h.kept (by simp) fun b hb _ => Below.heap_setCell w a u b (fun e => hne (by rw [hb, e]))

/-- where an element lies -/
theorem Sl.at {w : World} {a : Option Addr} {n cap : Nat} {vs : List Value} (h : Sl w (.slice a n cap) vs) {i : Nat} {u : Value} (hu : vs[i]? = some u) :
    ∃ b off, a = some ⟨b, off, none⟩ ∧ n = vs.length ∧ n ≤ cap ∧ cap ≤ 9223372036854775807 ∧ b < w.heap.size ∧ w.cell? ⟨b, off + i, none⟩ = some u := by
  have hi : i < vs.length := (List.getElem?_eq_some_iff.1 hu).1
  rcases h.cases with ⟨rfl, _⟩ | ⟨_, b, off, cap', e, hcap, hcm, hb, hc⟩
  · simp at hi
  · injection e with e1 e2 e3
    subst e1; subst e2; subst e3
    unfold maxLen at hcm
    exact ⟨b, off, rfl, rfl, hcap, by omega, hb, hc i u hu⟩

theorem Sl.open {w : World} {v : Value} {vs : List Value} (h : Sl w v vs) : ∃ a cap, v = .slice a vs.length cap ∧ vs.length ≤ cap ∧ cap ≤ 9223372036854775807 := by
  obtain ⟨a, cap, rfl, hl, hm, _⟩ := h
  unfold maxLen at hm
  exact ⟨a, cap, rfl, hl, by omega⟩

/-- the front of a slice -/
theorem Sl.take {w : World} {a : Option Addr} {n cap : Nat} {vs : List Value} (h : Sl w (.slice a n cap) vs) {k : Nat} (hk : k ≤ n) : Sl w (.slice a k cap) (vs.take k) := by
  obtain ⟨a', cap', e, hl, hm, h⟩ := h
  injection e with e1 e2 e3
  subst e1; subst e2; subst e3
  refine ⟨_, _, by rw [List.length_take, Nat.min_eq_left hk], by rw [List.length_take]; omega, hm, ?_⟩
  rcases h with h | ⟨b, off, rfl, hb, hc⟩
  · exact .inl h
  · refine .inr ⟨b, off, rfl, hb, fun i u hu => hc i u ?_⟩
    rw [List.getElem?_take] at hu
    split at hu
    · exact hu
    · cases hu

/-- what a call owns reads as what it holds -/
theorem ownsRow_sl {w : World} {base : Nat} {e : TypeId} {v : Value} {n : Nat} {xs : List Value} (h : w.ownsRow base e 1 v n xs) : Sl w v xs := by
  obtain ⟨hl, h⟩ := h
  simp only [Nat.mul_one] at hl
  rcases h with ⟨rfl, rfl⟩ | ⟨g, cap, cur, rfl, hb, hg, hn, hm, hs, ht⟩
  · obtain rfl := List.eq_nil_of_length_eq_zero hl
    exact Sl.nil w
  · rw [← hl] at hn ht ⊢
    refine Sl.mk hn hm (Array.getElem?_eq_some_iff.1 hg).1 fun i u hu => ?_
    rw [Nat.zero_add, cell_of_row w g i cur e _ hg]
    rw [← ht, List.getElem?_take] at hu
    split at hu
    · simpa using hu
    · cases hu

/-- a slice of a block that is known -/
theorem Blk.sl {w : World} {b : Nat} {t : TypeId} {xs vs : List Value} (h : Blk w b t xs) {off n cap : Nat} (hn : vs.length = n) (hc : n ≤ cap) (hm : cap ≤ maxLen) (hv : ∀ i u, vs[i]? = some u → xs[off + i]? = some u) :
    Sl w (.slice (some ⟨b, off, none⟩) n cap) vs := by
  subst hn
  exact Sl.mk hc hm h.lt fun i u hu => by rw [h.cell]; exact hv i u hu

/-- new, or of no place -/
def Fresh (w : World) (v : Value) : Prop := ∀ b, v.ownBlock = some b → w.heap.size ≤ b

theorem Fresh.slice {w : World} {a : Option Addr} {n m c d : Nat} (h : Fresh w (.slice a n c)) : Fresh w (.slice a m d) := by
  intro b hb
  cases a <;> exact h b hb

/-- numbers of a kind -/
def ints (k : IntKind) (l : List Nat) : List Value := l.map fun (n : Nat) => Value.int k (n : Int)
theorem ints_length (k : IntKind) (l : List Nat) : (ints k l).length = l.length := by simp [ints]
theorem ints_get {k : IntKind} {l : List Nat} {i : Nat} {x : Nat} (h : l[i]? = some x) : (ints k l)[i]? = some (.int k x) := by simp [ints, h]
theorem ints_append (k : IntKind) (a b : List Nat) : ints k (a ++ b) = ints k a ++ ints k b := by simp [ints]
theorem ints_set (k : IntKind) (l : List Nat) (i x : Nat) : (ints k l).set i (.int k x) = ints k (l.set i x) := by simp [ints, List.map_set]
theorem ints_take (k : IntKind) (l : List Nat) (i : Nat) : (ints k l).take i = ints k (l.take i) := by simp [ints]

end Go.Proofs.YtfeeiipohfpdiaaDoor
