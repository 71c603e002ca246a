/- Laws for the walk: rows of one cell an element that the call makes, grows, writes. Nothing of the program. -/
import Derived.Test.YtfeeiipohfpdiaaDoorHeap
import Derived.Laws.OwnMore
namespace Go.Proofs.YtfeeiipohfpdiaaDoor
set_option linter.unusedVariables false
set_option linter.unusedSimpArgs false
open Go.RowKit

/-- the type of a slice, of its elements (one cell each), their zero, their bytes -/
structure RowTy (P : Program) (t e : TypeId) (z : Value) (bytes : Nat) : Prop where
  ht : P.underlying t = some (.slice e)
  info : (P.info? e).map (fun i => (i.zero, i.size, i.bytes)) = some (some z, 1, bytes)
  one : z.cells.size = 1

theorem madeCells_one (z : Value) (hz : z.cells.size = 1) (hz1 : z.cells = #[z]) (n : Nat) : madeCells z.cells n = (List.replicate n z).toArray := by
  unfold madeCells
  rw [hz1]
  apply Array.ext
  · simp
  · intro i h1 h2
    simp [Nat.mod_one]

/-- append of one value to a row of the call's own -/
theorem app_one {P : Program} {w : World} {ops : Array Oper} {rest : List Oper} {o : Oper} {a : Act} {Q : Exit → Act → World → Prop} (hgd : o.guard = none) (s x : Operand) (t : TypeId)
    (ho : o.op = .call { callee := .builtin .append, args := #[s, x], argTypes := #[t, t] }) {e : TypeId} {z : Value} {bytes : Nat} (hr : RowTy P t e z bytes)
    (base : Nat) {v : Value} {n : Nat} {xs : List Value} (u : Value) (b : Nat) (hown : w.ownsRow base e 1 v n xs) (hs : a.eval s = v)
    (hx : a.eval x = .slice (some ⟨b, 0, none⟩) 1 1) (hc : w.cell? ⟨b, 0, none⟩ = some u) (h1 : u.oneCell' = true) (hn : (n + 1) * bytes ≤ 140737488355328) (hn2 : n + 1 ≤ 140737488355328) (hbase : base ≤ w.heap.size)
    (h : ∀ v' w', w'.ownsRow base e 1 v' (n + 1) (xs ++ [u]) → w.grownBy w' v.ownBlock → wpList P ops Q rest (a.put o.dst v') w') : wpList P ops Q (o :: rest) a w := by
  obtain ⟨i, hi, hz0, hz1, hz2⟩ := info_parts hr.info
  refine wpList_append_own w hgd s x t ho base e i z 1 bytes hr.ht hi hz0 hz1 hz2 hr.one (by decide) v n xs hs hown ⟨b, 0, none⟩ 1 1 [u] hx rfl ?_ ?_ (by unfold maxLen; omega) hn hbase (fun v' w' h2 h3 _ => h v' w' h2 h3)
  · intro j u' hj
    cases j with
    | zero => simp at hj; subst hj; simpa [Addr.add] using hc
    | succ j => simp at hj
  · intro u' hu
    simp at hu; subst hu; exact h1

theorem cell_one (w : World) (u : Value) (t : TypeId) : (w.alloc (.cells #[u] t)).cell? ⟨w.heap.size, 0, none⟩ = some u := by simp

/-- append of all that a slice reads as, to a row of the call's own: the operation itself -/
theorem core_app_all {P : Program} {w : World} {o : Oper} {a : Act} {K : Act → World → Prop} {Q : Exit → Act → World → Prop} (s x : Operand) (t : TypeId)
    (ho : o.op = .call { callee := .builtin .append, args := #[s, x], argTypes := #[t, t] }) {e : TypeId} {z : Value} {bytes : Nat} (hr : RowTy P t e z bytes)
    (base : Nat) {v vx : Value} {n : Nat} {xs news : List Value} (hown : w.ownsRow base e 1 v n xs) (hs : a.eval s = v)
    (hx : a.eval x = vx) (hc : Sl w vx news) (h1 : ∀ u ∈ news, u.oneCell' = true) (hn : (n + news.length) * bytes ≤ 140737488355328) (hn2 : n + news.length ≤ 140737488355328) (hbase : base ≤ w.heap.size)
    (h : ∀ v' w', w'.ownsRow base e 1 v' (n + news.length) (xs ++ news) → w.grownBy w' v.ownBlock → K (a.put o.dst v') w') : o.wp P a w K Q := by
  obtain ⟨i, hi, hz0, hz1, hz2⟩ := info_parts hr.info
  obtain ⟨ax, cx, rfl, hl, hm, hcase⟩ := hc
  rcases hcase with ⟨rfl, rfl⟩ | ⟨b, off, rfl, hb, hcell⟩
  · have hne : news = [] := List.eq_nil_of_length_eq_zero (by omega)
    subst hne
    have hrun := run_append_owned_none (P := P) (w := w) base t o.type e i 1 hr.ht hi v n xs hown
    unfold Oper.wp
    simp only [List.length_nil] at hx
    simp [execOp, ho, resolve, invoke, builtin, hs, hx, hrun, Result.andThen]
    exact h v w (by simpa using hown) (World.grownBy.refl w _)
  · obtain ⟨v', w', hrun, h2, h3, _⟩ := run_append_own (P := P) w base t o.type e i z 1 bytes hr.ht hi hz0 hz1 hz2 hr.one (by decide) v n xs hown ⟨b, off, none⟩ news.length cx news (by simp) (fun j u' hj => by
      have := hcell j u' hj
      unfold Addr.add
      split
      · subst_vars; simpa using this
      · exact this) h1 (by unfold maxLen; omega) hn hbase
    unfold Oper.wp
    simp [execOp, ho, resolve, invoke, builtin, hs, hx, hrun, Result.andThen]
    exact h v' w' h2 h3

theorem app_all {P : Program} {w : World} {ops : Array Oper} {rest : List Oper} {o : Oper} {a : Act} {Q : Exit → Act → World → Prop} (hgd : o.guard = none) (s x : Operand) (t : TypeId)
    (ho : o.op = .call { callee := .builtin .append, args := #[s, x], argTypes := #[t, t] }) {e : TypeId} {z : Value} {bytes : Nat} (hr : RowTy P t e z bytes)
    (base : Nat) {v vx : Value} {n : Nat} {xs news : List Value} (hown : w.ownsRow base e 1 v n xs) (hs : a.eval s = v)
    (hx : a.eval x = vx) (hc : Sl w vx news) (h1 : ∀ u ∈ news, u.oneCell' = true) (hn : (n + news.length) * bytes ≤ 140737488355328) (hn2 : n + news.length ≤ 140737488355328) (hbase : base ≤ w.heap.size)
    (h : ∀ v' w', w'.ownsRow base e 1 v' (n + news.length) (xs ++ news) → w.grownBy w' v.ownBlock → wpList P ops Q rest (a.put o.dst v') w') : wpList P ops Q (o :: rest) a w :=
  wpList_plain hgd fun _ hK => core_app_all s x t ho hr base hown hs hx hc h1 hn hn2 hbase fun v' w' h2 h3 => hK _ _ (h v' w' h2 h3)

/-- the same, as one step of a region that draws its order -/
theorem step_app_all {P : Program} {w : World} {ops : Array Oper} {o : Oper} {a : Act} {K : Act → World → Prop} {Q : Exit → Act → World → Prop} {E : Prop} (hgd : o.guard = none) (s x : Operand) (t : TypeId)
    (ho : o.op = .call { callee := .builtin .append, args := #[s, x], argTypes := #[t, t] }) {e : TypeId} {z : Value} {bytes : Nat} (hr : RowTy P t e z bytes)
    (base : Nat) {v vx : Value} {n : Nat} {xs news : List Value} (hown : w.ownsRow base e 1 v n xs) (hs : a.eval s = v)
    (hx : a.eval x = vx) (hc : Sl w vx news) (h1 : ∀ u ∈ news, u.oneCell' = true) (hn : (n + news.length) * bytes ≤ 140737488355328) (hn2 : n + news.length ≤ 140737488355328) (hbase : base ≤ w.heap.size)
    (h : ∀ v' w', w'.ownsRow base e 1 v' (n + news.length) (xs ++ news) → w.grownBy w' v.ownBlock → K (a.put o.dst v') w') : if Region.wanted o (yielded ops a.tmps) = true then Oper.wp P o a w K Q else E := by
  rw [if_pos (by simp [Region.wanted, hgd])]
  exact core_app_all s x t ho hr base hown hs hx hc h1 hn hn2 hbase h

/-- make, as a run -/
theorem run_mk {P : Program} {t e : TypeId} {z : Value} {bytes : Nat} (hr : RowTy P t e z bytes) (hz1 : z.cells = #[z]) (m n : Nat) (hmn : m ≤ n) (hn : n * bytes ≤ 281474976710656) (hn2 : n ≤ 281474976710656) (w : World) :
    (Instr.makeSlice t (.int .i64 (m : Int)) (.int .i64 (n : Int))).run P w = .ok (.slice (some ⟨w.heap.size, 0, none⟩) m n) (w.alloc (.cells (List.replicate n z).toArray e)) := by
  obtain ⟨i, hi, hz0, hs, hb⟩ := info_parts hr.info
  have hrun := run_make (P := P) w t e i z hr.ht hi hz0 .i64 .i64 m n (by omega) (by omega) (by rw [hb, ← Int.natCast_mul, Nat.mul_comm]; omega) (by omega)
  rw [Int.toNat_natCast, Int.toNat_natCast, hs, Nat.mul_one, madeCells_one z hr.one hz1] at hrun
  exact hrun

theorem ints_one {k : IntKind} {l : List Nat} : ∀ u ∈ ints k l, u.oneCell' = true := by
  intro u hu
  simp only [ints, List.mem_map] at hu
  obtain ⟨n, _, rfl⟩ := hu
  rfl

theorem ret_slice {a : Option Addr} {n m c : Nat} (h : n = m) : Ending.returned (.slice a n c) = Ending.returned (.slice a m c) := by rw [h]
theorem ret_num {k : IntKind} {a b : Int} (h : a = b) : Ending.returned (.int k a) = .returned (.int k b) := by rw [h]
theorem ret_num2 {k j : IntKind} {a b c d : Int} (h : a = b) (h2 : c = d) : Ending.returned (.tuple #[.int k a, .int j c]) = .returned (.tuple #[.int k b, .int j d]) := by rw [h, h2]


/-- make, with sizes that are numbers: a new block, known whole -/
theorem mk_row {P : Program} {w : World} {ops : Array Oper} {rest : List Oper} {o : Oper} {a : Act} {Q : Exit → Act → World → Prop} (hg : o.guard = none) (l c : Operand) (t : TypeId) (hop : o.op = Op.makeSlice t l c)
    {e : TypeId} {z : Value} {bytes : Nat} (hr : RowTy P t e z bytes) (hz1 : z.cells = #[z]) (kl kc : IntKind) (L C : Int) (m n : Nat) (hl : a.eval l = .int kl L) (hc : a.eval c = .int kc C) (hL : L = (m : Int)) (hC : C = (n : Int))
    (hmn : m ≤ n) (hn : n * bytes ≤ 281474976710656) (hn2 : n ≤ 281474976710656)
    (h : ∀ w', Blk w' w.heap.size e (List.replicate n z) → Below w.heap.size w w' → w'.heap.size = w.heap.size + 1 → wpList P ops Q rest (a.put o.dst (.slice (some ⟨w.heap.size, 0, none⟩) m n)) w') :
    wpList P ops Q (o :: rest) a w := by
  obtain ⟨i, hi, hz0, hs, hb⟩ := info_parts hr.info
  refine wpList_plain hg fun K hK' => ?_
  have hrun := run_make (P := P) w t e i z hr.ht hi hz0 kl kc L C (by omega) (by omega) (by rw [hb, hC, ← Int.natCast_mul, Nat.mul_comm]; omega) (by omega)
  have e1 : L.toNat = m := by omega
  have e2 : C.toNat = n := by omega
  rw [e1, e2, hs, Nat.mul_one, madeCells_one z hr.one hz1] at hrun
  unfold Oper.wp
  simp only [execOp, hop, hl, hc]
  simp [hrun, Result.andThen]
  exact hK' _ _ (h _ (Blk.new w _ e) ((Below.refl _ _).alloc (Nat.le_refl _) _) (by simp))

theorem Blk.owns {w : World} {g : Nat} {e : TypeId} {xs : List Value} (h : Blk w g e xs) {base n cap : Nat} (hb : base ≤ g) (hn : n ≤ cap) (hm : cap ≤ maxLen) (hc : xs.length = cap) :
    w.ownsRow base e 1 (.slice (some ⟨g, 0, none⟩) n cap) n (xs.take n) :=
  ⟨by rw [List.length_take]; omega, .inr ⟨g, cap, xs.toArray, rfl, hb, h, hn, hm, by simp [hc], by simp⟩⟩

theorem ownsRow_fresh {w w' : World} {e : TypeId} {v : Value} {n : Nat} {xs : List Value} (h : w'.ownsRow w.heap.size e 1 v n xs) : Fresh w v := fun b hb => (h.lt b hb).1

/-- what a call owns is no other's -/
theorem ownsRow_apart {w : World} {base : Nat} {e : TypeId} {v : Value} {n : Nat} {xs : List Value} (h : w.ownsRow base e 1 v n xs) {b : Nat} (hb : b < base) : v.ownBlock ≠ some b := by
  intro e
  have := (h.lt b e).1
  omega

theorem _root_.Go.World.grownBy.setIn {w w' : World} {g o : Nat} (h : w.grownBy w' (some g)) (u : Value) : w.grownBy (w'.setCell ⟨g, o, none⟩ u) (some g) :=
  ⟨h.os, h.tape, h.output, by simpa using h.size, fun k hk hne => by rw [Below.heap_setCell _ _ _ _ (fun e => hne (by rw [e]))]; exact h.block k hk hne⟩

end Go.Proofs.YtfeeiipohfpdiaaDoor
