/- What every card of this seat needs: the tables in the witness's world, a post for calls that only make memory. -/
import Derived.Test.YtfeeiipohfpdiaaDoorCards
import Derived.Test.YtfeeiipohfpdiaaDoorTie
import Derived.WalkKit
import Derived.ProofKit
import Derived.OpenShut
import Derived.Below
import Derived.ChangeSame
import Derived.Deep.DeepHandedRow
import Derived.Lib.LaidTab
namespace Go.Proofs.YtfeeiipohfpdiaaDoor
open Go.ChangeShapes Go.WideShapes Go.ChangeAt Go.RowKit

/-- a block's cells, turned -/
def recell (l : List Nat) : Obj → Obj
  | .cells _ t frozen => .cells (l.map fun (n : Nat) => Value.int .u8 (n : Int)).toArray t frozen
  | o => o
theorem own : ownKnob Tryd.prog.godebug = none := by kernel_rfl

/-- a call that made memory, and wrote none that was there -/
theorem post_low {H : Type} {enc : TypeId × Value → H} {P : Program} {f : Func} {s : ChangeSpec} {apart fresh handsOn again : Bool} {W W' : World} {args : Array Value} {v : Value} {ds gs : List (DataW H)} {ps pa pv : List MemPlace}
    (hW : DataW.Whole enc P f.params.toList s.vars apart W args.toList ds gs ps)
    (h1 : ∀ (b : Nat) (sp : Nat → Bool) (hd : Bool), DataW.TrodAll enc P W' b sp hd f.resultTypes.toList (v.resultList f.resultTypes.size) (s.fn H (ds ++ gs)).results [])
    (h2 : ∀ sp : Nat → Bool, (∀ p ∈ ps, sp p.block = true) → DataW.TrodAll enc P W' 0 sp true f.params.toList args.toList (s.fn H (ds ++ gs)).args pa)
    (h3 : ∀ sp : Nat → Bool, (∀ p ∈ ps, sp p.block = true) → DataW.TrodVars enc P W' sp s.vars (s.fn H (ds ++ gs)).vars pv)
    (h4 : ps = pa ++ pv) (hb : Below W.heap.size W W')
    (h5 : ∀ (j : Nat) (t : TypeId) (r : Value), f.resultTypes[j]? = some t → (v.resultList f.resultTypes.size)[j]? = some r → Value.okWide P W' .any 0 t r) :
    s.post enc P f apart fresh handsOn again W args v W' := by
  have hl : ∀ p ∈ ps, p.block < W.heap.size := fun p h => hW.lt p h
  have hold : ∀ p ∈ ps, (fun b => decide (b < W.heap.size)) p.block = true := fun p h => decide_eq_true (hl p h)
  have hin : ∀ p, p ∈ [] ++ pa ++ pv → p ∈ ps := fun p h => by rw [h4]; exact h
  refine ⟨ds, gs, ps, [], pa, pv, hW, h1 _ _ _, h2 _ hold, h3 _ hold, ?_, fun _ => ⟨h5, _, _, ([] ++ pa) ++ pv, ⟨[] ++ pa, pv, trodAll_append (h2 _ (fun _ _ => rfl)) (h1 _ _ _), h3 _ (fun _ _ => rfl), rfl, ?_, ?_⟩, fun p h _ => hin p h⟩⟩
  · refine World.keptBut_mono (fun p h => ⟨h, .inr ?_⟩) (hb.frame (· ∈ ps))
    rw [h4] at h
    exact List.mem_append.1 h
  · intro b off h
    have h' := hin _ h
    obtain ⟨_, _, _, _, _, hz, _⟩ := hW
    rw [hb.frozen (hl _ h')]
    exact hz b off h'
  · intro ha
    obtain ⟨_, _, _, _, _, _, hn⟩ := hW
    have := hn ha
    rw [h4] at this
    exact this

/-- the settled world, the two tables of unicode/utf8 holding what their initialisers lay -/
noncomputable def laidW (os : Os) : World :=
  { World.holding Tryd.prog os ⟨#[], #[], []⟩ with heap := ((World.holding Tryd.prog os ⟨#[], #[], []⟩).heap.modify 0 (recell Go.Pinned.utf8FirstZ)).modify 1 (recell [128, 191, 160, 191, 128, 159, 144, 191, 128, 143, 0, 0, 0, 0, 0, 0, 0, 0, 0, 0, 0, 0, 0, 0, 0, 0, 0, 0, 0, 0, 0, 0]) }
end Go.Proofs.YtfeeiipohfpdiaaDoor
