/-
  What a walk needs of the variables, from world to world.
-/
import Derived.Test.YtcbfefamemidnaaDoorLd
import Derived.Test.YtcbfefamemidnaaDoorShS
namespace Go.Proofs.YtcbfefamemidnaaDoor
open Go.RowKit Go.Lib
def MxL (w : World) : Prop := ∃ m, w.cell? ⟨8, 0, none⟩ = some (.int .i64 m)
theorem MxL.below {w w' : World} (h : MxL w) (hb : Below w.heap.size w w') : MxL w' := by
  obtain ⟨m, hm⟩ := h
  refine ⟨m, ?_⟩
  rw [hb.cell (p := ⟨8, 0, none⟩) ?_]
  · exact hm
  · unfold World.cell? at hm
    split at hm
    · rename_i c e f hg
      exact (Array.getElem?_eq_some_iff.1 hg).1
    · cases hm
theorem mx_of {w : World} (h : w.ShapedOpen Tryd.prog) : MxL w := Tryd.laysM146.s1_3 w h
def Env (w : World) : Prop := Pow w ∧ Errs w ∧ MxL w
theorem Env.below {w w' : World} (h : Env w) (hb : Below w.heap.size w w') : Env w' := ⟨h.1.below hb, h.2.1.below hb, h.2.2.below hb⟩
end Go.Proofs.YtcbfefamemidnaaDoor
