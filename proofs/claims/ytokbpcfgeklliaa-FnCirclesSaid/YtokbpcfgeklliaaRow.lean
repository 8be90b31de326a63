/-
  Slices of floats and of integers that come in, as the walk is told of them.
-/
import Derived.Test.YtokbpcfgeklliaaRows
import Derived.Test.YtokbpcfgeklliaaFl
import Derived.ProofKit
import Derived.OpenShut
import Derived.ShutString
import Derived.ChangeOld
import Derived.Below
import Derived.Deep.Slices
import Derived.Lib.SmallJoins
namespace Go.Proofs.Ytokbpcfgeklliaa
open Go.ChangeShapes Go.WideShapes Go.ChangeAt Go.RowKit

theorem own_knob : ownKnob Try.prog.godebug = none := by kernel_rfl
theorem laid_out : laidOutB Try.prog = true := by kernel_rfl

/-- A slice whose elements read as 'zs', each told by 'mk'. -/
def IsRow (mk : Nat → Value) (w : World) (a : Option Addr) (len cap : Nat) (zs : List Nat) : Prop :=
  zs.length = len ∧ len ≤ cap ∧ cap ≤ maxLen ∧ (zs = [] ∨ ∃ b off, a = some ⟨b, off, none⟩ ∧ b < w.heap.size ∧ ∀ i, i < len → w.cell? ⟨b, off + i, none⟩ = some (mk (zs.getD i 0)))
def IsIRow (w : World) (a : Option Addr) (len cap : Nat) (zs : List Int) : Prop :=
  zs.length = len ∧ len ≤ cap ∧ cap ≤ maxLen ∧ (zs = [] ∨ ∃ b off, a = some ⟨b, off, none⟩ ∧ b < w.heap.size ∧ ∀ i, i < len → w.cell? ⟨b, off + i, none⟩ = some (.int .i64 (zs.getD i 0)))

theorem spot_of_cell {w : World} {x : Addr} {v : Value} (h : w.cell? x = some v) : x.spot = none ∧ x.block < w.heap.size := by
  unfold World.cell? at h
  split at h
  · rename_i c e f hb
    cases hs : x.spot with
    | none => exact ⟨rfl, (Array.getElem?_eq_some_iff.1 hb).1⟩
    | some s => rw [hs] at h; simp at h
  · cases h
theorem add_zero (x : Addr) : x.add 0 = x := rfl

section
variable {H : Type} {enc : TypeId × Value → H} {P : Program} {w : World} {base : Nat} {spare : Nat → Bool} {held : Bool}
theorem open_frow {t e : TypeId} {k : FloatKind} {a : Option Addr} {len cap : Nat} {d : DataW H} {ps : List MemPlace} (ht : P.underlying t = some (.slice e)) (he : P.underlying e = some (.float k)) (hc : P.cellsOf e = 1)
    (h : DataW.Trod enc P w base spare held t (.slice a len cap) d ps) :
    ∃ zs : List Nat, IsRow (.float k) w a len cap zs ∧ ∀ z ∈ zs, (Lit.float k z).wf = true := by
  obtain ⟨fuel, hf⟩ := h
  rcases Go.Deep.open_slice1 ht hc hf with ⟨hcs, _⟩ | ⟨x, l, c, m, n, V, D, Pl, hcs, _, hl, hm, hmm, _, hx⟩
  · simp [Value.cells] at hcs
    obtain ⟨rfl, rfl, rfl⟩ := hcs
    exact ⟨[], ⟨rfl, Nat.le_refl _, Nat.zero_le _, .inl rfl⟩, fun z hz => by simp at hz⟩
  · simp [Value.cells] at hcs
    obtain ⟨rfl, rfl, rfl⟩ := hcs
    have hlm : len ≤ m := by rw [hmm]; split <;> omega
    have each : ∀ i, i < len → ∃ z : Nat, w.cell? (x.add i) = some (.float k z) ∧ (Lit.float k z).wf = true := by
      intro i hi
      obtain ⟨h1, h2⟩ := hx i (by omega)
      cases n with
      | zero => simp [DataW.trod] at h2
      | succ n =>
        simp only [DataW.trod, he] at h2
        cases hv : V i <;> rw [hv] at h2 <;> simp at h2
        rename_i k' z
        by_cases hk : k' = k
        · subst hk
          by_cases hw : (Lit.float k' z).wf = true
          · exact ⟨z, by rw [h1, hv], hw⟩
          · simp [hw] at h2
        · simp [hk] at h2
    obtain ⟨f, hf'⟩ := Go.Deep.choose_lt (n := len) each
    refine ⟨(List.range len).map f, ⟨by simp, hl, hm, ?_⟩, ?_⟩
    · cases len with
      | zero => exact .inl rfl
      | succ len =>
        refine .inr ⟨x.block, x.off, ?_, ?_, ?_⟩
        · have := (spot_of_cell (x := x) (hf' 0 (by omega)).1).1
          cases x; simp_all
        · exact (spot_of_cell (x := x) (hf' 0 (by omega)).1).2
        · intro i hi
          have hs := (spot_of_cell (x := x) (hf' 0 (by omega)).1).1
          have := (hf' i hi).1
          have e1 : (⟨x.block, x.off + i, none⟩ : Addr) = x.add i := by cases x; simp_all [Addr.add]
          rw [e1, this]
          simp [List.getD, hi]
    · intro z hz
      simp only [List.mem_map, List.mem_range] at hz
      obtain ⟨i, hi, rfl⟩ := hz
      exact (hf' i hi).2
theorem open_irow {t e : TypeId} {a : Option Addr} {len cap : Nat} {d : DataW H} {ps : List MemPlace} (ht : P.underlying t = some (.slice e)) (he : P.underlying e = some (.int .i64)) (hc : P.cellsOf e = 1)
    (h : DataW.Trod enc P w base spare held t (.slice a len cap) d ps) :
    ∃ zs : List Int, IsIRow w a len cap zs ∧ ∀ z ∈ zs, (Lit.int .i64 z).wf = true := by
  obtain ⟨fuel, hf⟩ := h
  rcases open_ints ht he hc hf with ⟨hcs, _⟩ | ⟨x, l, c, zs, hcs, _, hl, hm, hz, _, hcell, hwz⟩
  · simp [Value.cells] at hcs
    obtain ⟨rfl, rfl, rfl⟩ := hcs
    exact ⟨[], ⟨rfl, Nat.le_refl _, Nat.zero_le _, .inl rfl⟩, fun z hz => by simp at hz⟩
  · simp [Value.cells] at hcs
    obtain ⟨rfl, rfl, rfl⟩ := hcs
    have hlz : len ≤ zs.length := by rw [hz]; split <;> omega
    refine ⟨zs.take len, ⟨by simp [hlz], hl, hm, ?_⟩, fun z hz => hwz z (List.mem_of_mem_take hz)⟩
    cases len with
    | zero => exact .inl (by simp)
    | succ len =>
      have h0 := spot_of_cell (x := x) (hcell 0 (by omega))
      refine .inr ⟨x.block, x.off, ?_, h0.2, ?_⟩
      · cases x; simp_all
      · intro i hi
        have e1 : (⟨x.block, x.off + i, none⟩ : Addr) = x.add i := by cases x; simp_all [Addr.add]
        rw [e1, hcell i (by omega)]
        simp [List.getD, hi]
end
end Go.Proofs.Ytokbpcfgeklliaa
