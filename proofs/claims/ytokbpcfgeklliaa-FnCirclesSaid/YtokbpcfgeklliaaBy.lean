/-
  Slices of bytes that come in; the numbers that the laws choose by them; differences.
-/
import Derived.Test.YtokbpcfgeklliaaRow
import Derived.Test.YtokbpcfgeklliaaPh
namespace Go.Proofs.Ytokbpcfgeklliaa
open Go.ChangeShapes Go.WideShapes Go.ChangeAt Go.RowKit
set_option linter.unusedVariables false

/-- A slice of bytes whose elements read as 'zs'. -/
def IsBRow (w : World) (a : Option Addr) (len cap : Nat) (zs : List Int) : Prop :=
  zs.length = len ∧ len ≤ cap ∧ cap ≤ maxLen ∧ (zs = [] ∨ ∃ b off, a = some ⟨b, off, none⟩ ∧ b < w.heap.size ∧ ∀ i, i < len → w.cell? ⟨b, off + i, none⟩ = some (.int .u8 (zs.getD i 0)))
section
variable {H : Type} {enc : TypeId × Value → H} {P : Program} {w : World} {base : Nat} {spare : Nat → Bool} {held : Bool}
theorem open_brow {t e : TypeId} {a : Option Addr} {len cap : Nat} {d : DataW H} {ps : List MemPlace} (ht : P.underlying t = some (.slice e)) (he : P.underlying e = some (.int .u8)) (hc : P.cellsOf e = 1)
    (h : DataW.Trod enc P w base spare held t (.slice a len cap) d ps) :
    ∃ zs : List Int, IsBRow w a len cap zs ∧ ∀ z ∈ zs, 0 ≤ z ∧ z ≤ 255 := by
  obtain ⟨fuel, hf⟩ := h
  rcases open_ints ht he hc hf with ⟨hcs, _⟩ | ⟨x, l, c, zs, hcs, _, hl, hm, hz, _, hcell, hwz⟩
  · simp [Value.cells] at hcs
    obtain ⟨rfl, rfl, rfl⟩ := hcs
    exact ⟨[], ⟨rfl, Nat.le_refl _, Nat.zero_le _, .inl rfl⟩, fun z hz => by simp at hz⟩
  · simp [Value.cells] at hcs
    obtain ⟨rfl, rfl, rfl⟩ := hcs
    have hlz : len ≤ zs.length := by rw [hz]; split <;> omega
    refine ⟨zs.take len, ⟨by simp [hlz], hl, hm, ?_⟩, fun z hz => ?_⟩
    · cases len with
      | zero => exact .inl (by simp)
      | succ len =>
        have h0 := spot_of_cell (x := x) (hcell 0 (by omega))
        refine .inr ⟨x.block, x.off, ?_, h0.2, ?_⟩
        · cases x; simp_all
        · intro i hi
          have e1 : (⟨x.block, x.off + i, none⟩ : Addr) = x.add i := by cases x; simp_all [Addr.add]
          rw [e1, hcell i (by omega)]
          simp [List.getD, hi]
    · have := hwz z (List.mem_of_mem_take hz)
      have m1 : IntKind.u8.min = 0 := by decide
      have m2 : IntKind.u8.max = 255 := by decide
      simpa [Lit.wf, m1, m2] using this
end
theorem brow_below {w w' : World} {a : Option Addr} {len cap : Nat} {zs : List Int} (h : IsBRow w a len cap zs) (hb : Below w.heap.size w w') : IsBRow w' a len cap zs := by
  obtain ⟨h1, h2, h3, h4⟩ := h
  refine ⟨h1, h2, h3, ?_⟩
  rcases h4 with h4 | ⟨b, off, rfl, hlt, hc⟩
  · exact .inl h4
  · exact .inr ⟨b, off, rfl, Nat.lt_of_lt_of_le hlt hb.size, fun i hi => by rw [hb.cell (p := ⟨b, off + i, none⟩) hlt]; exact hc i hi⟩
def longB (len len' : Nat) : Bool := decide (1048576 < (len : Int)) || decide (1048576 < (len' : Int))
set_option maxHeartbeats 400000 in
theorem Long_any (a b : Option Addr) (len cap len' cap' : Nat) (w : World) (h : len ≤ maxLen) (h' : len' ≤ maxLen) :
    Calls Try.prog 18 #[.slice a len cap, .slice b len' cap'] w fun e w' => e = .returned (.bool (longB len len')) ∧ w' = w := by
  unfold maxLen at h h'
  obtain ⟨t, ht⟩ : ∃ t, longB len len' = t := ⟨_, rfl⟩
  rw [ht]
  have HT : Hid (longB len len' = t) := ht
  clear ht
  by_cases hl : 1048576 < (len : Int)
  · obtain rfl : t = true := by rw [← HT.out]; unfold longB; rw [decide_eq_true hl]; rfl
    go_enter Try.func18, Try.ntmps18
    go_wp2
    go_ret
    exact ⟨rfl, rfl⟩
  · obtain rfl : t = decide (1048576 < (len' : Int)) := by rw [← HT.out]; unfold longB; rw [decide_eq_false hl]; rfl
    go_enter Try.func18, Try.ntmps18
    go_wp2
    go_ret
    exact ⟨rfl, rfl⟩
set_option maxHeartbeats 1000000 in
theorem At0_256 (a : Option Addr) (len cap : Nat) (zs : List Int) (w : World) (hr : IsBRow w a len cap zs) (hb : ∀ z ∈ zs, 0 ≤ z ∧ z ≤ 255) (hl : len ≤ maxLen) :
    Calls Try.prog 19 #[.slice a len cap, .int .i64 0, .int .i64 256] w fun e w' => ∃ z : Int, 0 ≤ z ∧ z < 256 ∧ e = .returned (.int .i64 z) ∧ w' = w := by
  obtain ⟨h1, h2, h3, h4⟩ := hr
  unfold maxLen at hl
  by_cases hlt : 0 < len
  · rcases h4 with h4 | ⟨b, off, rfl, hbl, hc⟩
    · exfalso; rw [h4] at h1; simp at h1; omega
    · have hc1 : w.cell? ⟨b, off, none⟩ = some (.int .u8 (zs.getD 0 0)) := hc 0 hlt
      have hz : 0 ≤ zs.getD 0 0 ∧ zs.getD 0 0 ≤ 255 := by
        have : 0 < zs.length := by omega
        rw [show zs.getD 0 0 = zs[0] by simp [List.getD, this]]
        exact hb _ (List.getElem_mem _)
      generalize zs.getD 0 0 = z at *
      obtain ⟨z1, z2⟩ := hz
      clear hc hb
      go_enter Try.func19, Try.ntmps19
      go_wp2
      go_ret
      exact ⟨z % 256, by omega, by omega, rfl, rfl⟩
  · go_enter Try.func19, Try.ntmps19
    go_wp2
    go_ret
    exact ⟨11, by decide, by decide, rfl, rfl⟩
set_option maxHeartbeats 1000000 in
theorem At1_256 (a : Option Addr) (len cap : Nat) (zs : List Int) (w : World) (hr : IsBRow w a len cap zs) (hb : ∀ z ∈ zs, 0 ≤ z ∧ z ≤ 255) (hl : len ≤ maxLen) :
    Calls Try.prog 19 #[.slice a len cap, .int .i64 1, .int .i64 256] w fun e w' => ∃ z : Int, 0 ≤ z ∧ z < 256 ∧ e = .returned (.int .i64 z) ∧ w' = w := by
  obtain ⟨h1, h2, h3, h4⟩ := hr
  unfold maxLen at hl
  by_cases hlt : 1 < len
  · rcases h4 with h4 | ⟨b, off, rfl, hbl, hc⟩
    · exfalso; rw [h4] at h1; simp at h1; omega
    · have hc1 : w.cell? ⟨b, off + 1, none⟩ = some (.int .u8 (zs.getD 1 0)) := hc 1 hlt
      have hz : 0 ≤ zs.getD 1 0 ∧ zs.getD 1 0 ≤ 255 := by
        have : 1 < zs.length := by omega
        rw [show zs.getD 1 0 = zs[1] by simp [List.getD, this]]
        exact hb _ (List.getElem_mem _)
      generalize zs.getD 1 0 = z at *
      obtain ⟨z1, z2⟩ := hz
      clear hc hb
      go_enter Try.func19, Try.ntmps19
      go_wp2
      go_ret
      exact ⟨z % 256, by omega, by omega, rfl, rfl⟩
  · go_enter Try.func19, Try.ntmps19
    go_wp2
    go_ret
    exact ⟨48, by decide, by decide, rfl, rfl⟩
set_option maxHeartbeats 1000000 in
theorem At0_200 (a : Option Addr) (len cap : Nat) (zs : List Int) (w : World) (hr : IsBRow w a len cap zs) (hb : ∀ z ∈ zs, 0 ≤ z ∧ z ≤ 255) (hl : len ≤ maxLen) :
    Calls Try.prog 19 #[.slice a len cap, .int .i64 0, .int .i64 200] w fun e w' => ∃ z : Int, 0 ≤ z ∧ z < 200 ∧ e = .returned (.int .i64 z) ∧ w' = w := by
  obtain ⟨h1, h2, h3, h4⟩ := hr
  unfold maxLen at hl
  by_cases hlt : 0 < len
  · rcases h4 with h4 | ⟨b, off, rfl, hbl, hc⟩
    · exfalso; rw [h4] at h1; simp at h1; omega
    · have hc1 : w.cell? ⟨b, off, none⟩ = some (.int .u8 (zs.getD 0 0)) := hc 0 hlt
      have hz : 0 ≤ zs.getD 0 0 ∧ zs.getD 0 0 ≤ 255 := by
        have : 0 < zs.length := by omega
        rw [show zs.getD 0 0 = zs[0] by simp [List.getD, this]]
        exact hb _ (List.getElem_mem _)
      generalize zs.getD 0 0 = z at *
      obtain ⟨z1, z2⟩ := hz
      clear hc hb
      go_enter Try.func19, Try.ntmps19
      go_wp2
      go_ret
      exact ⟨z % 200, by omega, by omega, rfl, rfl⟩
  · go_enter Try.func19, Try.ntmps19
    go_wp2
    go_ret
    exact ⟨11, by decide, by decide, rfl, rfl⟩
set_option maxHeartbeats 1000000 in
theorem At1_200 (a : Option Addr) (len cap : Nat) (zs : List Int) (w : World) (hr : IsBRow w a len cap zs) (hb : ∀ z ∈ zs, 0 ≤ z ∧ z ≤ 255) (hl : len ≤ maxLen) :
    Calls Try.prog 19 #[.slice a len cap, .int .i64 1, .int .i64 200] w fun e w' => ∃ z : Int, 0 ≤ z ∧ z < 200 ∧ e = .returned (.int .i64 z) ∧ w' = w := by
  obtain ⟨h1, h2, h3, h4⟩ := hr
  unfold maxLen at hl
  by_cases hlt : 1 < len
  · rcases h4 with h4 | ⟨b, off, rfl, hbl, hc⟩
    · exfalso; rw [h4] at h1; simp at h1; omega
    · have hc1 : w.cell? ⟨b, off + 1, none⟩ = some (.int .u8 (zs.getD 1 0)) := hc 1 hlt
      have hz : 0 ≤ zs.getD 1 0 ∧ zs.getD 1 0 ≤ 255 := by
        have : 1 < zs.length := by omega
        rw [show zs.getD 1 0 = zs[1] by simp [List.getD, this]]
        exact hb _ (List.getElem_mem _)
      generalize zs.getD 1 0 = z at *
      obtain ⟨z1, z2⟩ := hz
      clear hc hb
      go_enter Try.func19, Try.ntmps19
      go_wp2
      go_ret
      exact ⟨z % 200, by omega, by omega, rfl, rfl⟩
  · go_enter Try.func19, Try.ntmps19
    go_wp2
    go_ret
    exact ⟨48, by decide, by decide, rfl, rfl⟩
end Go.Proofs.Ytokbpcfgeklliaa
