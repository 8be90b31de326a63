/-
  ShiftField of the reference.
-/
import Derived.Test.YtgoeadbjnjkgjaaShift
namespace Go.Proofs.Ytgoeadbjnjkgjaa
open Go.RowKit
set_option linter.unusedVariables false

/-- Where the number of corner i comes from. -/
def src (m n : Nat) (sx sy : Int) (i : Nat) : Nat := (ixI m n ((i % m : Nat) - sx) ((i / m : Nat) - sy)).toNat
def shL (zs : List Nat) (m n : Nat) (sx sy : Int) (c : Nat) : List Nat := (List.range c).map fun i => zs.getD (src m n sx sy i) 0
theorem shL_zero (zs : List Nat) (m n : Nat) (sx sy : Int) : shL zs m n sx sy 0 = [] := rfl
theorem shL_len (zs : List Nat) (m n : Nat) (sx sy : Int) (c : Nat) : (shL zs m n sx sy c).length = c := by simp [shL]
theorem src_at (m n : Nat) (sx sy : Int) (v u : Nat) (hu : u < m) : src m n sx sy (v * m + u) = (ixI m n ((u : Int) - sx) ((v : Int) - sy)).toNat := by
  unfold src
  have h1 : (v * m + u) % m = u := by rw [Nat.mul_comm, Nat.mul_add_mod]; exact Nat.mod_eq_of_lt hu
  have h2 : (v * m + u) / m = v := by
    rw [Nat.mul_comm, Nat.mul_add_div (by omega), Nat.div_eq_of_lt hu, Nat.add_zero]
  rw [h1, h2]
theorem shL_snoc (zs : List Nat) (m n : Nat) (sx sy : Int) (v u : Nat) (hu : u < m) :
    shL zs m n sx sy (v * m + u + 1) = shL zs m n sx sy (v * m + u) ++ [zs.getD (ixI m n ((u : Int) - sx) ((v : Int) - sy)).toNat 0] := by
  unfold shL
  rw [List.range_succ, List.map_append, List.map_cons, src_at m n sx sy v u hu]
  rfl

set_option maxHeartbeats 2000000 in
theorem specShift_yes (m n : Nat) (a : Option Addr) (len cap : Nat) (xs : List Nat) (x y : Int) (w : World) (hr : IsRow mkF w a len cap xs) (hf : fld m n len = true) (hl : len ≤ 1048576)
    (hx0 : -16 ≤ x) (hx1 : x ≤ 16) (hy0 : -16 ≤ y) (hy1 : y ≤ 16) :
    Calls Try.prog 38 #[.agg #[.int .i64 (m : Int), .int .i64 (n : Int)], .slice a len cap, .int .i64 x, .int .i64 y] w fun e w' => ∃ (v : Value), e = .returned (.tuple #[v, .bool true]) ∧ w'.ownsRow w.heap.size 22 1 v len ((shL xs m n x y len).map mkF) ∧ Below w.heap.size w w' := by
  obtain ⟨i0, hi, hz0, hz1, hz2⟩ := info_parts info_f32
  obtain ⟨h1, h2, h3, h4⟩ := hr
  have hg : vg m n = true := by unfold fld at hf; simp only [Bool.and_eq_true] at hf; exact hf.1
  have hlen : (len : Int) = (m : Int) * (n : Int) := by unfold fld at hf; simp only [Bool.and_eq_true, decide_eq_true_eq] at hf; exact hf.2
  obtain ⟨g1, g2, g3, g4⟩ := vg_bd hg
  have hlen' : len = m * n := by have : ((m * n : Nat) : Int) = (m : Int) * (n : Int) := Int.natCast_mul m n; omega
  have HL := Lib.hid hlen'
  have HLI := Lib.hid hlen
  have hix := inB_yes hx0 hx1
  have hiy := inB_yes hy0 hy1
  have hpos : 0 < len := by have := mul_bd hg; omega
  rcases h4 with h4 | ⟨g, off, rfl, hgl, hcx⟩
  · exfalso; rw [h4] at h1; simp at h1; omega
  have HC := Lib.hid hcx
  have HG := Lib.hid hg
  clear hlen hlen' hcx hg h1 h2 h3
  go_enter Try.func38, Try.ntmps38
  go_wp2_with (first | (go_at_call 50; refine (l02Field_any _ m n _ _ _ _ (by simp) (by simp) hl).mono ?_; rintro e w' ⟨rfl, n1, rfl⟩) | (go_at_call 42; refine (l00In_any _ _ _ _).mono ?_; rintro e w' ⟨rfl, rfl⟩))
  go_loopw [10, 11, 12, 13, 14] (fun o vi _ _ _ wr => ∃ v : Nat, v ≤ n ∧ vi = .int .i64 v ∧ wr.ownsRow (w.heap.size + 1) 22 1 o (v * m) ((shL xs m n x y (v * m)).map mkF) ∧ Below (w.heap.size + 1) (w.alloc (.cells #[.int .i64 (m : Int), .int .i64 (n : Int)] 37)) wr) (fun _ vi _ _ _ _ => n - (intOf vi).toNat)
  case atStart =>
    refine ⟨0, Nat.zero_le _, rfl, ?_, (below_drewN (Below.refl _ _) _).alloc (by simp) _⟩
    rw [Nat.zero_mul]
    exact own_made (by simp) (Nat.le_refl _) (Nat.zero_le _) rfl
  case round =>
    obtain ⟨v, hv, rfl, ho, hb⟩ := hrel
    have hcb0 : wr.cell? ⟨w.heap.size, 0, none⟩ = some (.int .i64 (m : Int)) := by rw [hb.cell (p := ⟨w.heap.size, 0, none⟩) (by simp)]; simp
    have hcb1 : wr.cell? ⟨w.heap.size, 1, none⟩ = some (.int .i64 (n : Int)) := by rw [hb.cell (p := ⟨w.heap.size, 1, none⟩) (by simp)]; simp
    by_cases hlt : v < n
    · obtain ⟨wo, hwo⟩ : ∃ wo : World, wo = wr := ⟨_, rfl⟩
      rw [← hwo] at ho hb hcb0 hcb1 ⊢
      clear hwo
      go_wp2
      go_loopw [10, 12, 13, 14] (fun o ui _ _ wi => ∃ u : Nat, u ≤ m ∧ ui = .int .i64 u ∧ wi.ownsRow (w.heap.size + 1) 22 1 o (v * m + u) ((shL xs m n x y (v * m + u)).map mkF) ∧ Below (w.heap.size + 1) (w.alloc (.cells #[.int .i64 (m : Int), .int .i64 (n : Int)] 37)) wi) (fun _ ui _ _ _ => m - (intOf ui).toNat)
      case atStart => exact ⟨0, Nat.zero_le _, rfl, ho, hb⟩
      case round =>
        obtain ⟨u, hu, rfl, hoi, hbi⟩ := hrel
        have hd0 : wr.cell? ⟨w.heap.size, 0, none⟩ = some (.int .i64 (m : Int)) := by rw [hbi.cell (p := ⟨w.heap.size, 0, none⟩) (by simp)]; simp
        have hd1 : wr.cell? ⟨w.heap.size, 1, none⟩ = some (.int .i64 (n : Int)) := by rw [hbi.cell (p := ⟨w.heap.size, 1, none⟩) (by simp)]; simp
        by_cases hlu : u < m
        · have hbd := ixI_bd (W := m) (H := n) (x := (u : Int) - x) (y := (v : Int) - y) (by omega) (by omega)
          rw [← HLI.out] at hbd
          obtain ⟨hI0, hI1⟩ := hbd
          have hcell : wr.cell? ⟨g, off + (ixI m n ((u : Int) - x) ((v : Int) - y)).toNat, none⟩ = some (.float .f32 (xs.getD (ixI m n ((u : Int) - x) ((v : Int) - y)).toNat 0)) := by
            rw [hbi.cell (p := ⟨g, off + (ixI m n ((u : Int) - x) ((v : Int) - y)).toNat, none⟩) (by show g < _; omega), World.cell?_alloc_lt (h := hgl)]
            exact HC.out _ (by omega)
          obtain ⟨⟨d3, d3'⟩, d4, d4'⟩ := ix_facts (x := (u : Int) - x) (y := (v : Int) - y) HG.out
          have e1 : ¬ m = 0 := by omega
          have e2 : ¬ n = 0 := by omega
          have hsn : Hid (shL xs m n x y (v * m + (u + 1)) = shL xs m n x y (v * m + u) ++ [xs.getD (ixI m n ((u : Int) - x) ((v : Int) - y)).toNat 0]) := shL_snoc xs m n x y v u hlu
          have hsz : w.heap.size + 1 ≤ wr.heap.size := by have := hbi.size; simp at this; omega
          have hvm : v * m + u < 257 := by
            have h1 : (v + 1) * m ≤ n * m := Nat.mul_le_mul_right _ (by omega)
            have h2 : n * m ≤ 16 * 16 := Nat.mul_le_mul (by omega) (by omega)
            rw [Nat.add_mul] at h1
            omega
          generalize xs.getD (ixI m n ((u : Int) - x) ((v : Int) - y)).toNat 0 = q at *
          unfold ixI at hI0 hI1 hcell
          clear hcb0 hcb1 ho hb
          go_wp2_with (at_builtin; go_loud (refine wpList_append_own _ rfl (.tmp 61) (.tmp 71) 35 rfl (w.heap.size + 1) 22 i0 (.float .f32 0) 1 4 Try.underlying35 hi hz0 hz1 hz2 rfl (by decide) _ (v * m + u) _ rfl (hoi.alloc _) ⟨wr.heap.size, 0, none⟩ 1 1 [.float .f32 q] rfl rfl (cell_one_new _ _ _) (by simp [Value.oneCell']) (by unfold maxLen; omega) (by omega) (by simp; omega) ?_))
          intro v' w1 hown1 hgrow1 _
          have hb1 := (hbi.alloc hsz (.cells #[.float .f32 q] 22)).grown hgrow1 (by simp; omega) (fun j hj => (hoi.lt j hj).1)
          have hown2 : w1.ownsRow (w.heap.size + 1) 22 1 v' (v * m + (u + 1)) ((shL xs m n x y (v * m + (u + 1))).map mkF) := by rw [hsn.out, List.map_append]; exact hown1
          clear hown1 hgrow1 hoi d3 d3' d4 d4'
          go_wp2
          go_roundw
          case rel => exact ⟨u + 1, by omega, by go_num, hown2, hb1⟩
          case measure => simp [intOf]; omega
        · obtain rfl : u = m := by omega
          have hown2 : wr.ownsRow (w.heap.size + 1) 22 1 u10 ((v + 1) * u) ((shL xs u n x y ((v + 1) * u)).map mkF) := by rw [Nat.add_mul, Nat.one_mul]; exact hoi
          clear hoi ho hb hcb0 hcb1
          go_wp2
          go_roundw
          case rel => exact ⟨v + 1, by omega, by go_num, hown2, hbi⟩
          case measure => simp [intOf]; omega
    · obtain rfl : v = n := by omega
      have hln : v * m = len := by rw [HL.out, Nat.mul_comm]
      rw [hln] at ho
      clear hln
      go_wp2
      go_ret2
      exact ⟨_, rfl, own_mono ho (by omega), ((Below.refl w.heap.size w).alloc (Nat.le_refl _) _).trans (hb.mono (by omega))⟩
end Go.Proofs.Ytgoeadbjnjkgjaa
