/-
  ShiftField of the program.
-/
import Derived.Test.YtgoeadbjnjkgjaaShiftS
import Derived.Test.YtgoeadbjnjkgjaaGridI
namespace Go.Proofs.Ytgoeadbjnjkgjaa
open Go.RowKit
set_option linter.unusedVariables false

theorem index_is (W H x y : Int) (c : Nat) (w : World) (hc : ixI W H x y = (c : Int)) (hg : vg W H = true) (hx0 : -16 ≤ x) (hx1 : x ≤ 32) (hy0 : -16 ≤ y) (hy1 : y ≤ 32) :
    Calls Try.prog 62 #[.agg #[.int .i64 W, .int .i64 H], .int .i64 x, .int .i64 y] w fun e w' => e = .returned (.int .i64 (c : Int)) ∧ Below w.heap.size w w' := by
  rw [← hc]; exact index_any W H x y w hg hx0 hx1 hy0 hy1
def shF (zs : List Nat) (m n : Nat) (sx sy : Int) (len c : Nat) : List Value := (shL zs m n sx sy c ++ List.replicate (len - c) 0).map mkF
theorem shF_zero (zs : List Nat) (m n : Nat) (sx sy : Int) (len : Nat) : shF zs m n sx sy len 0 = List.replicate len (.float .f32 0) := by simp [shF, shL_zero]
theorem shF_end (zs : List Nat) (m n : Nat) (sx sy : Int) (len : Nat) : shF zs m n sx sy len len = (shL zs m n sx sy len).map mkF := by simp [shF]
theorem shF_set (zs : List Nat) (m n : Nat) (sx sy : Int) (len v u : Nat) (hu : u < m) (h : v * m + u < len) :
    (shF zs m n sx sy len (v * m + u)).set (v * m + u) (.float .f32 (zs.getD (ixI m n ((u : Int) - sx) ((v : Int) - sy)).toNat 0)) = shF zs m n sx sy len (v * m + (u + 1)) := by
  unfold shF
  have h1 := shL_snoc zs m n sx sy v u hu
  have h2 : List.replicate (len - (v * m + u)) 0 = 0 :: List.replicate (len - (v * m + u + 1)) 0 := by
    rw [show len - (v * m + u) = (len - (v * m + u + 1)) + 1 by omega, List.replicate_succ]
  rw [show v * m + (u + 1) = v * m + u + 1 by omega, h1, h2, List.map_append, List.map_cons, List.set_append_right _ _ (by simp [shL_len])]
  simp [shL_len]
set_option maxHeartbeats 4000000 in
theorem implShift_yes (m n : Nat) (a : Option Addr) (len cap : Nat) (xs : List Nat) (x y : Int) (w : World) (hr : IsRow mkF w a len cap xs) (hf : fld m n len = true) (hl : len ≤ 1048576)
    (hx0 : -16 ≤ x) (hx1 : x ≤ 16) (hy0 : -16 ≤ y) (hy1 : y ≤ 16) :
    Calls Try.prog 39 #[.agg #[.int .i64 (m : Int), .int .i64 (n : Int)], .slice a len cap, .int .i64 x, .int .i64 y] w fun e w' => ∃ (v : Value), e = .returned (.tuple #[v, .bool true]) ∧ w'.ownsRow w.heap.size 22 1 v len ((shL xs m n x y len).map mkF) ∧ Below w.heap.size w w' := by
  obtain ⟨i0, hi, hz0, hz1, hz2⟩ := info_parts info_f32
  obtain ⟨h1, h2, h3, h4⟩ := hr
  have hg : vg m n = true := by unfold fld at hf; simp only [Bool.and_eq_true] at hf; exact hf.1
  have hlen : (len : Int) = (m : Int) * (n : Int) := by unfold fld at hf; simp only [Bool.and_eq_true, decide_eq_true_eq] at hf; exact hf.2
  obtain ⟨g1, g2, g3, g4⟩ := vg_bd hg
  have hlen' : len = m * n := by have : ((m * n : Nat) : Int) = (m : Int) * (n : Int) := Int.natCast_mul m n; omega
  have HL := Lib.hid hlen'
  have HLI := Lib.hid hlen
  have hix := inB_yes hx0 hx1
  have hiy := inB_yes hy0 hy1
  have hpos : 0 < len := by have := mul_bd hg; omega
  rcases h4 with h4 | ⟨g, off, rfl, hgl, hcx⟩
  · exfalso; rw [h4] at h1; simp at h1; omega
  have HC := Lib.hid hcx
  have HG := Lib.hid hg
  clear hlen hlen' hcx hg h1 h2 h3
  go_enter Try.func39, Try.ntmps39
  go_wp2_with fail
  refine (implIsField_any _ _ _ _ _ _ hl).mono ?_
  rintro e w1 ⟨rfl, st1⟩
  have hb1 : Below (w.heap.size + 1) (w.alloc (.cells #[.int .i64 (m : Int), .int .i64 (n : Int)] 37)) w1 := st1.mono (by simp)
  have hz : w.heap.size < w1.heap.size := by have := st1.size; simp at this; omega
  clear st1
  go_wp2_with (first | (go_at_call 44; refine (within_any _ _ _ _).mono ?_; rintro e w' ⟨rfl, rfl⟩) | (at_make; refine wpList_make_full _ rfl _ _ 35 rfl w1.heap.size 22 i0 (.float .f32 0) 1 Try.underlying35 hi hz0 hz1 _ _ _ _ len rfl rfl rfl rfl (by rw [hz2]; omega) (by unfold maxLen; omega) (Nat.le_refl _) ?_))
  intro w2 hown hgrow
  have hb2 := hb1.grown hgrow hz (by simp)
  have hown' : w2.ownsRow (w.heap.size + 1) 22 1 (.slice (some ⟨w1.heap.size, 0, none⟩) len len) len (shF xs m n x y len 0) := by
    rw [shF_zero, ← toList_madeCells_one]
    exact own_mono hown hz
  obtain ⟨go, hgo⟩ : ∃ go, go = w1.heap.size := ⟨_, rfl⟩
  have hgo1 : w.heap.size < go := by omega
  rw [← hgo] at hown' ⊢
  clear hown hgrow hb1 hz hgo
  have hcb0 : w2.cell? ⟨w.heap.size, 0, none⟩ = some (.int .i64 (m : Int)) := by rw [hb2.cell (p := ⟨w.heap.size, 0, none⟩) (by simp)]; simp
  have hcb1 : w2.cell? ⟨w.heap.size, 1, none⟩ = some (.int .i64 (n : Int)) := by rw [hb2.cell (p := ⟨w.heap.size, 1, none⟩) (by simp)]; simp
  go_wp2
  clear hcb0 hcb1
  go_loopw [11, 12, 32, 35, 36, 37] (fun _ _ vi _ _ _ wr => ∃ v : Nat, v ≤ n ∧ vi = .int .i64 v ∧ wr.ownsRow (w.heap.size + 1) 22 1 (.slice (some ⟨go, 0, none⟩) len len) len (shF xs m n x y len (v * m)) ∧ Below (w.heap.size + 1) (w.alloc (.cells #[.int .i64 (m : Int), .int .i64 (n : Int)] 37)) wr) (fun _ _ vi _ _ _ _ => n - (intOf vi).toNat)
  case atStart =>
    refine ⟨0, Nat.zero_le _, rfl, ?_, hb2⟩
    rw [Nat.zero_mul]
    exact hown'
  case round =>
    obtain ⟨v, hv, rfl, ho, hb⟩ := hrel
    have hcb0 : wr.cell? ⟨w.heap.size, 0, none⟩ = some (.int .i64 (m : Int)) := by rw [hb.cell (p := ⟨w.heap.size, 0, none⟩) (by simp)]; simp
    have hcb1 : wr.cell? ⟨w.heap.size, 1, none⟩ = some (.int .i64 (n : Int)) := by rw [hb.cell (p := ⟨w.heap.size, 1, none⟩) (by simp)]; simp
    clear hown' hb2
    by_cases hlt : v < n
    · obtain ⟨wo, hwo⟩ : ∃ wo : World, wo = wr := ⟨_, rfl⟩
      rw [← hwo] at ho hb hcb0 hcb1 ⊢
      clear hwo
      go_wp2
      clear hcb0 hcb1
      go_loopw [12, 37] (fun _ ui wi => ∃ u : Nat, u ≤ m ∧ ui = .int .i64 u ∧ wi.ownsRow (w.heap.size + 1) 22 1 (.slice (some ⟨go, 0, none⟩) len len) len (shF xs m n x y len (v * m + u)) ∧ Below (w.heap.size + 1) (w.alloc (.cells #[.int .i64 (m : Int), .int .i64 (n : Int)] 37)) wi) (fun _ ui _ => m - (intOf ui).toNat)
      case atStart => exact ⟨0, Nat.zero_le _, rfl, ho, hb⟩
      case round =>
        obtain ⟨u, hu, rfl, hoi, hbi⟩ := hrel
        clear ho hb
        by_cases hlu : u < m
        · have hd0 : wr.cell? ⟨w.heap.size, 0, none⟩ = some (.int .i64 (m : Int)) := by rw [hbi.cell (p := ⟨w.heap.size, 0, none⟩) (by simp)]; simp
          have hd1 : wr.cell? ⟨w.heap.size, 1, none⟩ = some (.int .i64 (n : Int)) := by rw [hbi.cell (p := ⟨w.heap.size, 1, none⟩) (by simp)]; simp
          have hvm : v * m + u < len := by
            have h1 : (v + 1) * m ≤ n * m := Nat.mul_le_mul_right _ (by omega)
            have h2 := HL.out
            rw [Nat.mul_comm] at h2
            rw [Nat.add_mul] at h1
            omega
          have hP : ixI m n (u : Int) (v : Int) = ((v * m + u : Nat) : Int) := by
            unfold ixI
            rw [Int.emod_eq_of_lt (by omega) (by omega), Int.emod_eq_of_lt (by omega) (by omega), Int.natCast_add, Int.natCast_mul, Int.mul_comm, Int.add_comm]
          have hbd := ixI_bd (W := m) (H := n) (x := (u : Int) - x) (y := (v : Int) - y) (by omega) (by omega)
          rw [← HLI.out] at hbd
          obtain ⟨hI0, hI1⟩ := hbd
          have hS : ixI m n ((u : Int) - x) ((v : Int) - y) = ((ixI m n ((u : Int) - x) ((v : Int) - y)).toNat : Int) := by omega
          have hset := shF_set xs m n x y len v u hlu hvm
          have hSl : (ixI m n ((u : Int) - x) ((v : Int) - y)).toNat < len := by omega
          have hown := hoi
          generalize v * m + u = P at hvm hP hset hoi
          generalize (ixI m n ((u : Int) - x) ((v : Int) - y)).toNat = S at hS hset hSl
          have hcs : wr.cell? ⟨g, off + S, none⟩ = some (.float .f32 (xs.getD S 0)) := by
            rw [hbi.cell (p := ⟨g, off + S, none⟩) (by show g < _; omega), World.cell?_alloc_lt (h := hgl)]
            exact HC.out _ hSl
          have hcd : ∃ u0, wr.cell? ⟨go, P, none⟩ = some u0 := by
            rw [hoi.cellAt P (by omega)]
            exact ⟨_, List.getElem?_eq_getElem (by rw [hoi.1]; omega)⟩
          obtain ⟨u0, hcd⟩ := hcd
          have hfz := hoi.frozenAt P
          have hz0' : w.heap.size < wr.heap.size := by have := hbi.size; simp at this; omega
          have hzg : g < wr.heap.size := by omega
          have hzo : go < wr.heap.size := (hoi.lt go rfl).2
          generalize xs.getD S 0 = q at *
          have HP := Lib.hid hP
          have HS := Lib.hid hS
          have HSET := Lib.hid hset
          have HOI := Lib.hid hoi
          have HBI := Lib.hid hbi
          clear hP hS hset hoi hbi hI0 hI1 hown
          have BD : Hid ((-16 ≤ (u : Int) ∧ (u : Int) ≤ 32 ∧ -16 ≤ (v : Int) ∧ (v : Int) ≤ 32) ∧ (-16 ≤ (u : Int) - x ∧ (u : Int) - x ≤ 32 ∧ -16 ≤ (v : Int) - y ∧ (v : Int) - y ≤ 32)) := ⟨by omega, by omega⟩
          have hwu : IntKind.i64.wrap ((u : Int) - x) = (u : Int) - x := IntWalk.i64_in _ (by omega)
          have hwv : IntKind.i64.wrap ((v : Int) - y) = (v : Int) - y := IntWalk.i64_in _ (by omega)
          go_wp2_with fail
          go_region_with (first
            | (go_at_call_of 62 (Value.int IntKind.i64 (u : Int)); refine (index_is m n (u : Int) (v : Int) P _ HP.out HG.out BD.out.1.1 BD.out.1.2.1 BD.out.1.2.2.1 BD.out.1.2.2.2).mono ?_; rintro e wa ⟨rfl, sa⟩; have za0 : w.heap.size < wa.heap.size := Nat.lt_of_lt_of_le hz0' sa.size; have zag : g < wa.heap.size := Nat.lt_of_lt_of_le hzg sa.size; have zao : go < wa.heap.size := Nat.lt_of_lt_of_le hzo sa.size; have da0 : wa.cell? ⟨w.heap.size, 0, none⟩ = some (.int .i64 (m : Int)) := (by rw [sa.cell (p := ⟨w.heap.size, 0, none⟩) hz0']; exact hd0); have da1 : wa.cell? ⟨w.heap.size, 1, none⟩ = some (.int .i64 (n : Int)) := (by rw [sa.cell (p := ⟨w.heap.size, 1, none⟩) hz0']; exact hd1); have das : wa.cell? ⟨g, off + S, none⟩ = some (.float .f32 q) := (by rw [sa.cell (p := ⟨g, off + S, none⟩) hzg]; exact hcs); have dad : wa.cell? ⟨go, P, none⟩ = some u0 := (by rw [sa.cell (p := ⟨go, P, none⟩) hzo]; exact hcd); have daf : wa.frozen? ⟨go, P, none⟩ = false := (by rw [sa.frozen (p := ⟨go, P, none⟩) hzo]; exact hfz))
            | (go_at_call_of 62 (Value.int IntKind.i64 ((u : Int) - x)); refine (index_is m n ((u : Int) - x) ((v : Int) - y) S _ HS.out HG.out BD.out.2.1 BD.out.2.2.1 BD.out.2.2.2.1 BD.out.2.2.2.2).mono ?_; rintro e wb ⟨rfl, sb⟩; have dbs : wb.cell? ⟨g, off + S, none⟩ = some (.float .f32 q) := (by rw [sb.cell (p := ⟨g, off + S, none⟩) zag]; exact das); have dbd : wb.cell? ⟨go, P, none⟩ = some u0 := (by rw [sb.cell (p := ⟨go, P, none⟩) zao]; exact dad); have dbf : wb.frozen? ⟨go, P, none⟩ = false := (by rw [sb.frozen (p := ⟨go, P, none⟩) zao]; exact daf)))
          all_goals
            have oa := own_below (show wr.drew.ownsRow _ _ _ _ _ _ from HOI.out) sa
            have ob := own_below oa sb
            have os := (ob.stored P (.float .f32 q)).1
            rw [HSET.out] at os
            have bb := (((Below.drew HBI.out).trans (sa.mono (Nat.succ_le_of_lt hz0'))).trans (sb.mono (Nat.succ_le_of_lt za0))).setCell (p := ⟨go, P, none⟩) (Nat.succ_le_of_lt hgo1) (.float .f32 q)
            have OS := Lib.hid os
            clear oa ob os hwu hwv
            go_wp2
            go_roundw
            case rel => exact ⟨u + 1, by omega, by go_num, OS.out, bb⟩
            case measure => simp [intOf]; omega
        · obtain rfl : u = m := by omega
          have hown2 : wr.ownsRow (w.heap.size + 1) 22 1 (.slice (some ⟨go, 0, none⟩) len len) len (shF xs u n x y len ((v + 1) * u)) := by rw [Nat.add_mul, Nat.one_mul]; exact hoi
          clear hoi
          go_wp2
          go_roundw
          case rel => exact ⟨v + 1, by omega, by go_num, hown2, hbi⟩
          case measure => simp [intOf]; omega
    · obtain rfl : v = n := by omega
      have hln : v * m = len := by rw [HL.out, Nat.mul_comm]
      rw [hln, shF_end] at ho
      clear hln
      go_wp2
      go_ret2
      exact ⟨_, rfl, own_mono ho (by omega), ((Below.refl w.heap.size w).alloc (Nat.le_refl _) _).trans (hb.mono (by omega))⟩
end Go.Proofs.Ytgoeadbjnjkgjaa
