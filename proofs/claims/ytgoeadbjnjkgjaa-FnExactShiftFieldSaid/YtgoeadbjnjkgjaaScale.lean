/-
  ScaleField on both sides; AddFields and ScaleField where they fail.
-/
import Derived.Test.YtgoeadbjnjkgjaaAdd2
namespace Go.Proofs.Ytgoeadbjnjkgjaa
open Go.RowKit
set_option linter.unusedVariables false

/-- The products, every NaN told as one. -/
def mulC (xs : List Nat) (by_ : Nat) : List Nat := xs.map fun x => fo .mul .f32 (cn .f32 x) (cn .f32 by_)
theorem mulC_snoc (xs : List Nat) (q k : Nat) (h : k < xs.length) : mulC (xs.take (k + 1)) q = mulC (xs.take k) q ++ [fo .mul .f32 (cn .f32 (xs.getD k 0)) (cn .f32 q)] := by
  rw [take_succ_getD' xs k h]
  simp [mulC]
set_option maxHeartbeats 1000000 in
theorem specScale_yes (x y : Int) (a : Option Addr) (len cap : Nat) (xs : List Nat) (q : Nat) (w : World) (hr : IsRow mkF w a len cap xs) (hf : fld x y len = true) (hl : len ≤ 1048576) :
    Calls Try.prog 36 #[.agg #[.int .i64 x, .int .i64 y], .slice a len cap, .float .f32 q] w fun e w' => ∃ (v : Value) (ws : List Nat), e = .returned (.tuple #[v, .bool true]) ∧ w'.ownsRow w.heap.size 22 1 v len (ws.map mkF) ∧ ws.map (cn .f32) = mulC xs q ∧ Below w.heap.size w w' := by
  obtain ⟨i0, hi, hz0, hz1, hz2⟩ := info_parts info_f32
  obtain ⟨h1, h2, h3, h4⟩ := hr
  go_enter Try.func36, Try.ntmps36
  go_wp2_with (go_at_call 50; refine (l02Field_any _ x y _ _ _ _ (by simp) (by simp) hl).mono ?_; rintro e w' ⟨rfl, n, rfl⟩)
  go_loopw [8, 9] (fun v i wr => ∃ (k : Nat) (ws : List Nat), k ≤ len ∧ i = .int .i64 k ∧ wr.ownsRow w.heap.size 22 1 v k (ws.map mkF) ∧ ws.map (cn .f32) = mulC (xs.take k) q ∧ Below w.heap.size w wr) (fun _ i _ => len - (intOf i).toNat)
  case atStart =>
    refine ⟨0, [], Nat.zero_le _, rfl, own_made ?_ ?_ (Nat.zero_le _) rfl, rfl, (below_drewN ((Below.refl _ _).alloc (Nat.le_refl _) _) _).alloc ?_ _⟩
    · simp only [World.heap_drewN, World.size_alloc]
    · omega
    · simp only [World.heap_drewN, World.size_alloc]; omega
  case round =>
    obtain ⟨k, ws, hk, rfl, ho, hw, hb⟩ := hrel
    by_cases hlt : k < len
    · rcases h4 with h4 | ⟨g, off, rfl, hgl, hcx⟩
      · exfalso; rw [h4] at h1; simp at h1; omega
      have hc1 : wr.cell? ⟨g, off + k, none⟩ = some (.float .f32 (xs.getD k 0)) := by rw [hb.cell (p := ⟨g, off + k, none⟩) hgl]; exact hcx k hlt
      have HT : Hid (mulC (xs.take (k + 1)) q = mulC (xs.take k) q ++ [fo .mul .f32 (cn .f32 (xs.getD k 0)) (cn .f32 q)]) := mulC_snoc xs q k (by omega)
      have HW := Lib.hid hw
      have hsz := hb.size
      clear hcx h1 hw
      generalize xs.getD k 0 = p at *
      go_wp2_with (at_builtin; go_loud (refine wpList_append_own _ rfl (.tmp 20) (.tmp 27) 35 rfl w.heap.size 22 i0 (.float .f32 0) 1 4 Try.underlying35 hi hz0 hz1 hz2 rfl (by decide) _ k _ rfl ((own_draw ho _).alloc _) ⟨wr.heap.size, 0, none⟩ 1 1 [.float .f32 (fv .mul .f32 p q wr)] rfl rfl (cell_one_new _ _ _) (by simp [Value.oneCell']) (by unfold maxLen; omega) (by omega) (by simp; omega) ?_))
      intro v' w1 hown1 hgrow1 _
      have hb1 : Below w.heap.size w w1 := ((below_drewN hb _).alloc hsz _).grown hgrow1 (by simp; omega) (fun j hj => (ho.lt j hj).1)
      have hown2 : w1.ownsRow w.heap.size 22 1 v' (k + 1) ((ws ++ [fv .mul .f32 p q wr]).map mkF) := by rw [List.map_append]; exact hown1
      have hmap : (ws ++ [fv .mul .f32 p q wr]).map (cn .f32) = mulC (xs.take (k + 1)) q := by rw [List.map_append, HW.out, HT.out, List.map_cons, cn_fv]; rfl
      have HM := Lib.hid hmap
      clear hmap hown1 hgrow1 ho
      go_wp2
      go_roundw
      case rel => exact ⟨k + 1, _, by omega, by go_num, hown2, HM.out, hb1⟩
      case measure => simp [intOf]; omega
    · obtain rfl : k = len := by omega
      have HE : Hid (xs.take k = xs) := List.take_of_length_le (by omega)
      have HW := Lib.hid hw
      clear hw h1 h4
      go_wp2
      go_ret2
      exact ⟨_, _, rfl, ho, by rw [HW.out, HE.out], hb⟩
set_option maxHeartbeats 1000000 in
theorem scaled_any (a : Option Addr) (len cap : Nat) (xs : List Nat) (q : Nat) (w : World) (hr : IsRow mkF w a len cap xs) (hl : len ≤ 1048576) (hn : 0 < len) :
    Calls Try.prog 61 #[.slice a len cap, .float .f32 q] w fun e w' => ∃ (v : Value) (ws : List Nat), e = .returned v ∧ w'.ownsRow w.heap.size 22 1 v len (ws.map mkF) ∧ ws.map (cn .f32) = mulC xs q ∧ Below w.heap.size w w' := by
  go_enter Try.func61, Try.ntmps61
  go_wp2_with fail
  refine (clone_any _ _ _ _ _ hr hl hn).mono ?_
  rintro e w3 ⟨g, c, rfl, hom, hb3⟩
  have hgw : w.heap.size ≤ g := (hom.lt g rfl).1
  have hxl : xs.length = len := by have := hom.1; simpa using this
  clear hr
  go_wp2
  go_loopw [6, 11] (fun _ i wr => ∃ (k : Nat) (ds : List Nat), k ≤ len ∧ i = .int .i64 k ∧ ds.length = k ∧ wr.ownsRow w.heap.size 22 1 (.slice (some ⟨g, 0, none⟩) len c) len (mixed ds xs) ∧ ds.map (cn .f32) = mulC (xs.take k) q ∧ Below w.heap.size w wr) (fun _ i _ => len - (intOf i).toNat)
  case atStart => exact ⟨0, [], Nat.zero_le _, rfl, rfl, by rw [mixed_nil]; exact hom, rfl, hb3⟩
  case round =>
    obtain ⟨k, ds, hk, rfl, hd, ho, hw, hb⟩ := hrel
    by_cases hlt : k < len
    · have hc1 : wr.cell? ⟨g, k, none⟩ = some (.float .f32 (xs.getD k 0)) := by
        have h1 := mixed_at ds xs (by omega)
        rw [hd] at h1
        rw [ho.cellAt k (by omega), h1]
      have hf := ho.frozenAt k
      have hst := ho.stored k (.float .f32 (fv .mul .f32 (xs.getD k 0) q wr))
      have hset := mixed_set ds xs (fv .mul .f32 (xs.getD k 0) q wr) (by omega)
      rw [hd] at hset
      rw [hset] at hst
      have hbs := hb.setCell (p := ⟨g, k, none⟩) (show w.heap.size ≤ g by omega) (.float .f32 (fv .mul .f32 (xs.getD k 0) q wr))
      have hm : (ds ++ [fv .mul .f32 (xs.getD k 0) q wr]).map (cn .f32) = mulC (xs.take (k + 1)) q := by
        rw [mulC_snoc xs q k (by omega), List.map_append, hw, List.map_cons, cn_fv]; rfl
      have hl2 : (ds ++ [fv .mul .f32 (xs.getD k 0) q wr]).length = k + 1 := by simp [hd]
      have HS := Lib.hid hst
      have HM := Lib.hid hm
      have HL := Lib.hid hl2
      have HB := Lib.hid hbs
      clear hst hm hl2 hset hbs ho hw hd hxl
      generalize xs.getD k 0 = p at *
      go_wp2
      go_roundw
      case rel => exact ⟨k + 1, _, by omega, by go_num, HL.out, by first | exact own_draw HS.out.1 _ | exact HS.out.1, HM.out, by first | exact below_drewN HB.out _ | exact HB.out⟩
      case measure => simp [intOf]; omega
    · obtain rfl : k = len := by omega
      have HE : Hid (xs.take k = xs) := List.take_of_length_le (by omega)
      rw [mixed_end ds xs (by omega)] at ho
      have HW := Lib.hid hw
      clear hw hd hxl
      go_wp2
      go_ret
      exact ⟨_, _, rfl, ho, by rw [HW.out, HE.out], hb⟩
set_option maxHeartbeats 1000000 in
theorem implScale_yes (x y : Int) (a : Option Addr) (len cap : Nat) (xs : List Nat) (q : Nat) (w : World) (hr : IsRow mkF w a len cap xs) (hf : fld x y len = true) (hl : len ≤ 1048576) (hn : 0 < len) :
    Calls Try.prog 37 #[.agg #[.int .i64 x, .int .i64 y], .slice a len cap, .float .f32 q] w fun e w' => ∃ (v : Value) (ws : List Nat), e = .returned (.tuple #[v, .bool true]) ∧ w'.ownsRow w.heap.size 22 1 v len (ws.map mkF) ∧ ws.map (cn .f32) = mulC xs q ∧ Below w.heap.size w w' := by
  go_enter Try.func37, Try.ntmps37
  go_wp2_with fail
  refine (implIsField_any _ _ _ _ _ _ hl).mono ?_
  rintro e w1 ⟨rfl, st1⟩
  have hb1 := ((Below.refl w.heap.size w).alloc (Nat.le_refl _) _).trans (st1.mono (by simp))
  have hws := hb1.size
  clear st1
  go_wp2_with fail
  refine (scaled_any _ _ _ _ _ _ (row_below hr hb1) hl hn).mono ?_
  rintro e w2 ⟨v, ws, rfl, ho, hm, st2⟩
  have HM := Lib.hid hm
  clear hm
  go_wp2
  go_ret2
  exact ⟨_, _, rfl, own_mono ho hws, HM.out, hb1.trans (st2.mono hws)⟩

/-! ### Where they fail -/
set_option maxHeartbeats 1000000 in
theorem specScale_no (x y : Int) (a : Option Addr) (len cap : Nat) (q : Nat) (w : World) (hf : fld x y len = false) (hl : len ≤ 1048576) :
    Calls Try.prog 36 #[.agg #[.int .i64 x, .int .i64 y], .slice a len cap, .float .f32 q] w fun e w' => e = .returned (.tuple #[.slice none 0 0, .bool false]) ∧ Below w.heap.size w w' := by
  go_enter Try.func36, Try.ntmps36
  go_wp2_with (go_at_call 50; refine (l02Field_any _ x y _ _ _ _ (by simp) (by simp) hl).mono ?_; rintro e w' ⟨rfl, n, rfl⟩)
  go_ret2
  exact ⟨rfl, below_drewN ((Below.refl _ _).alloc (Nat.le_refl _) _) _⟩
set_option maxHeartbeats 1000000 in
theorem implScale_no (x y : Int) (a : Option Addr) (len cap : Nat) (q : Nat) (w : World) (hf : fld x y len = false) (hl : len ≤ 1048576) :
    Calls Try.prog 37 #[.agg #[.int .i64 x, .int .i64 y], .slice a len cap, .float .f32 q] w fun e w' => e = .returned (.tuple #[.slice none 0 0, .bool false]) ∧ Below w.heap.size w w' := by
  go_enter Try.func37, Try.ntmps37
  go_wp2_with fail
  refine (implIsField_any _ _ _ _ _ _ hl).mono ?_
  rintro e w1 ⟨rfl, st1⟩
  go_wp2
  go_ret2
  exact ⟨rfl, ((Below.refl w.heap.size w).alloc (Nat.le_refl _) _).trans (st1.mono (by simp))⟩
set_option maxHeartbeats 1000000 in
theorem specAdd_no (x y : Int) (a b : Option Addr) (len cap len' cap' : Nat) (w : World) (hf : ¬ (fld x y len = true ∧ fld x y len' = true)) (hl : len ≤ 1048576) (hl' : len' ≤ 1048576) :
    Calls Try.prog 32 #[.agg #[.int .i64 x, .int .i64 y], .slice a len cap, .slice b len' cap'] w fun e w' => e = .returned (.tuple #[.slice none 0 0, .bool false]) ∧ Below w.heap.size w w' := by
  cases h1 : fld x y len
  · clear hf
    go_enter Try.func32, Try.ntmps32
    go_wp2_with (go_at_call 50; refine (l02Field_any _ x y _ _ _ _ (by simp) (by simp) hl).mono ?_; rintro e w' ⟨rfl, n, rfl⟩)
    go_ret2
    exact ⟨rfl, below_drewN ((Below.refl _ _).alloc (Nat.le_refl _) _) _⟩
  · have h2 : fld x y len' = false := by
      cases h : fld x y len'
      · rfl
      · exact absurd ⟨h1, h⟩ hf
    clear hf
    go_enter Try.func32, Try.ntmps32
    go_wp2_with (go_at_call 50; refine (l02Field_any _ x y _ _ _ _ (by simp) (by simp) (by assumption)).mono ?_; rintro e w' ⟨rfl, n, rfl⟩)
    go_ret2
    exact ⟨rfl, below_drewN ((Below.refl _ _).alloc (Nat.le_refl _) _) _⟩
set_option maxHeartbeats 1000000 in
theorem implAdd_no (x y : Int) (a b : Option Addr) (len cap len' cap' : Nat) (w : World) (hf : ¬ (fld x y len = true ∧ fld x y len' = true)) (hl : len ≤ 1048576) (hl' : len' ≤ 1048576) :
    Calls Try.prog 33 #[.agg #[.int .i64 x, .int .i64 y], .slice a len cap, .slice b len' cap'] w fun e w' => e = .returned (.tuple #[.slice none 0 0, .bool false]) ∧ Below w.heap.size w w' := by
  cases h1 : fld x y len
  · clear hf
    go_enter Try.func33, Try.ntmps33
    go_wp2_with fail
    refine (implIsField_any _ _ _ _ _ _ hl).mono ?_
    rintro e w1 ⟨rfl, st1⟩
    go_wp2
    go_ret2
    exact ⟨rfl, ((Below.refl w.heap.size w).alloc (Nat.le_refl _) _).trans (st1.mono (by simp))⟩
  · have h2 : fld x y len' = false := by
      cases h : fld x y len'
      · rfl
      · exact absurd ⟨h1, h⟩ hf
    clear hf
    go_enter Try.func33, Try.ntmps33
    go_wp2_with fail
    refine (implIsField_any _ _ _ _ _ _ hl).mono ?_
    rintro e w1 ⟨rfl, st1⟩
    have hb1 := ((Below.refl w.heap.size w).alloc (Nat.le_refl _) _).trans (st1.mono (by simp))
    obtain ⟨hc1, hf1⟩ := bcell st1
    have hz1 : w.heap.size < w1.heap.size := by have := st1.size; simp at this; omega
    go_wp2_with fail
    refine (implIsField_any _ _ _ _ _ _ hl').mono ?_
    rintro e w2 ⟨rfl, st2⟩
    go_wp2
    go_ret2
    exact ⟨rfl, hb1.trans (st2.mono hb1.size)⟩
end Go.Proofs.Ytgoeadbjnjkgjaa
