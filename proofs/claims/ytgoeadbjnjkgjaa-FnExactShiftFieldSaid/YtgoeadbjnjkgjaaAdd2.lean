/-
  slices.Clone of 32-bit floats; AddFields of the program; both sides where they fail.
-/
import Derived.Test.YtgoeadbjnjkgjaaAdd
import Derived.Test.YtgoeadbjnjkgjaaGridI
namespace Go.Proofs.Ytgoeadbjnjkgjaa
open Go.RowKit
set_option linter.unusedVariables false

theorem row_news {w : World} {b off len cap : Nat} {zs : List Nat} (h : zs.length = len) (hc : ∀ i, i < len → w.cell? ⟨b, off + i, none⟩ = some (mkF (zs.getD i 0))) :
    ∀ j u, (zs.map mkF)[j]? = some u → w.cell? ((⟨b, off, none⟩ : Addr).add j) = some u := by
  intro j u hu
  rw [List.getElem?_map] at hu
  obtain ⟨z, hz, rfl⟩ := Option.map_eq_some_iff.1 hu
  have hj : j < zs.length := (List.getElem?_eq_some_iff.1 hz).1
  have h1 : zs.getD j 0 = z := by simp [List.getD, hz]
  have h2 : (⟨b, off, none⟩ : Addr).add j = ⟨b, off + j, none⟩ := by unfold Addr.add; split <;> simp_all
  rw [h2, hc j (by omega), h1]
theorem mkF_oneCell (zs : List Nat) : ∀ u ∈ zs.map mkF, u.oneCell' = true := by
  intro u hu
  obtain ⟨z, _, rfl⟩ := List.mem_map.1 hu
  rfl
theorem own_shape {w : World} {B e n : Nat} {v : Value} {zs : List Value} (h : w.ownsRow B e 1 v n zs) (hn : 0 < n) : ∃ g c, v = .slice (some ⟨g, 0, none⟩) n c := by
  rcases h.2 with ⟨_, h0⟩ | ⟨g, c, cur, hv, _⟩
  · omega
  · exact ⟨g, c, hv⟩

set_option maxHeartbeats 400000 in
theorem clone_any (a : Option Addr) (len cap : Nat) (zs : List Nat) (w : World) (hr : IsRow mkF w a len cap zs) (hl : len ≤ 1048576) (hn : 0 < len) :
    Calls Try.prog 60 #[.slice a len cap] w fun e w' => ∃ g c, e = .returned (.slice (some ⟨g, 0, none⟩) len c) ∧ w'.ownsRow w.heap.size 22 1 (.slice (some ⟨g, 0, none⟩) len c) len (zs.map mkF) ∧ Below w.heap.size w w' := by
  obtain ⟨i0, hi, hz0, hz1, hz2⟩ := info_parts info_f32
  obtain ⟨h1, h2, h3, h4⟩ := hr
  rcases h4 with h4 | ⟨b, off, rfl, hbl, hc⟩
  · exfalso; rw [h4] at h1; simp at h1; omega
  have he := fun W => Lib.run_eql_slice_nil (P := Try.prog) W 35 22 (some ⟨b, off, none⟩) len cap 0 0 Try.underlying35
  have hnews : ∀ o : Obj, ∀ j u, (zs.map mkF)[j]? = some u → (w.alloc o).cell? ((⟨b, off, none⟩ : Addr).add j) = some u := fun o => row_news (w := w.alloc o) (cap := cap) h1 (fun i hi => by rw [World.cell?_alloc_lt (h := hbl)]; exact hc i hi)
  have HN := Lib.hid hnews
  clear hnews hc
  go_enter Try.func60, Try.ntmps60
  go_wp2_with (at_builtin; go_loud (refine wpList_append_own _ rfl (.tmp 5) (.tmp 6) 35 rfl w.heap.size 22 i0 (.float .f32 0) 1 4 Try.underlying35 hi hz0 hz1 hz2 rfl (by decide) _ 0 [] rfl (own_made rfl (Nat.le_refl _) (Nat.zero_le _) rfl) ⟨b, off, none⟩ len cap (zs.map mkF) rfl (by simpa using h1) (HN.out _) (mkF_oneCell zs) (by unfold maxLen; omega) (by omega) (by simp) ?_))
  intro v' w1 hown hgrow _
  try simp only [Nat.zero_add, List.nil_append] at hown
  have hb1 : Below w.heap.size w w1 := ((Below.refl _ _).alloc (Nat.le_refl _) _).grown hgrow (by simp) (by intro k hk; simp only [Value.ownBlock, Option.some.injEq] at hk; omega)
  obtain ⟨g, c, hv⟩ := own_shape hown hn
  rw [hv] at hown ⊢
  clear hgrow hv he
  go_wp2
  go_ret
  exact ⟨g, c, rfl, hown, hb1⟩

/-! ### AddFields of the program -/
/-- The cells after k rounds: what is done so far as 'ds', the rest as it was. -/
def mixed (ds xs : List Nat) : List Value := (ds ++ xs.drop ds.length).map mkF
theorem mixed_nil (xs : List Nat) : mixed [] xs = xs.map mkF := by simp [mixed]
theorem mixed_end (ds xs : List Nat) (h : ds.length = xs.length) : mixed ds xs = ds.map mkF := by
  unfold mixed
  rw [h, List.drop_of_length_le (Nat.le_refl _), List.append_nil]
theorem mixed_set (ds xs : List Nat) (r : Nat) (h : ds.length < xs.length) : (mixed ds xs).set ds.length (.float .f32 r) = mixed (ds ++ [r]) xs := by
  unfold mixed
  have h2 : xs.drop ds.length = xs[ds.length] :: xs.drop (ds.length + 1) := List.drop_eq_getElem_cons h
  rw [h2, List.map_append, List.map_cons, List.set_append_right _ _ (by simp)]
  simp
theorem mixed_at (ds xs : List Nat) (h : ds.length < xs.length) : (mixed ds xs)[ds.length]? = some (.float .f32 (xs.getD ds.length 0)) := by
  unfold mixed
  have h2 : xs.drop ds.length = xs[ds.length] :: xs.drop (ds.length + 1) := List.drop_eq_getElem_cons h
  rw [h2, List.map_append, List.map_cons, List.getElem?_append_right (by simp)]
  simp [List.getD, h]
set_option maxHeartbeats 1000000 in
theorem implAdd_yes (x y : Int) (a b : Option Addr) (len cap cap' : Nat) (xs ys : List Nat) (w : World) (hr : IsRow mkF w a len cap xs) (hr' : IsRow mkF w b len cap' ys) (hf : fld x y len = true) (hl : len ≤ 1048576) (hn : 0 < len) :
    Calls Try.prog 33 #[.agg #[.int .i64 x, .int .i64 y], .slice a len cap, .slice b len cap'] w fun e w' => ∃ (v : Value) (ws : List Nat), e = .returned (.tuple #[v, .bool true]) ∧ w'.ownsRow w.heap.size 22 1 v len (ws.map mkF) ∧ ws.map (cn .f32) = addC xs ys ∧ Below w.heap.size w w' := by
  go_enter Try.func33, Try.ntmps33
  go_wp2_with fail
  refine (implIsField_any _ _ _ _ _ _ hl).mono ?_
  rintro e w1 ⟨rfl, st1⟩
  have hb1 := ((Below.refl w.heap.size w).alloc (Nat.le_refl _) _).trans (st1.mono (by simp))
  obtain ⟨hc1, hf1⟩ := bcell st1
  have hz1 : w.heap.size < w1.heap.size := by have := st1.size; simp at this; omega
  go_wp2_with fail
  refine (implIsField_any _ _ _ _ _ _ hl).mono ?_
  rintro e w2 ⟨rfl, st2⟩
  have hb2 := hb1.trans (st2.mono hb1.size)
  clear hc1 hf1 hb1 st1
  go_wp2_with fail
  refine (clone_any _ _ _ _ _ (row_below hr hb2) hl hn).mono ?_
  rintro e w3 ⟨g, c, rfl, ho3, st3⟩
  have hb3 := hb2.trans (st3.mono hb2.size)
  have hgw : w2.heap.size ≤ g := (ho3.lt g rfl).1
  have hgw3 : g < w3.heap.size := (ho3.lt g rfl).2
  have hws := hb2.size
  have hom := own_mono ho3 hws
  clear hr st2 st3 hb2 ho3
  obtain ⟨h1', h2', h3', h4'⟩ := hr'
  have hxl : xs.length = len := by have := hom.1; simpa using this
  go_wp2
  go_loopw [9, 10, 25] (fun _ _ i wr => ∃ (k : Nat) (ds : List Nat), k ≤ len ∧ i = .int .i64 k ∧ ds.length = k ∧ wr.ownsRow w.heap.size 22 1 (.slice (some ⟨g, 0, none⟩) len c) len (mixed ds xs) ∧ ds.map (cn .f32) = addC (xs.take k) (ys.take k) ∧ Below w.heap.size w wr) (fun _ _ i _ => len - (intOf i).toNat)
  case atStart => exact ⟨0, [], Nat.zero_le _, rfl, rfl, by rw [mixed_nil]; exact hom, rfl, hb3⟩
  case round =>
    obtain ⟨k, ds, hk, rfl, hd, ho, hw, hb⟩ := hrel
    by_cases hlt : k < len
    · rcases h4' with h4' | ⟨g', off', rfl, hgl', hcy⟩
      · exfalso; rw [h4'] at h1'; simp at h1'; omega
      have hc2 : wr.cell? ⟨g', off' + k, none⟩ = some (.float .f32 (ys.getD k 0)) := by rw [hb.cell (p := ⟨g', off' + k, none⟩) hgl']; exact hcy k hlt
      have hc1 : wr.cell? ⟨g, k, none⟩ = some (.float .f32 (xs.getD k 0)) := by
        have h1 := mixed_at ds xs (by omega)
        rw [hd] at h1
        rw [ho.cellAt k (by omega), h1]
      have hf := ho.frozenAt k
      have hst := ho.stored k (.float .f32 (fv .add .f32 (xs.getD k 0) (ys.getD k 0) wr))
      have hset := mixed_set ds xs (fv .add .f32 (xs.getD k 0) (ys.getD k 0) wr) (by omega)
      rw [hd] at hset
      rw [hset] at hst
      have hbs := hb.setCell (p := ⟨g, k, none⟩) (show w.heap.size ≤ g by omega) (.float .f32 (fv .add .f32 (xs.getD k 0) (ys.getD k 0) wr))
      have hm : (ds ++ [fv .add .f32 (xs.getD k 0) (ys.getD k 0) wr]).map (cn .f32) = addC (xs.take (k + 1)) (ys.take (k + 1)) := by
        rw [addC_snoc xs ys k (by omega) (by omega), List.map_append, hw, List.map_cons, cn_fv]; rfl
      have hl2 : (ds ++ [fv .add .f32 (xs.getD k 0) (ys.getD k 0) wr]).length = k + 1 := by simp [hd]
      have HS := Lib.hid hst
      have HM := Lib.hid hm
      have HL := Lib.hid hl2
      have HB := Lib.hid hbs
      clear hst hm hl2 hset hbs ho hw hcy h1' hd hxl
      generalize xs.getD k 0 = p at *
      generalize ys.getD k 0 = q at *
      go_wp2
      go_roundw
      case rel => exact ⟨k + 1, _, by omega, by go_num, HL.out, by first | exact own_draw HS.out.1 _ | exact HS.out.1, HM.out, by first | exact below_drewN HB.out _ | exact HB.out⟩
      case measure => simp [intOf]; omega
    · obtain rfl : k = len := by omega
      have HE : Hid (xs.take k = xs) := List.take_of_length_le (by omega)
      have HE' : Hid (ys.take k = ys) := List.take_of_length_le (by omega)
      rw [mixed_end ds xs (by omega)] at ho
      have HW := Lib.hid hw
      clear hw h1' h4' hd hxl
      go_wp2
      go_ret2
      exact ⟨_, _, rfl, ho, by rw [HW.out, HE.out, HE'.out], hb⟩
end Go.Proofs.Ytgoeadbjnjkgjaa
