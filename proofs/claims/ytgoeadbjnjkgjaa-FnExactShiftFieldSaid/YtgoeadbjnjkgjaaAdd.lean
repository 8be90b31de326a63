/-
  Appending to a row of the call's own inside a region that draws its order; AddFields of the reference.
-/
import Derived.Test.YtgoeadbjnjkgjaaGrid
import Derived.Deep.RegionLaw
namespace Go.Proofs.Ytgoeadbjnjkgjaa
open Go.RowKit
set_option linter.unusedVariables false

theorem step_append_own {P : Program} {ops : Array Oper} {o : Oper} {a : Act} {w : World} {K : Act → World → Prop} {Q : Exit → Act → World → Prop} {E : Prop}
    (hg : o.guard = none) (s x : Operand) (t : TypeId) (hop : o.op = Op.call { callee := Callee.builtin Builtin.append, args := #[s, x], argTypes := #[t, t] })
    (base : Nat) (e : TypeId) (i : TypeInfo) (z : Value) (size bytes : Nat) (ht : P.underlying t = some (.slice e)) (hi : P.info? e = some i) (hz : i.zero = some z)
    (hsize : i.size = size) (hby : i.bytes = bytes) (hzs : z.cells.size = size) (hsz : 0 < size)
    (v : Value) (n : Nat) (xs : List Value) (hs : a.eval s = v) (hown : w.ownsRow base e size v n xs)
    (ad : Addr) (m c : Nat) (news : List Value) (hx : a.eval x = .slice (some ad) m c) (hl : news.length = m * size) (hnews : ∀ j u, news[j]? = some u → w.cell? (ad.add j) = some u) (h1 : ∀ u ∈ news, u.oneCell' = true)
    (h63 : n + m ≤ maxLen) (hbytes : (n + m) * bytes ≤ 140737488355328) (hbase : base ≤ w.heap.size)
    (hK : ∀ v' w', w'.ownsRow base e size v' (n + m) (xs ++ news) → w.grownBy w' v.ownBlock → K (a.put o.dst v') w') :
    if Region.wanted o (yielded ops a.tmps) = true then Oper.wp P o a w K Q else E := by
  rw [if_pos (by simp [Region.wanted, hg])]
  exact wp_append_own w s x t hop base e i z size bytes ht hi hz hsize hby hzs hsz v n xs hs hown ad m c news hx hl hnews h1 h63 hbytes hbase (fun v' w' h2 h3 _ => hK v' w' h2 h3)
theorem own_draw {w : World} {B e s n : Nat} {v : Value} {xs : List Value} (h : w.ownsRow B e s v n xs) (k : Nat) : (w.drewN k).ownsRow B e s v n xs := h

theorem own_made {w : World} {cur : Array Value} {cap e size base g : Nat} (hg : w.heap.size = g) (hb : base ≤ g) (hm : cap ≤ maxLen) (hs : cur.size = cap * size) : (w.alloc (.cells cur e)).ownsRow base e size (.slice (some ⟨g, 0, none⟩) 0 cap) 0 [] := by
  subst hg
  exact World.ownsRow_made w cur cap hb hm hs
/-- The sums, every NaN told as one. -/
def addC (xs ys : List Nat) : List Nat := List.zipWith (fun x y => fo .add .f32 (cn .f32 x) (cn .f32 y)) xs ys
theorem take_succ_getD' (l : List Nat) (k : Nat) (h : k < l.length) : l.take (k + 1) = l.take k ++ [l.getD k 0] := by
  rw [List.take_succ_eq_append_getElem h]
  simp [List.getD, h]
theorem addC_snoc (xs ys : List Nat) (k : Nat) (h : k < xs.length) (h' : k < ys.length) : addC (xs.take (k + 1)) (ys.take (k + 1)) = addC (xs.take k) (ys.take k) ++ [fo .add .f32 (cn .f32 (xs.getD k 0)) (cn .f32 (ys.getD k 0))] := by
  rw [take_succ_getD' xs k h, take_succ_getD' ys k h']
  unfold addC
  rw [List.zipWith_append (by simp; omega)]
  simp
set_option maxHeartbeats 1000000 in
theorem specAdd_yes (x y : Int) (a b : Option Addr) (len cap cap' : Nat) (xs ys : List Nat) (w : World) (hr : IsRow mkF w a len cap xs) (hr' : IsRow mkF w b len cap' ys) (hf : fld x y len = true) (hl : len ≤ 1048576) :
    Calls Try.prog 32 #[.agg #[.int .i64 x, .int .i64 y], .slice a len cap, .slice b len cap'] w fun e w' => ∃ (v : Value) (ws : List Nat), e = .returned (.tuple #[v, .bool true]) ∧ w'.ownsRow w.heap.size 22 1 v len (ws.map mkF) ∧ ws.map (cn .f32) = addC xs ys ∧ Below w.heap.size w w' := by
  obtain ⟨i0, hi, hz0, hz1, hz2⟩ := info_parts info_f32
  obtain ⟨h1, h2, h3, h4⟩ := hr
  obtain ⟨h1', h2', h3', h4'⟩ := hr'
  go_enter Try.func32, Try.ntmps32
  go_wp2_with (go_at_call 50; refine (l02Field_any _ x y _ _ _ _ (by simp) (by simp) hl).mono ?_; rintro e w' ⟨rfl, n, rfl⟩)
  go_loopw [8, 9] (fun v i wr => ∃ (k : Nat) (ws : List Nat), k ≤ len ∧ i = .int .i64 k ∧ wr.ownsRow w.heap.size 22 1 v k (ws.map mkF) ∧ ws.map (cn .f32) = addC (xs.take k) (ys.take k) ∧ Below w.heap.size w wr) (fun _ i _ => len - (intOf i).toNat)
  case atStart =>
    refine ⟨0, [], Nat.zero_le _, rfl, own_made ?_ ?_ (Nat.zero_le _) rfl, rfl, (below_drewN ((Below.refl _ _).alloc (Nat.le_refl _) _) _).alloc ?_ _⟩
    · simp only [World.heap_drewN, World.size_alloc]
    · omega
    · simp only [World.heap_drewN, World.size_alloc]; omega
  case round =>
    obtain ⟨k, ws, hk, rfl, ho, hw, hb⟩ := hrel
    by_cases hlt : k < len
    · rcases h4 with h4 | ⟨g, off, rfl, hgl, hcx⟩
      · exfalso; rw [h4] at h1; simp at h1; omega
      rcases h4' with h4' | ⟨g', off', rfl, hgl', hcy⟩
      · exfalso; rw [h4'] at h1'; simp at h1'; omega
      have hc1 : wr.cell? ⟨g, off + k, none⟩ = some (.float .f32 (xs.getD k 0)) := by rw [hb.cell (p := ⟨g, off + k, none⟩) hgl]; exact hcx k hlt
      have hc2 : wr.cell? ⟨g', off' + k, none⟩ = some (.float .f32 (ys.getD k 0)) := by rw [hb.cell (p := ⟨g', off' + k, none⟩) hgl']; exact hcy k hlt
      have HT : Hid (addC (xs.take (k + 1)) (ys.take (k + 1)) = addC (xs.take k) (ys.take k) ++ [fo .add .f32 (cn .f32 (xs.getD k 0)) (cn .f32 (ys.getD k 0))]) := addC_snoc xs ys k (by omega) (by omega)
      have HW := Lib.hid hw
      have hsz := hb.size
      clear hcx hcy h1 h1' hw
      generalize xs.getD k 0 = p at *
      generalize ys.getD k 0 = q at *
      go_wp2_with fail
      go_region_law (refine step_append_own rfl (.tmp 25) (.tmp 35) 35 rfl w.heap.size 22 i0 (.float .f32 0) 1 4 Try.underlying35 hi hz0 hz1 hz2 rfl (by decide) _ k _ rfl (by exact (own_draw ho _).alloc _) ⟨wr.heap.size, 0, none⟩ 1 1 [.float .f32 (fv .add .f32 p q wr.drew)] rfl rfl (by exact cell_one_new _ _ _) (by simp [Value.oneCell']) (by unfold maxLen; omega) (by omega) (by simp; omega) ?_; intro v' w1 hown1 hgrow1)
      all_goals
        have hb1 : Below w.heap.size w w1 := ((below_drewN hb _).alloc hsz _).grown hgrow1 (by simp; omega) (fun j hj => (ho.lt j hj).1)
        have hown2 : w1.ownsRow w.heap.size 22 1 v' (k + 1) ((ws ++ [fv .add .f32 p q wr.drew]).map mkF) := by rw [List.map_append]; exact hown1
        have hmap : (ws ++ [fv .add .f32 p q wr.drew]).map (cn .f32) = addC (xs.take (k + 1)) (ys.take (k + 1)) := by rw [List.map_append, HW.out, HT.out, List.map_cons, cn_fv]; rfl
        have HM := Lib.hid hmap
        clear hmap hown1 hgrow1 ho
        go_wp2
        go_roundw
        case rel => exact ⟨k + 1, _, by omega, by go_num, hown2, HM.out, hb1⟩
        case measure => simp [intOf]; omega
    · obtain rfl : k = len := by omega
      have HE : Hid (xs.take k = xs) := List.take_of_length_le (by omega)
      have HE' : Hid (ys.take k = ys) := List.take_of_length_le (by omega)
      have HW := Lib.hid hw
      clear hw h1 h4 h1' h4'
      go_wp2
      go_ret2
      exact ⟨_, _, rfl, ho, by rw [HW.out, HE.out, HE'.out], hb⟩
end Go.Proofs.Ytgoeadbjnjkgjaa
