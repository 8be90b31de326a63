/-
  The reference's cut of a text at its commas.
-/
import Derived.Test.YtcbfefamemidnaaDoorRow
import Derived.Test.YtcbfefamemidnaaDoorCt
import Derived.Lib.Hide
import Derived.Lib.Slices
import Derived.OwnWalk
import Derived.WalkKit
import Derived.BigCall
import Derived.Below
namespace Go.Proofs.YtcbfefamemidnaaDoor
open Go.RowKit Go.Lib
set_option linter.unusedVariables false
set_option linter.unusedSimpArgs false

theorem info_str : (Tryd.prog.info? 9).map (fun i => (i.zero, i.size, i.bytes)) = some (some (.string ByteArray.empty), 1, 16) := by kernel_rfl
def strs (ws : List (List UInt8)) : List Value := ws.map fun l => Value.string ⟨l.toArray⟩
theorem strs_snoc (ws : List (List UInt8)) (x : List UInt8) : strs (ws ++ [x]) = strs ws ++ [Value.string ⟨x.toArray⟩] := by simp [strs]
theorem cell_one_at (w : World) (v : Value) (e : TypeId) : ∀ j u, [v][j]? = some u → (w.alloc (.cells #[v] e)).cell? ((⟨w.heap.size, 0, none⟩ : Addr).add j) = some u := by
  intro j u hj
  match j, hj with
  | 0, hj => simp at hj; subst hj; simp [Addr.add]
theorem app_strs {w w2 : World} {k : Nat} {ws : List (List UInt8)} {x : List UInt8} (hb : Below w.heap.size w w2) {v : Value} (v2 : Value) (w3 : World)
    (hv : ∀ j, v.ownBlock = some j → w.heap.size ≤ j) (ho : w3.ownsRow w.heap.size 9 1 v2 (k + 1) (strs ws ++ [Value.string ⟨x.toArray⟩])) (hg : (w2.alloc (.cells #[Value.string ⟨x.toArray⟩] 9)).grownBy w3 v.ownBlock) :
    w3.ownsRow w.heap.size 9 1 v2 (k + 1) (strs (ws ++ [x])) ∧ Below w.heap.size w w3 := by
  rw [strs_snoc]
  have := hb.size
  exact ⟨ho, (hb.alloc hb.size _).grown hg (by simp; omega) hv⟩
theorem own_start (w : World) (e : TypeId) : (w.alloc (.cells #[] e)).ownsRow w.heap.size e 1 (.slice (some ⟨w.heap.size, 0, none⟩) 0 0) 0 [] :=
  ⟨rfl, .inr ⟨w.heap.size, 0, #[], rfl, Nat.le_refl _, by unfold World.alloc; simp, Nat.le_refl _, Nat.zero_le _, rfl, rfl⟩⟩
theorem addr_at (g j : Nat) : (⟨g, 0, none⟩ : Addr).add j = ⟨g, j, none⟩ := by unfold Addr.add; split <;> simp_all
theorem pw_below {w w' : World} {B e s n : Nat} {v : Value} {xs : List Value} (h : w.ownsRow B e s v n xs) (hb : Below w.heap.size w w') : w'.ownsRow B e s v n xs := by
  refine ⟨h.1, ?_⟩
  rcases h.2 with hn | ⟨g, cap, cur, rfl, hB, hg, rest⟩
  · exact .inl hn
  · exact .inr ⟨g, cap, cur, rfl, hB, by rw [hb.block g (Array.getElem?_eq_some_iff.1 hg).1]; exact hg, rest⟩
theorem pw_mono {w : World} {B B' e s n : Nat} {v : Value} {xs : List Value} (h : w.ownsRow B e s v n xs) (hB : B' ≤ B) : w.ownsRow B' e s v n xs := by
  refine ⟨h.1, ?_⟩
  rcases h.2 with hn | ⟨g, cap, cur, rfl, hB', rest⟩
  · exact .inl hn
  · exact .inr ⟨g, cap, cur, rfl, Nat.le_trans hB hB', rest⟩
theorem pw_grown {w w' : World} {B e s n : Nat} {v : Value} {xs : List Value} {r : Option Nat} (h : w.ownsRow B e s v n xs) (hg : w.grownBy w' r) (hne : ∀ j, v.ownBlock = some j → r ≠ some j) : w'.ownsRow B e s v n xs := by
  refine ⟨h.1, ?_⟩
  rcases h.2 with hn | ⟨g, cap, cur, rfl, hB, hgg, rest⟩
  · exact .inl hn
  · exact .inr ⟨g, cap, cur, rfl, hB, by rw [hg.block g (Array.getElem?_eq_some_iff.1 hgg).1 (hne g rfl).symm]; exact hgg, rest⟩
/-- Rows of two types lie in two blocks. -/
theorem pw_ne {w : World} {B B' e e' s s' n n' : Nat} {v v' : Value} {xs xs' : List Value} (h : w.ownsRow B e s v n xs) (h' : w.ownsRow B' e' s' v' n' xs') (he : e ≠ e') : ∀ j, v.ownBlock = some j → v'.ownBlock ≠ some j := by
  intro j hj hj'
  rcases h.2 with ⟨rfl, _⟩ | ⟨g, cap, cur, rfl, _, hg, _⟩
  · cases hj
  rcases h'.2 with ⟨rfl, _⟩ | ⟨g', cap', cur', rfl, _, hg', _⟩
  · cases hj'
  obtain rfl : g = j := Option.some.inj hj
  obtain rfl : g' = g := Option.some.inj hj'
  rw [hg] at hg'
  have := Option.some.inj hg'
  simp only [Obj.cells.injEq] at this
  exact he this.2.1
theorem pw_made (w : World) (ws : List (List UInt8)) (h : ws.length ≤ 1048577) : (w.alloc (.cells (ws.map fun l => Value.string ⟨l.toArray⟩).toArray 9)).ownsRow 0 9 1 (.slice (some ⟨w.heap.size, 0, none⟩) ws.length ws.length) ws.length (strs ws) :=
  ⟨by simp [strs], .inr ⟨w.heap.size, ws.length, (ws.map fun l => Value.string ⟨l.toArray⟩).toArray, rfl, Nat.zero_le _, by unfold World.alloc; simp, Nat.le_refl _, by unfold maxLen; omega, by simp, by rw [Nat.mul_one]; exact List.take_of_length_le (by simp)⟩⟩
def cutRel (s : ByteArray) (w : World) (v f i : Value) (wr : World) : Prop := ∃ (D : List (List UInt8)) (a k : Nat), f = .int .i64 a ∧ i = .int .i64 k ∧ a ≤ k ∧ k ≤ s.size + 1 ∧ D.length ≤ k ∧ v ≠ .slice none 0 0 ∧
  ((k ≤ s.size ∧ D ++ cutF ((s.data.toList.drop a).take (k - a)) (s.data.toList.drop k) = cut s.data.toList) ∨ (k = s.size + 1 ∧ D = cut s.data.toList)) ∧
  wr.ownsRow w.heap.size 9 1 v D.length (strs D) ∧ Below w.heap.size w wr
def cutPost (s : ByteArray) (w : World) (e : Ending) (w' : World) : Prop := ∃ g c, e = .returned (.slice (some ⟨g, 0, none⟩) (cut s.data.toList).length c) ∧ w'.ownsRow w.heap.size 9 1 (.slice (some ⟨g, 0, none⟩) (cut s.data.toList).length c) (cut s.data.toList).length (strs (cut s.data.toList)) ∧ Below w.heap.size w w'
set_option maxHeartbeats 2000000 in
theorem l01Cut_any (s : ByteArray) (w : World) (hs : s.size ≤ 1048576) :
    Calls Tryd.prog 75 #[.string s, .int .u8 44] w (cutPost s w) := by
  obtain ⟨i0, hi, hz0, hz1, hz2⟩ := info_parts info_str
  have HI := Lib.hid (And.intro hi (And.intro hz0 (And.intro hz1 hz2)))
  clear hi hz0 hz1 hz2
  go_enter Tryd.func75, Tryd.ntmps75
  go_wp2
  go_loopw [5, 6, 7] (fun v f i wr => cutRel s w v f i wr) (fun _ _ i _ => s.size + 1 - (Go.RowKit.intOf i).toNat)
  case atStart => exact ⟨[], 0, 0, rfl, rfl, Nat.le_refl _, by omega, Nat.le_refl _, by simp, .inl ⟨Nat.zero_le _, by simp [cut]⟩, own_start _ _, (Below.refl _ _).alloc (Nat.le_refl _) _⟩
  case round =>
    obtain ⟨D, a, k, rfl, rfl, hak, hk, hD, hv, hc, ho, hb⟩ := hrel
    have hsz := hb.size
    by_cases hlt : k ≤ s.size
    · have hc : D ++ cutF ((s.data.toList.drop a).take (k - a)) (s.data.toList.drop k) = cut s.data.toList := by rcases hc with ⟨_, h⟩ | ⟨h, _⟩ <;> first | exact h | omega
      by_cases hend : k = s.size
      · have hC : D ++ [(s.data.toList.drop a).take (s.size - a)] = cut s.data.toList := by
          rw [← hc, hend]
          have e := cut_end s.data.toList a
          have e2 : s.data.toList.length = s.size := by simp
          rw [e2] at e
          rw [e]
        have HC := Lib.hid hC
        clear hc hC hv
        subst hend
        go_wp2_with (at_builtin; go_loud (refine wpList_append_own _ rfl (.tmp 26) (.tmp 31) 81 rfl w.heap.size 9 i0 (.string ByteArray.empty) 1 16 Tryd.underlying81 HI.out.1 HI.out.2.1 HI.out.2.2.1 HI.out.2.2.2 rfl (by decide) _ D.length _ rfl (by exact ho.alloc _) ⟨wr.heap.size, 0, none⟩ 1 1 [Value.string (s.extract a s.size)] rfl rfl (by exact cell_one_at _ _ _) (by simp [Value.oneCell']) (by unfold maxLen; omega) (by omega) (by simp; omega) ?_); intro v2 w3 hown3 hgrow hnil; refine Hid.out ?_)
        refine Lib.hid ?_
        rw [ext_list] at hown3 hgrow
        have HY := Lib.hid (app_strs hb v2 w3 (fun j hj => (ho.lt j hj).1) hown3 hgrow)
        have HNV : Hid (v2 ≠ .slice none 0 0) := fun h => absurd (hnil.1 h).2 (by decide)
        clear hown3 hgrow hnil ho
        go_wp2
        go_roundw
        case rel => exact ⟨D ++ [(s.data.toList.drop a).take (s.size - a)], s.size + 1, s.size + 1, by go_num, by go_num, Nat.le_refl _, by omega, by simp; omega, HNV.out, .inr ⟨rfl, HC.out⟩, by rw [List.length_append]; exact HY.out.1, HY.out.2⟩
        case measure => simp [Go.RowKit.intOf] <;> omega
      · have hlt2 : k < s.size := by omega
        have hll : k < s.data.toList.length := by simpa using hlt2
        have hne : ((k : Int) == (s.size : Int)) = false := by rw [beq_eq_false_iff_ne]; omega
        by_cases hm : (s[k].toNat : Int) = 44
        · have hme : s.data.toList[k] = 44 := UInt8.toNat_inj.1 (by show s[k].toNat = 44; omega)
          have hC : (D ++ [(s.data.toList.drop a).take (k - a)]) ++ cutF ((s.data.toList.drop (k + 1)).take (k + 1 - (k + 1))) (s.data.toList.drop (k + 1)) = cut s.data.toList := by
            rw [Nat.sub_self, List.take_zero, List.append_assoc, ← hc, cut_mark hll hme]
            rfl
          have HC := Lib.hid hC
          have hb44 : ((s[k].toNat : Int) == 44) = true := by rw [beq_iff_eq]; exact hm
          clear hc hC hv hm hme hend
          go_wp2_with (at_builtin; go_loud (refine wpList_append_own _ rfl (.tmp 26) (.tmp 31) 81 rfl w.heap.size 9 i0 (.string ByteArray.empty) 1 16 Tryd.underlying81 HI.out.1 HI.out.2.1 HI.out.2.2.1 HI.out.2.2.2 rfl (by decide) _ D.length _ rfl (by exact ho.alloc _) ⟨wr.heap.size, 0, none⟩ 1 1 [Value.string (s.extract a k)] rfl rfl (by exact cell_one_at _ _ _) (by simp [Value.oneCell']) (by unfold maxLen; omega) (by omega) (by simp; omega) ?_); intro v2 w3 hown3 hgrow hnil; refine Hid.out ?_)
          refine Lib.hid ?_
          rw [ext_list] at hown3 hgrow
          have HY := Lib.hid (app_strs hb v2 w3 (fun j hj => (ho.lt j hj).1) hown3 hgrow)
          have HNV : Hid (v2 ≠ .slice none 0 0) := fun h => absurd (hnil.1 h).2 (by decide)
          clear hown3 hgrow hnil ho
          go_wp2
          go_roundw
          case rel => exact ⟨D ++ [(s.data.toList.drop a).take (k - a)], k + 1, k + 1, by go_num, by go_num, Nat.le_refl _, by omega, by simp; omega, HNV.out, .inl ⟨by omega, HC.out⟩, by rw [List.length_append]; exact HY.out.1, HY.out.2⟩
          case measure => simp [Go.RowKit.intOf] <;> omega
        · have hme : ¬ s.data.toList[k] = 44 := fun h => hm (by have h2 : s[k] = 44 := h; rw [h2]; rfl)
          have hC : D ++ cutF ((s.data.toList.drop a).take (k + 1 - a)) (s.data.toList.drop (k + 1)) = cut s.data.toList := by rw [← cut_other hll hak hme]; exact hc
          have HC := Lib.hid hC
          have HV := Lib.hid hv
          have hb44 : ((s[k].toNat : Int) == 44) = false := by rw [beq_eq_false_iff_ne]; exact hm
          clear hc hC hv hm hme hend
          go_wp2
          go_roundw
          case rel => exact ⟨D, a, k + 1, rfl, by go_num, by omega, by omega, by omega, HV.out, .inl ⟨by omega, HC.out⟩, ho, hb⟩
          case measure => simp [Go.RowKit.intOf] <;> omega
    · obtain rfl : k = s.size + 1 := by omega
      have hc : D = cut s.data.toList := by rcases hc with ⟨h, _⟩ | ⟨_, h⟩ <;> first | exact h | omega
      rcases ho.2 with ⟨h, -⟩ | ⟨g, c, cur, rfl, -, -, -, -, -, -⟩
      · exact absurd h hv
      have HC := Lib.hid hc
      have HO := Lib.hid ho
      clear hc ho hv
      go_wp2
      go_ret
      have hc := HC.out
      subst hc
      exact ⟨g, c, rfl, HO.out, hb⟩
end Go.Proofs.YtcbfefamemidnaaDoor
