/-
  strconv.ParseUint at base 16 and 32 bits, walked.
-/
import Derived.Test.YtcbfefamemidnaaDoorHx
import Derived.Test.YtcbfefamemidnaaDoorLd
import Derived.Lib.Strings
import Derived.Lib.Walk
import Derived.Lib.ConvBytes
import Derived.Lib.ParseIntBMem
import Derived.Lib.Hide
import Derived.Laws.Strings3
import Derived.Laws.Closers25
import Derived.Laws.Closers25b
import Derived.WalkKit
import Derived.BigCall
import Derived.BigGuard
namespace Go.Proofs.YtcbfefamemidnaaDoor
open Go.RowKit
set_option linter.unusedVariables false
set_option linter.unusedSimpArgs false

/-- How a reading at base 16 ends. -/
inductive PuE where
  | good (n : Nat)
  | bad
  | big
def lw (c : UInt8) : Nat := c.toNat ||| 32
/-- The digit of a byte, as strconv takes it: letters up to z, great ones too. -/
def dv (c : UInt8) : Option Nat := if 48 ≤ c.toNat ∧ c.toNat ≤ 57 then some (c.toNat - 48) else if 97 ≤ lw c ∧ lw c ≤ 122 then some (lw c - 87) else none
def pu : List UInt8 → Nat → PuE
  | [], n => .good n
  | c :: r, n => match dv c with
    | none => .bad
    | some d => if 16 ≤ d then .bad else if 4294967295 < n * 16 + d then .big else pu r (n * 16 + d)
theorem dv_hv {c : UInt8} {d : Nat} (h : hv c = some d) : dv c = some d := by
  have h2 := hx_hv h
  unfold hv at h
  unfold dv
  split at h
  · rename_i h1; rw [if_pos h1]; exact h
  · rename_i h1
    rw [if_neg h1]
    split at h
    · rename_i h3
      have e : lw c = c.toNat := by
        have hall : ∀ x : Fin 256, 97 ≤ x.val ∧ x.val ≤ 102 → x.val ||| 32 = x.val := by decide +kernel
        exact hall ⟨c.toNat, c.toNat_lt⟩ h3
      rw [e, if_pos (by omega)]
      exact h
    · cases h
theorem hread_le : ∀ (l : List UInt8) (n m : Nat), hread l n = some m → n ≤ m
  | [], n, m, h => by
    have : n = m := by simpa [hread] using h
    omega
  | c :: l, n, m, h => by
    rw [hread] at h
    cases hc : hv c with
    | none => rw [hc] at h; cases h
    | some d =>
      rw [hc] at h
      have := hread_le l _ m h
      omega
/-- Lower-case hexadecimal digits are read as what they spell. -/
theorem pu_hread : ∀ (l : List UInt8) (n m : Nat), hread l n = some m → m ≤ 4294967295 → pu l n = .good m
  | [], n, m, h, hm => by
    have : n = m := by simpa [hread] using h
    rw [this]; rfl
  | c :: l, n, m, h, hm => by
    rw [hread] at h
    cases hc : hv c with
    | none => rw [hc] at h; cases h
    | some d =>
      rw [hc] at h
      have h16 := (hx_hv hc).1
      have hle := hread_le l _ m h
      rw [pu, dv_hv hc]
      show (if 16 ≤ d then PuE.bad else _) = _
      rw [if_neg (by omega), if_neg (by omega), show n * 16 + d = 16 * n + d by omega]
      exact pu_hread l _ m h hm
def puV : PuE → Value
  | .good n => .tuple #[.int .u64 (n : Int), .nilIface]
  | .bad => .tuple #[.int .u64 0, .iface 101 (.int .i64 2)]
  | .big => .tuple #[.int .u64 4294967295, .iface 101 (.int .i64 1)]
theorem low_fin : ∀ c : Fin 256, bits .or .u8 (c.val : Int) 32 = ((c.val ||| 32 : Nat) : Int) := by decide +kernel
theorem low_any (c : UInt8) (w : World) : Calls Tryd.prog 111 #[.int .u8 (c.toNat : Int)] w fun e w' => e = .returned (.int .u8 (lw c : Int)) ∧ w = w' := by
  have h : bits .or .u8 (c.toNat : Int) 32 = (lw c : Int) := low_fin ⟨c.toNat, c.toNat_lt⟩
  go_enter Tryd.func111, Tryd.ntmps111
  go_wp2
  go_ret
  exact ⟨rfl, rfl⟩
theorem low_95 (w : World) : Calls Tryd.prog 111 #[.int .u8 95] w fun e w' => e = .returned (.int .u8 127) ∧ w = w' := low_any 95 w
set_option maxHeartbeats 32000000 in
set_option maxRecDepth 100000 in
theorem pu_any (t : ByteArray) (hne : t.size ≠ 0) (hmax : t.size ≤ 1048577) (w : World) :
    Calls Tryd.prog 89 #[.string t, .int .i64 16, .int .i64 32] w fun e w' => e = .returned (puV (pu t.data.toList 0)) ∧ w' = Lib.bytesWorld w 5 t := by
  have hemp : t.toList.isEmpty = false := by
    rw [← decide_eq_emptyBytes]
    exact decide_eq_false (fun h => hne (by rw [h]; rfl))
  have hcv := Lib.run_convert_string_bytes (P := Tryd.prog) w 9 72 5 t (u := .string) Tryd.underlying9 Tryd.underlying72 Tryd.underlying5
  have hB : ∀ j, j < t.size → (Lib.bytesWorld w 5 t).cell? ⟨w.heap.size, j, none⟩ = some (.int .u8 (t.data.toList.getD j 0).toNat) := fun j hj => Lib.bytesWorld_cell w 5 t j hj
  obtain ⟨W1, hW1⟩ : ∃ W1, W1 = Lib.bytesWorld w 5 t := ⟨_, rfl⟩
  rw [← hW1] at hcv hB ⊢
  clear hW1
  obtain ⟨bs, hL⟩ : ∃ bs, bs = t.data.toList := ⟨_, rfl⟩
  have hLn : bs.length = t.size := by rw [hL, Lib.size_eq]
  rw [← hL] at hB ⊢
  clear hL
  have hmv : IntKind.u64.wrap (IntKind.u64.wrap 4294967296 - 1) = 4294967295 := by
    rw [IntKind.wrap_u64, IntKind.wrap_u64]
    decide
  have HB := Lib.hid hB
  have HLN := Lib.hid hLn
  clear hB hLn
  go_enter Tryd.func89, Tryd.ntmps89
  go_wp2
  go_loop [12, 13, 101] (fun vu vn vi => ∃ (k acc : Nat) (a : Int), vu = .bool false ∧ vn = .int .u64 a ∧ vi = .int .i64 k ∧ k ≤ t.size ∧ Hid (a = (acc : Int) ∧ acc ≤ 4294967295 ∧ pu bs 0 = pu (bs.drop k) acc))
    (fun _ _ vi => t.size - (intOf vi).toNat)
  case atStart => exact ⟨0, 0, 0, rfl, rfl, rfl, by omega, rfl, by omega, rfl⟩
  case round =>
    obtain ⟨k, acc, a, rfl, rfl, rfl, hk, hh⟩ := hrel
    obtain ⟨ha, hacc, hdec⟩ := hh.out
    clear hh
    have a0 : 0 ≤ a := by omega
    have a1 : a ≤ 4294967295 := by omega
    by_cases hkn : k < t.size
    · have hkb : k < bs.length := by rw [HLN.out]; exact hkn
      have hc := HB.out k hkn
      have hdrop : bs.drop k = bs[k] :: bs.drop (k + 1) := List.drop_eq_getElem_cons hkb
      have hget : bs.getD k 0 = bs[k] := by simp [List.getD, List.getElem?_eq_getElem hkb]
      rw [hdrop] at hdec
      rw [hget] at hc
      generalize bs[k] = c at hc hdec
      have hc256 : c.toNat < 256 := c.toNat_lt
      clear hdrop hget hkb
      by_cases hdig : 48 ≤ c.toNat ∧ c.toNat ≤ 57
      · obtain ⟨hd0, hd1⟩ := hdig
        have hdv : dv c = some (c.toNat - 48) := by unfold dv; rw [if_pos ⟨hd0, hd1⟩]
        by_cases hov : 4294967295 < acc * 16 + (c.toNat - 48)
        · have hF : pu (c :: bs.drop (k + 1)) acc = .big := by
            rw [pu, hdv]
            show (if 16 ≤ c.toNat - 48 then PuE.bad else _) = _
            rw [if_neg (by omega), if_pos hov]
          rw [hF] at hdec
          have HDEC := Lib.hid hdec
          have iov : 4294967295 < a * 16 + ((c.toNat : Int) - 48) := by omega
          clear hacc hF hov ha hdec hdv
          go_wp2
          go_ret2
          exact ⟨by rw [HDEC.out]; rfl, rfl⟩
        · have hF : pu (c :: bs.drop (k + 1)) acc = pu (bs.drop (k + 1)) (acc * 16 + (c.toNat - 48)) := by
            rw [pu, hdv]
            show (if 16 ≤ c.toNat - 48 then PuE.bad else _) = _
            rw [if_neg (by omega), if_neg hov]
          have HN : Hid (a * 16 + ((c.toNat : Int) - 48) = ((acc * 16 + (c.toNat - 48) : Nat) : Int) ∧ acc * 16 + (c.toNat - 48) ≤ 4294967295 ∧ pu bs 0 = pu (bs.drop (k + 1)) (acc * 16 + (c.toNat - 48))) := Lib.hid ⟨by omega, by omega, hdec.trans hF⟩
          have iov : a * 16 + ((c.toNat : Int) - 48) ≤ 4294967295 := by omega
          clear hacc hF hov ha hdec hdv
          go_wp2
          refine ⟨⟨k + 1, acc * 16 + (c.toNat - 48), a * 16 + ((c.toNat : Int) - 48), rfl, (by first | rfl | (congr 1; omega)), (by first | rfl | (congr 1; omega)), by omega, HN⟩, by simp [intOf]; omega⟩
      · have hlow := low_any c
        obtain ⟨v, hv⟩ : ∃ v, v = lw c := ⟨_, rfl⟩
        rw [← hv] at hlow
        have HLOW := Lib.hid hlow
        have hall : ∀ x : Fin 256, (x.val ||| 32) < 256 ∧ (97 ≤ x.val ||| 32 ∧ x.val ||| 32 ≤ 122 → x.val ≠ 95 ∧ 58 ≤ x.val) := by decide +kernel
        have hv2 : v < 256 ∧ (97 ≤ v ∧ v ≤ 122 → c.toNat ≠ 95 ∧ 58 ≤ c.toNat) := by rw [hv]; exact hall ⟨c.toNat, hc256⟩
        obtain ⟨hv256, hv95⟩ := hv2
        by_cases hlet : 97 ≤ v ∧ v ≤ 122
        · obtain ⟨hc95, hc58⟩ := hv95 hlet
          have h57 : (58 : Int) ≤ (c.toNat : Int) := by omega
          obtain ⟨hl0, hl1⟩ := hlet
          have hdv : dv c = some (v - 87) := by unfold dv; rw [if_neg hdig, ← hv, if_pos ⟨hl0, hl1⟩]
          have hb95 : ((c.toNat : Int) == 95) = false := by rw [beq_eq_false_iff_ne]; omega
          have hv0 : (97 : Int) ≤ (v : Int) := by omega
          have hv1 : (v : Int) ≤ 122 := by omega
          clear hall hv hlow hv95 hc95
          by_cases h16 : 103 ≤ v
          · have hF : pu (c :: bs.drop (k + 1)) acc = .bad := by rw [pu, hdv]; exact if_pos (by omega)
            rw [hF] at hdec
            have HDEC := Lib.hid hdec
            have h16i : (103 : Int) ≤ (v : Int) := by omega
            clear hacc hF ha hdec hdv hdig
            go_wp2_with (go_at_call 111; refine (HLOW.out _).mono ?_; rintro e w' ⟨rfl, rfl⟩)
            go_ret2
            exact ⟨by rw [HDEC.out]; rfl, rfl⟩
          · have h16i : (v : Int) ≤ 102 := by omega
            by_cases hov : 4294967295 < acc * 16 + (v - 87)
            · have hF : pu (c :: bs.drop (k + 1)) acc = .big := by
                rw [pu, hdv]
                show (if 16 ≤ v - 87 then PuE.bad else _) = _
                rw [if_neg (by omega), if_pos hov]
              rw [hF] at hdec
              have HDEC := Lib.hid hdec
              have iov : 4294967295 < a * 16 + ((v : Int) - 97 + 10) := by omega
              clear hacc hF hov ha hdec hdv
              go_wp2_with (go_at_call 111; refine (HLOW.out _).mono ?_; rintro e w' ⟨rfl, rfl⟩)
              go_ret2
              exact ⟨by rw [HDEC.out]; rfl, rfl⟩
            · have hF : pu (c :: bs.drop (k + 1)) acc = pu (bs.drop (k + 1)) (acc * 16 + (v - 87)) := by
                rw [pu, hdv]
                show (if 16 ≤ v - 87 then PuE.bad else _) = _
                rw [if_neg (by omega), if_neg hov]
              have HN : Hid (a * 16 + ((v : Int) - 97 + 10) = ((acc * 16 + (v - 87) : Nat) : Int) ∧ acc * 16 + (v - 87) ≤ 4294967295 ∧ pu bs 0 = pu (bs.drop (k + 1)) (acc * 16 + (v - 87))) := Lib.hid ⟨by omega, by omega, hdec.trans hF⟩
              have iov : a * 16 + ((v : Int) - 97 + 10) ≤ 4294967295 := by omega
              clear hacc hF hov ha hdec hdv
              go_wp2_with (go_at_call 111; refine (HLOW.out _).mono ?_; rintro e w' ⟨rfl, rfl⟩)
              refine ⟨⟨k + 1, acc * 16 + (v - 87), a * 16 + ((v : Int) - 97 + 10), rfl, (by first | rfl | (congr 1; omega)), (by first | rfl | (congr 1; omega)), by omega, HN⟩, by simp [intOf]; omega⟩
        · have hF : pu (c :: bs.drop (k + 1)) acc = .bad := by rw [pu]; unfold dv; rw [if_neg hdig, ← hv, if_neg hlet]
          rw [hF] at hdec
          have HDEC := Lib.hid hdec
          clear hacc hF ha hdec hall hv hlow hv95
          by_cases hc95 : c.toNat = 95
          · rw [show (c.toNat : Int) = 95 by omega] at hc
            clear hdig hc95 hc256 hlet
            go_wp2_with (go_at_call 111; refine (low_95 _).mono ?_; rintro e w' ⟨rfl, rfl⟩)
            all_goals go_ret2
            all_goals exact ⟨by rw [HDEC.out]; rfl, rfl⟩
          · have hb95 : ((c.toNat : Int) == 95) = false := by rw [beq_eq_false_iff_ne]; omega
            go_wp2_with (go_at_call 111; refine (HLOW.out _).mono ?_; rintro e w' ⟨rfl, rfl⟩)
            all_goals go_ret2
            all_goals exact ⟨by rw [HDEC.out]; rfl, rfl⟩
    · -- the bytes are at an end
      have hkk : k = t.size := by omega
      subst hkk
      have hF : pu (bs.drop t.size) acc = .good acc := by rw [List.drop_eq_nil_of_le (by rw [HLN.out]; exact Nat.le_refl _)]; rfl
      rw [hF] at hdec
      have HDEC := Lib.hid hdec
      subst ha
      clear hacc hF a0 a1 hdec
      go_wp2
      go_ret2
      exact ⟨by rw [HDEC.out]; rfl, rfl⟩
end Go.Proofs.YtcbfefamemidnaaDoor
