/-
  Decimal numerals, place for place; what reading one gives. Plain.
-/
import Derived.Lib.ItoaNum
import Derived.Lib.ItoaMem
import Derived.Lib.ParseIntB
namespace Go.Proofs.YtcbfefamemidnaaDoor
open Go.Lib

/-- The last k digits of u. -/
def suf (u : Nat) : Nat → List UInt8
  | 0 => []
  | k + 1 => dg u k :: suf u k
theorem suf_len (u : Nat) : ∀ k, (suf u k).length = k
  | 0 => rfl
  | k + 1 => by simp [suf, suf_len u k]
theorem suf_range (u : Nat) : ∀ k, suf u k = (List.range k).map fun t => dg u (k - 1 - t)
  | 0 => rfl
  | k + 1 => by
    rw [List.range_succ_eq_map, List.map_cons, List.map_map]
    show dg u k :: suf u k = _
    rw [suf_range u k]
    congr 1
    refine List.map_congr_left fun t ht => ?_
    have := List.mem_range.1 ht
    show _ = dg u (k + 1 - 1 - (t + 1))
    congr 1
    omega
theorem suf_all (u : Nat) : suf u (nDigits u) = decDigits u := by rw [suf_range, decDigits_eq]
theorem nd_le : ∀ (k u : Nat), 1 ≤ k → u < 10 ^ k → nDigits u ≤ k
  | 0, u, h, _ => by omega
  | 1, u, _, h => by rw [nDigits_small (by simpa using h)]; exact Nat.le_refl _
  | k + 2, u, _, h => by
    by_cases h10 : u < 10
    · rw [nDigits_small h10]; omega
    · rw [nDigits_big h10]
      have := nd_le (k + 1) (u / 10) (by omega) (by rw [Nat.pow_succ] at h; omega)
      omega
theorem nd_more {k u : Nat} (h : k = 0 ∨ u / 10 ^ k ≠ 0) : k < nDigits u := by
  rcases h with rfl | h
  · exact nDigits_pos u
  · rcases Nat.lt_or_ge k (nDigits u) with hk | hk
    · exact hk
    · have h1 := lt_pow_nDigits u
      have h2 : 10 ^ nDigits u ≤ 10 ^ k := Nat.pow_le_pow_right (by decide) hk
      exact absurd (Nat.div_eq_of_lt (by omega)) h
theorem nd_done {k u : Nat} (hk : k ≠ 0) (h : u / 10 ^ k = 0) : nDigits u ≤ k := by
  refine nd_le k u (by omega) ?_
  rcases Nat.lt_or_ge u (10 ^ k) with hl | hl
  · exact hl
  · have := Nat.div_pos hl (Nat.pow_pos (by decide))
    omega
theorem rest_succ (u k : Nat) : u / 10 ^ k / 10 = u / 10 ^ (k + 1) := by rw [Nat.pow_succ, Nat.div_div_eq_div_mul]
theorem dg_nat (u k : Nat) : (dg u k).toNat = 48 + u / 10 ^ k % 10 := by
  unfold dg
  rw [UInt8.toNat_ofNat']
  omega

/-! ### The number that a text's digits spell -/
def foldD (l : List UInt8) : Nat := l.foldl (fun n c => if 48 ≤ c.toNat ∧ c.toNat ≤ 57 then 10 * n + (c.toNat - 48) else n) 0
theorem foldD_snoc (l : List UInt8) (c : UInt8) : foldD (l ++ [c]) = if 48 ≤ c.toNat ∧ c.toNat ≤ 57 then 10 * foldD l + (c.toNat - 48) else foldD l := by
  unfold foldD; rw [List.foldl_append]; rfl
theorem foldl_lt (l : List UInt8) : ∀ n k : Nat, n < 10 ^ k → l.foldl (fun n c => if 48 ≤ c.toNat ∧ c.toNat ≤ 57 then 10 * n + (c.toNat - 48) else n) n < 10 ^ (k + l.length) := by
  induction l with
  | nil => intro n k h; exact h
  | cons c l ih =>
    intro n k h
    rw [List.foldl_cons, List.length_cons, ← Nat.add_assoc, Nat.add_right_comm]
    refine ih _ (k + 1) ?_
    rw [Nat.pow_succ]
    split <;> omega
theorem foldD_lt (l : List UInt8) : foldD l < 10 ^ l.length := by
  have := foldl_lt l 0 0 (by decide)
  rwa [Nat.zero_add] at this
theorem foldD_small {l : List UInt8} (h : l.length ≤ 17) : foldD l < 100000000000000000 := by
  have h1 := foldD_lt l
  have h2 : 10 ^ l.length ≤ 10 ^ 17 := Nat.pow_le_pow_right (by decide) h
  omega
theorem ofNat_dig (d : Nat) (h : d < 10) : (UInt8.ofNat (48 + d)).toNat = 48 + d := by rw [UInt8.toNat_ofNat']; omega
theorem foldD_dec (u : Nat) : foldD (decDigits u) = u := by
  induction u using Nat.strongRecOn with
  | _ u ih =>
    by_cases h : u < 10
    · rw [decDigits_one h]
      have := ofNat_dig u h
      show (if _ then _ else _) = u
      rw [this, if_pos (by omega)]
      omega
    · rw [decDigits, dif_neg h, foldD_snoc, ih (u / 10) (by omega), ofNat_dig _ (by omega), if_pos (by omega)]
      omega
theorem foldD_minus (l : List UInt8) : foldD (45 :: l) = foldD l := rfl
theorem dec_ne (u : Nat) : decDigits u ≠ [] := by
  intro h
  have := decDigits_length u
  rw [h] at this
  have := nDigits_pos u
  simp at *
  omega
theorem dec_digit (u : Nat) : ∀ c ∈ decDigits u, 48 ≤ c.toNat ∧ c.toNat ≤ 57 := by
  rw [decDigits_eq]
  intro c hc
  obtain ⟨t, _, rfl⟩ := List.mem_map.1 hc
  rw [dg_nat]
  omega
theorem dec_head (u : Nat) : ∃ c r, decDigits u = c :: r ∧ 48 ≤ c.toNat ∧ c.toNat ≤ 57 := by
  cases h : decDigits u with
  | nil => exact absurd h (dec_ne u)
  | cons c r => exact ⟨c, r, rfl, dec_digit u c (by rw [h]; exact List.mem_cons_self ..)⟩

/-- The reference's number of a text. -/
def valD (l : List UInt8) : Int := if l.head?.map (·.toNat) = some 45 then -(foldD l : Int) else (foldD l : Int)
theorem valD_itoa (m : Int) : valD (itoa m) = m := by
  unfold valD itoa
  by_cases h : m < 0
  · rw [if_pos h, foldD_minus, foldD_dec]
    simp
    omega
  · rw [if_neg h, foldD_dec]
    obtain ⟨c, r, e, h1, h2⟩ := dec_head m.toNat
    rw [e]
    have : ¬ (c.toNat = 45) := by omega
    simp [this]
    omega
theorem parseM_app (M : Nat) : ∀ (l r : List UInt8) (a v : Nat), parseUintM M a l = .ok v → parseUintM M a (l ++ r) = parseUintM M v r
  | [], r, a, v, h => by
    have : a = v := by simpa [parseUintM] using h
    rw [this]; rfl
  | c :: l, r, a, v, h => by
    rw [List.cons_append]
    rw [parseUintM] at h ⊢
    split at h
    · rename_i h1
      rw [if_pos h1]
      split at h
      · cases h
      · rename_i h2
        rw [if_neg h2]
        split at h
        · cases h
        · rename_i h3
          rw [if_neg h3]
          exact parseM_app M l r _ v h
    · cases h
theorem parseM_dec (u : Nat) (h : u ≤ 1000000000000000) : parseUintM (2 ^ 64 - 1) 0 (decDigits u) = .ok u := by
  induction u using Nat.strongRecOn with
  | _ u ih =>
    by_cases h10 : u < 10
    · rw [decDigits_one h10]
      have := ofNat_dig u h10
      unfold parseUintM
      rw [this, if_pos (by omega), if_neg (by omega), if_neg (by omega)]
      show NumEnd.ok _ = _
      congr 1
      omega
    · rw [decDigits, dif_neg h10, parseM_app _ _ _ _ _ (ih (u / 10) (by omega) (by omega))]
      have := ofNat_dig (u % 10) (by omega)
      unfold parseUintM
      rw [this, if_pos (by omega), if_neg (by omega), if_neg (by omega)]
      show NumEnd.ok _ = _
      congr 1
      omega
theorem parse_itoa (m : Int) (h0 : -1000000000000000 ≤ m) (h1 : m ≤ 1000000000000000) : parseIntB 64 (itoa m) = .ok m := by
  unfold itoa
  by_cases h : m < 0
  · rw [if_pos h]
    have hp := parseM_dec m.natAbs (by omega)
    have h45 : UInt8.toNat 45 = 45 := rfl
    unfold parseIntB parseUintB
    simp only [h45, or_true, if_true, if_neg (dec_ne _), hp]
    rw [if_neg (by simp), if_neg (by omega)]
    simp
    omega
  · rw [if_neg h]
    have hp := parseM_dec m.toNat (by omega)
    obtain ⟨c, r, e, h1, h2⟩ := dec_head m.toNat
    have hn := dec_ne m.toNat
    rw [e] at hp hn ⊢
    have k1 : ¬ (c.toNat = 43 ∨ c.toNat = 45) := by omega
    have k2 : ¬ c.toNat = 45 := by omega
    unfold parseIntB parseUintB
    simp only [if_neg k1, if_neg hn, hp]
    rw [if_neg (by omega), if_neg (by omega), if_neg k2]
    congr 1
    omega
theorem itoa_len (m : Int) (h0 : -1000000000000000 ≤ m) (h1 : m ≤ 1000000000000000) : 1 ≤ (itoa m).length ∧ (itoa m).length ≤ 17 := by
  unfold itoa
  by_cases h : m < 0
  · rw [if_pos h, List.length_cons, decDigits_length]
    have := nd_le 16 m.natAbs (by decide) (by omega)
    omega
  · rw [if_neg h, decDigits_length]
    have := nd_le 16 m.toNat (by decide) (by omega)
    have := nDigits_pos m.toNat
    omega

/-- A text is the numeral of a number that is not too great. -/
def isV (n : Int) : Bool := decide (-1000000000000000 ≤ n ∧ n ≤ 1000000000000000)
def rdB (l : List UInt8) : Bool := isV (valD l) && decide (itoa (valD l) = l)
def rdN (l : List UInt8) : Int := if rdB l then valD l else 0
theorem rdB_itoa {m : Int} (h : isV m = true) : rdB (itoa m) = true := by unfold rdB; rw [valD_itoa, h]; simp
theorem rd_of {l : List UInt8} {m : Int} (h : isV m = true) (e : itoa m = l) : rdB l = true ∧ rdN l = m := by
  subst e
  have := rdB_itoa h
  exact ⟨this, by unfold rdN; rw [this, if_pos rfl, valD_itoa]⟩
theorem rd_not {l : List UInt8} (h : ∀ m, isV m = true → itoa m ≠ l) : rdB l = false ∧ rdN l = 0 := by
  have : rdB l = false := by
    unfold rdB
    cases hv : isV (valD l)
    · rfl
    · rw [Bool.true_and]; exact decide_eq_false (h _ hv)
  exact ⟨this, by unfold rdN; rw [this]; rfl⟩
theorem isV_iff {m : Int} : isV m = true ↔ -1000000000000000 ≤ m ∧ m ≤ 1000000000000000 := by unfold isV; exact decide_eq_true_iff
/-- The program's side: what ParseInt says decides. -/
theorem rd_parse_ok {l : List UInt8} {v : Int} (h : parseIntB 64 l = .ok v) : rdB l = (isV v && decide (itoa v = l)) ∧ ((isV v && decide (itoa v = l)) = true → rdN l = v) := by
  by_cases hb : isV v = true ∧ itoa v = l
  · obtain ⟨h1, h2⟩ := rd_of hb.1 hb.2
    rw [h1, hb.1, decide_eq_true hb.2]
    exact ⟨rfl, fun _ => h2⟩
  · have hf : (isV v && decide (itoa v = l)) = false := by
      cases h1 : isV v
      · rfl
      · rw [Bool.true_and]; exact decide_eq_false fun h2 => hb ⟨h1, h2⟩
    rw [hf]
    refine ⟨(rd_not fun m hm e => hb ?_).1, fun h => by cases h⟩
    have := parse_itoa m (isV_iff.1 hm).1 (isV_iff.1 hm).2
    rw [e, h] at this
    cases this
    exact ⟨hm, e⟩
theorem rd_parse_no {l : List UInt8} (h : ∀ v, parseIntB 64 l ≠ .ok v) : rdB l = false ∧ rdN l = 0 :=
  rd_not fun m hm e => h m (e ▸ parse_itoa m (isV_iff.1 hm).1 (isV_iff.1 hm).2)
theorem rd_long {l : List UInt8} (h : l.length < 1 ∨ 17 < l.length) : rdB l = false ∧ rdN l = 0 :=
  rd_not fun m hm e => by
    have := itoa_len m (isV_iff.1 hm).1 (isV_iff.1 hm).2
    rw [e] at this
    omega
end Go.Proofs.YtcbfefamemidnaaDoor
