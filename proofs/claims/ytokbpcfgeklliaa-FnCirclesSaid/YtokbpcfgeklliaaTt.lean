/-
  The table of the tenths of decibels of i/8, and what is checked of the products of two.
-/
import Derived.Test.YtokbpcfgeklliaaTqC
namespace Go.Proofs.Ytokbpcfgeklliaa
open Ieee
set_option linter.unusedVariables false

def tt : List Nat := [1910, 1940, 1957, 1970, 1980, 1988, 1994, 2000, 2005, 2010, 2014, 2018, 2021, 2024, 2027, 2030, 2033, 2035, 2038, 2040, 2042, 2044, 2046, 2048, 2049, 2051, 2053, 2054, 2056, 2057, 2059, 2060, 2062, 2063, 2064, 2065, 2067, 2068, 2069, 2070, 2071, 2072, 2073, 2074, 2075, 2076, 2077, 2078, 2079, 2080, 2080, 2081, 2082, 2083, 2084, 2085, 2085, 2086, 2087, 2088, 2088, 2089, 2090, 2090, 2091, 2092, 2092, 2093, 2094, 2094, 2095, 2095, 2096, 2097, 2097, 2098, 2098, 2099, 2099, 2100, 2101, 2101, 2102, 2102, 2103, 2103, 2104, 2104, 2105, 2105, 2106, 2106, 2107, 2107, 2107, 2108, 2108, 2109, 2109, 2110, 2110, 2111, 2111, 2111, 2112, 2112, 2113, 2113, 2113, 2114, 2114, 2115, 2115, 2115, 2116, 2116, 2117, 2117, 2117, 2118, 2118, 2118, 2119, 2119, 2119, 2120, 2120, 2120, 2121, 2121, 2121, 2122, 2122, 2122, 2123, 2123, 2123, 2124, 2124, 2124, 2125, 2125, 2125, 2126, 2126, 2126, 2126, 2127, 2127, 2127, 2128, 2128, 2128, 2128, 2129, 2129, 2129, 2130, 2130, 2130, 2130, 2131, 2131, 2131, 2131, 2132, 2132, 2132, 2132, 2133, 2133, 2133, 2133, 2134, 2134, 2134, 2134, 2135, 2135, 2135, 2135, 2136, 2136, 2136, 2136, 2137, 2137, 2137, 2137, 2138, 2138, 2138, 2138, 2138, 2139, 2139, 2139, 2139, 2140, 2140]
theorem tt_len : tt.length = 200 := by decide +kernel
def okT (i a b : Nat) (o : Nat) : Bool := cond (Nat.ble (Nat.add a b) (Nat.add o 2001)) (Nat.ble (Nat.add o 1999) (Nat.add a b)) false
def okE (i a j b : Nat) : Bool := force (qten (Nat.mul i j)) fun o => cond (Nat.ble 1 o) (okT i a b o) false
def rowR (i a : Nat) : List Nat → Nat → Bool
  | [], _ => true
  | b :: l, j => cond (okE i a j b) (force (Nat.succ j) (rowR i a l)) false
theorem rowR_cons (i a b j : Nat) (l : List Nat) : rowR i a (b :: l) j = cond (okE i a j b) (rowR i a l (j + 1)) false := by
  show cond (okE i a j b) (force (Nat.succ j) (rowR i a l)) false = _
  rw [force_eq]
theorem rowR_get (i a : Nat) : ∀ (l : List Nat) (j k b : Nat), l[k]? = some b → rowR i a l j = true → okE i a (j + k) b = true
  | [], j, k, b, h, _ => by simp at h
  | x :: l, j, 0, b, h, hr => by
    rw [rowR_cons] at hr
    simp only [List.getElem?_cons_zero, Option.some.injEq] at h
    subst h
    cases ho : okE i a j x
    · rw [ho] at hr; cases hr
    · rfl
  | x :: l, j, k + 1, b, h, hr => by
    rw [rowR_cons] at hr
    simp only [List.getElem?_cons_succ] at h
    cases ho : okE i a j x
    · rw [ho] at hr; cases hr
    · rw [ho, cond_true] at hr
      have := rowR_get i a l (j + 1) k b h hr
      rwa [show j + 1 + k = j + (k + 1) by omega] at this
def rowB (i : Nat) : Bool := force i fun i => force (tt.getD (Nat.sub i 1) 0) fun a => rowR i a (tt.drop (Nat.sub i 1)) i
def headB (i : Nat) : Bool := force i fun i => force (tt.getD (Nat.sub i 1) 0) fun a => cond (Nat.beq (qten (Nat.mul 8 i)) a) (cond (Nat.ble 1 a) (Nat.ble a 5000) false) false
set_option maxRecDepth 100000 in
theorem head_ok : ∀ i : Fin 200, headB (i.val + 1) = true := by decide +kernel
end Go.Proofs.Ytokbpcfgeklliaa
