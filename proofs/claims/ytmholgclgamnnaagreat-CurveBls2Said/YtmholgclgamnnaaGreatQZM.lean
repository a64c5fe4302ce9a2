import Derived.Test.YtmholgclgamnnaaGreatQZF
import Derived.Test.YtmholgclgamnnaaGreatQZI
section
set_option linter.unusedVariables false
set_option linter.unusedSimpArgs false
namespace Go.Proofs.YtmholgclgamnnaaGreat
open Go Eng
set_option maxRecDepth 100000
set_option exponentiation.threshold 2000

abbrev secpP : Nat := 0xfffffffffffffffffffffffffffffffffffffffffffffffffffffffefffffc2f
abbrev secpN : Nat := 0xfffffffffffffffffffffffffffffffebaaedce6af48a03bbfd25e8cd0364141
abbrev bnP : Nat := 0x30644e72e131a029b85045b68181585d97816a916871ca8d3c208c16d87cfd47
abbrev bnR : Nat := 0x30644e72e131a029b85045b68181585d2833e84879b9709143e1f593f0000001
abbrev blsR : Nat := 0x73eda753299d7d483339d80809a1d80553bda402fffe5bfeffffffff00000001
abbrev blsP : Nat := 0x1a0111ea397fe69a4b1ba7b6434bacd764774b84f38512bf6730d2a0f6b0f6241eabfffeb153ffffb9feffffffffaaab

theorem leafEq_s (k : IntKind) (a b : Int) : leafEq (.s k a, .s k b) = decide (a = b) := by
  show (a == b) = _
  by_cases h : a = b <;> simp [h]
theorem eqs_real {A : Ar} (hA : A = Ar.real) (l : List (AVal × AVal)) : A.eqs l = l.all leafEq := by rw [hA]; rfl
theorem eqs4 {A : Ar} (hA : A = Ar.real) {lim : Lim} (hl : lim = limR) (a b : Nat) (ha : a < 2 ^ 256) (hb : b < 2 ^ 256) : A.eqs [(.s .u64 (lim a 0), .s .u64 (lim b 0)), (.s .u64 (lim a 1), .s .u64 (lim b 1)), (.s .u64 (lim a 2), .s .u64 (lim b 2)), (.s .u64 (lim a 3), .s .u64 (lim b 3))] = decide (a = b) := by
  rw [eqs_real hA]
  simp only [List.all_cons, List.all_nil, leafEq_s, Bool.and_true]
  by_cases h : a = b
  · subst h; simp
  · rw [decide_eq_false h]
    refine Bool.eq_false_iff.2 fun h' => h (lim_inj4 hl ha hb ?_)
    simpa using h'
theorem LessS4 {H : H5} (hH : H = H5.real) (a b : Nat) (ha : a < 2 ^ 256) (hb : b < 2 ^ 256) : Sp 110 [u4 H.lim a, u4 H.lim b] (.sb (H.lt a b)) := by
  refine mk Tryz.func110 rfl rfl L0 R1 (by decide +kernel) fun A S hA hS => ?_
  unfold bodyOf Tryz.f110
  cbv
  refine ACall.mk _ (cf hS (less4S (H5.hlim hH) a b ha hb (H.lt a b) (by rw [hH]; rfl))) ?_
  cbv
theorem wordsS4 {H : H5} (a : Nat) : Sp 214 [u4 H.lim a] (.new false 4 1 [.s .u64 (H.lim a 0), .s .u64 (H.lim a 1), .s .u64 (H.lim a 2), .s .u64 (H.lim a 3)]) := by
  refine mk Tryz.func214 rfl rfl L0 R0 (by decide +kernel) fun A S hA hS => ?_
  unfold bodyOf Tryz.f214
  cbv
theorem eqs6 {A : Ar} (hA : A = Ar.real) {lim : Lim} (hl : lim = limR) (a b : Nat) (ha : a < 2 ^ 384) (hb : b < 2 ^ 384) : A.eqs [(.s .u64 (lim a 0), .s .u64 (lim b 0)), (.s .u64 (lim a 1), .s .u64 (lim b 1)), (.s .u64 (lim a 2), .s .u64 (lim b 2)), (.s .u64 (lim a 3), .s .u64 (lim b 3)), (.s .u64 (lim a 4), .s .u64 (lim b 4)), (.s .u64 (lim a 5), .s .u64 (lim b 5))] = decide (a = b) := by
  rw [eqs_real hA]
  simp only [List.all_cons, List.all_nil, leafEq_s, Bool.and_true]
  by_cases h : a = b
  · subst h; simp
  · rw [decide_eq_false h]
    refine Bool.eq_false_iff.2 fun h' => h (lim_inj6 hl ha hb ?_)
    simpa using h'
theorem LessS6 {H : H5} (hH : H = H5.real) (a b : Nat) (ha : a < 2 ^ 384) (hb : b < 2 ^ 384) : Sp 84 [u6 H.lim a, u6 H.lim b] (.sb (H.lt a b)) := by
  refine mk Tryz.func84 rfl rfl L0 R1 (by decide +kernel) fun A S hA hS => ?_
  unfold bodyOf Tryz.f84
  cbv
  refine ACall.mk _ (cf hS (less6S (H5.hlim hH) a b ha hb (H.lt a b) (by rw [hH]; rfl))) ?_
  cbv
theorem wordsS6 {H : H5} (a : Nat) : Sp 194 [u6 H.lim a] (.new false 6 1 [.s .u64 (H.lim a 0), .s .u64 (H.lim a 1), .s .u64 (H.lim a 2), .s .u64 (H.lim a 3), .s .u64 (H.lim a 4), .s .u64 (H.lim a 5)]) := by
  refine mk Tryz.func194 rfl rfl L0 R0 (by decide +kernel) fun A S hA hS => ?_
  unfold bodyOf Tryz.f194
  cbv
theorem SecpPS {H : H5} (hH : H = H5.real) : Sp 201 [] (u4 H.lim secpP) := by
  refine mk Tryz.func201 rfl rfl L0 R1 (by decide +kernel) fun A S hA hS => ?_
  unfold bodyOf Tryz.f201
  cbv
  rw [hH]
  exact ⟨rfl, rfl, rfl, rfl⟩
theorem SecpNS {H : H5} (hH : H = H5.real) : Sp 202 [] (u4 H.lim secpN) := by
  refine mk Tryz.func202 rfl rfl L0 R1 (by decide +kernel) fun A S hA hS => ?_
  unfold bodyOf Tryz.f202
  cbv
  rw [hH]
  exact ⟨rfl, rfl, rfl, rfl⟩
theorem BnPS {H : H5} (hH : H = H5.real) : Sp 99 [] (u4 H.lim bnP) := by
  refine mk Tryz.func99 rfl rfl L0 R1 (by decide +kernel) fun A S hA hS => ?_
  unfold bodyOf Tryz.f99
  cbv
  rw [hH]
  exact ⟨rfl, rfl, rfl, rfl⟩
theorem BnRS {H : H5} (hH : H = H5.real) : Sp 105 [] (u4 H.lim bnR) := by
  refine mk Tryz.func105 rfl rfl L0 R1 (by decide +kernel) fun A S hA hS => ?_
  unfold bodyOf Tryz.f105
  cbv
  rw [hH]
  exact ⟨rfl, rfl, rfl, rfl⟩
theorem BlsRS {H : H5} (hH : H = H5.real) : Sp 75 [] (u4 H.lim blsR) := by
  refine mk Tryz.func75 rfl rfl L0 R1 (by decide +kernel) fun A S hA hS => ?_
  unfold bodyOf Tryz.f75
  cbv
  rw [hH]
  exact ⟨rfl, rfl, rfl, rfl⟩
theorem BlsPS {H : H5} (hH : H = H5.real) : Sp 72 [] (u6 H.lim blsP) := by
  refine mk Tryz.func72 rfl rfl L0 R1 (by decide +kernel) fun A S hA hS => ?_
  unfold bodyOf Tryz.f72
  cbv
  rw [hH]
  exact ⟨rfl, rfl, rfl, rfl, rfl, rfl⟩
theorem prime4S {H : H5} (hH : H = H5.real) (m : Nat) (hm : m < 2 ^ 256) : Sp 171 [u4 H.lim m] (.s .i64 (H.fast4 m)) := by
  refine mk Tryz.func171 rfl rfl L0 R1 (by decide +kernel) fun A S hA hS => ?_
  unfold bodyOf Tryz.f171
  cbv
  refine ACall.mk _ (cf hS (SecpPS hH)) ?_
  cbv
  by_cases hsecpP : m = secpP
  · have e := (eqs4 hA (H5.hlim hH) m secpP hm (by decide)).trans (decide_eq_true hsecpP)
    repeat (first | (refine ABr.f (by assumption) ?_; cbv) | (refine ABr.t (by assumption) ?_; cbv))
    rw [hH, hsecpP]
    decide
  have esecpP := (eqs4 hA (H5.hlim hH) m secpP hm (by decide)).trans (decide_eq_false hsecpP)
  repeat (refine ABr.f (by assumption) ?_; cbv)
  refine ACall.mk _ (cf hS (SecpNS hH)) ?_
  cbv
  by_cases hsecpN : m = secpN
  · have e := (eqs4 hA (H5.hlim hH) m secpN hm (by decide)).trans (decide_eq_true hsecpN)
    repeat (first | (refine ABr.f (by assumption) ?_; cbv) | (refine ABr.t (by assumption) ?_; cbv))
    rw [hH, hsecpN]
    decide
  have esecpN := (eqs4 hA (H5.hlim hH) m secpN hm (by decide)).trans (decide_eq_false hsecpN)
  repeat (refine ABr.f (by assumption) ?_; cbv)
  refine ACall.mk _ (cf hS (BnPS hH)) ?_
  cbv
  by_cases hbnP : m = bnP
  · have e := (eqs4 hA (H5.hlim hH) m bnP hm (by decide)).trans (decide_eq_true hbnP)
    repeat (first | (refine ABr.f (by assumption) ?_; cbv) | (refine ABr.t (by assumption) ?_; cbv))
    rw [hH, hbnP]
    decide
  have ebnP := (eqs4 hA (H5.hlim hH) m bnP hm (by decide)).trans (decide_eq_false hbnP)
  repeat (refine ABr.f (by assumption) ?_; cbv)
  refine ACall.mk _ (cf hS (BnRS hH)) ?_
  cbv
  by_cases hbnR : m = bnR
  · have e := (eqs4 hA (H5.hlim hH) m bnR hm (by decide)).trans (decide_eq_true hbnR)
    repeat (first | (refine ABr.f (by assumption) ?_; cbv) | (refine ABr.t (by assumption) ?_; cbv))
    rw [hH, hbnR]
    decide
  have ebnR := (eqs4 hA (H5.hlim hH) m bnR hm (by decide)).trans (decide_eq_false hbnR)
  repeat (refine ABr.f (by assumption) ?_; cbv)
  refine ACall.mk _ (cf hS (BlsRS hH)) ?_
  cbv
  by_cases hblsR : m = blsR
  · have e := (eqs4 hA (H5.hlim hH) m blsR hm (by decide)).trans (decide_eq_true hblsR)
    repeat (first | (refine ABr.f (by assumption) ?_; cbv) | (refine ABr.t (by assumption) ?_; cbv))
    rw [hH, hblsR]
    decide
  have eblsR := (eqs4 hA (H5.hlim hH) m blsR hm (by decide)).trans (decide_eq_false hblsR)
  repeat (refine ABr.f (by assumption) ?_; cbv)
  rw [hH]
  show (0 : Int) = ((if m ∈ primes4 then 1 else 0 : Nat) : Int)
  rw [if_neg (by simp only [primes4, List.mem_cons, List.not_mem_nil, or_false, not_or]; exact ⟨hsecpP, hsecpN, hbnP, hbnR, hblsR⟩)]
  rfl
theorem prime6S {H : H5} (hH : H = H5.real) (m : Nat) (hm : m < 2 ^ 384) : Sp 155 [u6 H.lim m] (.s .i64 (H.fast6 m)) := by
  refine mk Tryz.func155 rfl rfl L0 R1 (by decide +kernel) fun A S hA hS => ?_
  unfold bodyOf Tryz.f155
  cbv
  refine ACall.mk _ (cf hS (BlsPS hH)) ?_
  cbv
  by_cases hblsP : m = blsP
  · have e := (eqs6 hA (H5.hlim hH) m blsP hm (by decide)).trans (decide_eq_true hblsP)
    repeat (refine ABr.t e ?_; cbv)
    rw [hH, hblsP]
    decide
  have e := (eqs6 hA (H5.hlim hH) m blsP hm (by decide)).trans (decide_eq_false hblsP)
  repeat (refine ABr.f e ?_; cbv)
  clear e
  rw [hH]
  show (0 : Int) = ((if m ∈ primes6 then 1 else 0 : Nat) : Int)
  rw [if_neg (by simp only [primes6, List.mem_cons, List.not_mem_nil, or_false]; exact hblsP)]
  rfl
end Go.Proofs.YtmholgclgamnnaaGreat
end
section
set_option linter.unusedVariables false
set_option linter.unusedSimpArgs false
namespace Go.Proofs.YtmholgclgamnnaaGreat
open Go Eng
set_option maxRecDepth 100000
set_option exponentiation.threshold 2000

theorem limR_half (n i : Nat) : limR (n / 2) i = limR n i / 2 + 9223372036854775808 * (limR n (i + 1) % 2) := by
  unfold limR
  obtain ⟨q, hq⟩ : ∃ q, q = n / 2 ^ (64 * i) := ⟨_, rfl⟩
  have h1 : n / 2 / 2 ^ (64 * i) = q / 2 := by rw [hq, Nat.div_div_eq_div_mul, Nat.mul_comm 2, ← Nat.div_div_eq_div_mul]
  have h2 : n / 2 ^ (64 * (i + 1)) = q / 18446744073709551616 := by rw [hq, Nat.div_div_eq_div_mul, show (18446744073709551616 : Nat) = 2 ^ 64 from rfl, ← Nat.pow_add]; rfl
  rw [h1, h2, ← hq]
  omega
/-- A word's half, and the bit above. -/
theorem half_word {A : Ar} (hA : A = Ar.real) {x y : Int} (hx : 0 ≤ x ∧ x < 18446744073709551616) (hy : 0 ≤ y ∧ y < 18446744073709551616) : A.bin .or .u64 (A.bin .shr .u64 x 1) (A.bin .shl .u64 (A.bin .and .u64 y 1) 63) = x / 2 + 9223372036854775808 * (y % 2) := by
  obtain ⟨a, rfl⟩ : ∃ n : Nat, x = n := ⟨x.toNat, by omega⟩
  obtain ⟨b, rfl⟩ : ∃ n : Nat, y = n := ⟨y.toNat, by omega⟩
  rw [hA]
  show rbin .or .u64 (rbin .shr .u64 (Int.ofNat a) (Int.ofNat 1)) (rbin .shl .u64 (rbin .and .u64 (Int.ofNat b) (Int.ofNat 1)) (Int.ofNat 63)) = _
  rw [u_shr a 1 (by omega), show (Int.ofNat 1) = Int.ofNat (2 ^ 1 - 1) from rfl, u_mask b 1 (by omega) (by omega), u_shl _ 63 (by omega), Nat.mod_eq_of_lt (by omega), Nat.mul_comm (b % 2 ^ 1), u_or_add _ _ 63 (by omega) (by omega) (by omega)]
  show ((a / 2 ^ 1 + 2 ^ 63 * (b % 2 ^ 1) : Nat) : Int) = _
  omega
theorem half_top {A : Ar} (hA : A = Ar.real) {x y : Int} (hx : 0 ≤ x ∧ x < 18446744073709551616) (hy : y = 0 ∨ y = 1) : A.bin .or .u64 (A.bin .shr .u64 x 1) (A.bin .shl .u64 y 63) = x / 2 + 9223372036854775808 * y := by
  obtain ⟨a, rfl⟩ : ∃ n : Nat, x = n := ⟨x.toNat, by omega⟩
  obtain ⟨b, rfl⟩ : ∃ n : Nat, y = n := ⟨y.toNat, by omega⟩
  rw [hA]
  show rbin .or .u64 (rbin .shr .u64 (Int.ofNat a) (Int.ofNat 1)) (rbin .shl .u64 (Int.ofNat b) (Int.ofNat 63)) = _
  rw [u_shr a 1 (by omega), u_shl _ 63 (by omega), Nat.mod_eq_of_lt (by omega), Nat.mul_comm b, u_or_add _ _ 63 (by omega) (by omega) (by omega)]
  show ((a / 2 ^ 1 + 2 ^ 63 * b : Nat) : Int) = _
  omega
/-- Half of a number modulo m. -/
def hv (m a : Nat) : Nat := if a % 2 = 0 then a / 2 else (a + m) / 2
theorem half_lim4 {lim : Lim} (hl : lim = limR) {a top : Nat} (ha : a < 2 ^ 256) (ht : top ≤ 1) :
    lim a 0 / 2 + 9223372036854775808 * (lim a 1 % 2) = lim ((a + 2 ^ 256 * top) / 2) 0 ∧ lim a 1 / 2 + 9223372036854775808 * (lim a 2 % 2) = lim ((a + 2 ^ 256 * top) / 2) 1 ∧ lim a 2 / 2 + 9223372036854775808 * (lim a 3 % 2) = lim ((a + 2 ^ 256 * top) / 2) 2 ∧ lim a (4 - 1) / 2 + 9223372036854775808 * (top : Int) = lim ((a + 2 ^ 256 * top) / 2) (4 - 1) := by
  subst hl
  have e : ∀ i, i < 4 → limR (a + 2 ^ 256 * top) i = limR a i := by
    intro i hi
    unfold limR
    congr 1
    rw [show 2 ^ 256 * top = 2 ^ (64 * i) * (2 ^ 64 * (2 ^ (256 - 64 * i - 64) * top)) by
      rw [← Nat.mul_assoc, ← Nat.mul_assoc, ← Nat.pow_add, ← Nat.pow_add]; congr 2; omega]
    rw [Nat.add_mul_div_left _ _ (Nat.two_pow_pos _), Nat.add_mul_mod_self_left]
  have e4 : limR (a + 2 ^ 256 * top) 4 = (top : Int) := by
    unfold limR
    congr 1
    show (a + 2 ^ 256 * top) / 2 ^ 256 % 2 ^ 64 = top
    rw [Nat.add_mul_div_left _ _ (Nat.two_pow_pos _), Nat.div_eq_of_lt ha]
    omega
  have et : (top : Int) % 2 = top := by omega
  refine ⟨?_, ?_, ?_, ?_⟩
  all_goals rw [limR_half]
  · rw [e 0 (by omega), e 1 (by omega)]
  · rw [e 1 (by omega), e 2 (by omega)]
  · rw [e 2 (by omega), e 3 (by omega)]
  · rw [e (4 - 1) (by omega), e4, et]
theorem halfS4 {lim : Lim} (hl : lim = limR) {a top h : Nat} (ha : a < 2 ^ 256) (ht : top ≤ 1) (hh : h = (a + 2 ^ 256 * top) / 2) : Sp 224 [u4 lim a, .s .u64 top] (u4 lim h) := by
  have la := fun i => lim_range hl a i
  have hf := half_lim4 hl ha ht
  rw [← hh] at hf
  obtain ⟨h0, h1, h2, h3⟩ := hf
  have ht' : (top : Int) = 0 ∨ (top : Int) = 1 := by omega
  refine mk Tryz.func224 rfl rfl L0 R1 (by decide +kernel) fun A S hA hS => ?_
  unfold bodyOf Tryz.f224
  cbv
  exact ⟨(half_word hA (la 0) (la 1)).trans h0, (half_word hA (la 1) (la 2)).trans h1, (half_word hA (la 2) (la 3)).trans h2, (half_top hA (la (4 - 1)) ht').trans h3⟩
theorem even_lim4 {A : Ar} (hA : A = Ar.real) {lim : Lim} (hl : lim = limR) (a : Nat) : A.cmp .eql (A.bin .and .u64 (lim a 0) 1) 0 = decide (a % 2 = 0) := by
  rw [lim_mod hl, hA]
  show rcmp .eql (rbin .and .u64 (Int.ofNat (a % 18446744073709551616)) (Int.ofNat (2 ^ 1 - 1))) 0 = _
  rw [u_mask _ 1 (by omega) (by omega)]
  show ((Int.ofNat (a % 18446744073709551616 % 2 ^ 1)) == (0 : Int)) = _
  by_cases h : a % 2 = 0
  · rw [decide_eq_true h, show a % 18446744073709551616 % 2 ^ 1 = 0 by omega]; rfl
  · rw [decide_eq_false h, show a % 18446744073709551616 % 2 ^ 1 = 1 by omega]; rfl
theorem halvedS4 {lim : Lim} (hl : lim = limR) {m inv : Nat} (hR : Mod 256 m) (fast one two a h : Nat) (ha : a < m) (hh : h = hv m a) :
    Sp 225 [.ref (ring4 lim m inv fast one two) 0, u4 lim a] (u4 lim h) := by
  have hm := hR.lt
  refine mk Tryz.func225 rfl rfl L0 R1 (by decide +kernel) fun A S hA hS => ?_
  unfold bodyOf Tryz.f225
  cbv
  have e := even_lim4 hA hl a
  unfold hv at hh
  by_cases h2 : a % 2 = 0
  · rw [decide_eq_true h2] at e
    rw [if_pos h2] at hh
    refine ABr.t e ?_
    cbv
    refine ACall.mk (u4 lim h) (cg hS (halfS4 hl (a := a) (top := 0) (by omega) (by omega) (by omega)) (by cbv)) ?_
    cbv
  · rw [decide_eq_false h2] at e
    rw [if_neg h2] at hh
    refine ABr.f e ?_
    cbv
    obtain ⟨s, hs⟩ : ∃ s, s = (a + m) % 2 ^ 256 := ⟨_, rfl⟩
    obtain ⟨c, hc⟩ : ∃ s, s = (a + m) / 2 ^ 256 := ⟨_, rfl⟩
    refine ACall.mk (.tup [u4 lim s, .s .u64 c]) (cf hS (plus4 hl a m s c (by omega) (by omega) (by omega) (by omega))) ?_
    cbv
    refine ACall.mk (u4 lim h) (cf hS (halfS4 hl (a := s) (top := c) (by omega) (by omega) (by omega))) ?_
    cbv
theorem half_lim6 {lim : Lim} (hl : lim = limR) {a top : Nat} (ha : a < 2 ^ 384) (ht : top ≤ 1) :
    lim a 0 / 2 + 9223372036854775808 * (lim a 1 % 2) = lim ((a + 2 ^ 384 * top) / 2) 0 ∧ lim a 1 / 2 + 9223372036854775808 * (lim a 2 % 2) = lim ((a + 2 ^ 384 * top) / 2) 1 ∧ lim a 2 / 2 + 9223372036854775808 * (lim a 3 % 2) = lim ((a + 2 ^ 384 * top) / 2) 2 ∧ lim a 3 / 2 + 9223372036854775808 * (lim a 4 % 2) = lim ((a + 2 ^ 384 * top) / 2) 3 ∧ lim a 4 / 2 + 9223372036854775808 * (lim a 5 % 2) = lim ((a + 2 ^ 384 * top) / 2) 4 ∧ lim a (6 - 1) / 2 + 9223372036854775808 * (top : Int) = lim ((a + 2 ^ 384 * top) / 2) (6 - 1) := by
  subst hl
  have e : ∀ i, i < 6 → limR (a + 2 ^ 384 * top) i = limR a i := by
    intro i hi
    unfold limR
    congr 1
    rw [show 2 ^ 384 * top = 2 ^ (64 * i) * (2 ^ 64 * (2 ^ (384 - 64 * i - 64) * top)) by
      rw [← Nat.mul_assoc, ← Nat.mul_assoc, ← Nat.pow_add, ← Nat.pow_add]; congr 2; omega]
    rw [Nat.add_mul_div_left _ _ (Nat.two_pow_pos _), Nat.add_mul_mod_self_left]
  have e4 : limR (a + 2 ^ 384 * top) 6 = (top : Int) := by
    unfold limR
    congr 1
    show (a + 2 ^ 384 * top) / 2 ^ 384 % 2 ^ 64 = top
    rw [Nat.add_mul_div_left _ _ (Nat.two_pow_pos _), Nat.div_eq_of_lt ha]
    omega
  have et : (top : Int) % 2 = top := by omega
  refine ⟨?_, ?_, ?_, ?_, ?_, ?_⟩
  all_goals rw [limR_half]
  · rw [e 0 (by omega), e 1 (by omega)]
  · rw [e 1 (by omega), e 2 (by omega)]
  · rw [e 2 (by omega), e 3 (by omega)]
  · rw [e 3 (by omega), e 4 (by omega)]
  · rw [e 4 (by omega), e 5 (by omega)]
  · rw [e (6 - 1) (by omega), e4, et]
theorem halfS6 {lim : Lim} (hl : lim = limR) {a top h : Nat} (ha : a < 2 ^ 384) (ht : top ≤ 1) (hh : h = (a + 2 ^ 384 * top) / 2) : Sp 255 [u6 lim a, .s .u64 top] (u6 lim h) := by
  have la := fun i => lim_range hl a i
  have hf := half_lim6 hl ha ht
  rw [← hh] at hf
  obtain ⟨h0, h1, h2, h3, h4, h5⟩ := hf
  have ht' : (top : Int) = 0 ∨ (top : Int) = 1 := by omega
  refine mk Tryz.func255 rfl rfl L0 R1 (by decide +kernel) fun A S hA hS => ?_
  unfold bodyOf Tryz.f255
  cbv
  exact ⟨(half_word hA (la 0) (la 1)).trans h0, (half_word hA (la 1) (la 2)).trans h1, (half_word hA (la 2) (la 3)).trans h2, (half_word hA (la 3) (la 4)).trans h3, (half_word hA (la 4) (la 5)).trans h4, (half_top hA (la (6 - 1)) ht').trans h5⟩
theorem even_lim6 {A : Ar} (hA : A = Ar.real) {lim : Lim} (hl : lim = limR) (a : Nat) : A.cmp .eql (A.bin .and .u64 (lim a 0) 1) 0 = decide (a % 2 = 0) := by
  rw [lim_mod hl, hA]
  show rcmp .eql (rbin .and .u64 (Int.ofNat (a % 18446744073709551616)) (Int.ofNat (2 ^ 1 - 1))) 0 = _
  rw [u_mask _ 1 (by omega) (by omega)]
  show ((Int.ofNat (a % 18446744073709551616 % 2 ^ 1)) == (0 : Int)) = _
  by_cases h : a % 2 = 0
  · rw [decide_eq_true h, show a % 18446744073709551616 % 2 ^ 1 = 0 by omega]; rfl
  · rw [decide_eq_false h, show a % 18446744073709551616 % 2 ^ 1 = 1 by omega]; rfl
theorem halvedS6 {lim : Lim} (hl : lim = limR) {m inv : Nat} (hR : Mod 384 m) (fast one two a h : Nat) (ha : a < m) (hh : h = hv m a) :
    Sp 250 [.ref (ring6 lim m inv fast one two) 0, u6 lim a] (u6 lim h) := by
  have hm := hR.lt
  refine mk Tryz.func250 rfl rfl L0 R1 (by decide +kernel) fun A S hA hS => ?_
  unfold bodyOf Tryz.f250
  cbv
  have e := even_lim6 hA hl a
  unfold hv at hh
  by_cases h2 : a % 2 = 0
  · rw [decide_eq_true h2] at e
    rw [if_pos h2] at hh
    refine ABr.t e ?_
    cbv
    refine ACall.mk (u6 lim h) (cg hS (halfS6 hl (a := a) (top := 0) (by omega) (by omega) (by omega)) (by cbv)) ?_
    cbv
  · rw [decide_eq_false h2] at e
    rw [if_neg h2] at hh
    refine ABr.f e ?_
    cbv
    obtain ⟨s, hs⟩ : ∃ s, s = (a + m) % 2 ^ 384 := ⟨_, rfl⟩
    obtain ⟨c, hc⟩ : ∃ s, s = (a + m) / 2 ^ 384 := ⟨_, rfl⟩
    refine ACall.mk (.tup [u6 lim s, .s .u64 c]) (cf hS (plus6 hl a m s c (by omega) (by omega) (by omega) (by omega))) ?_
    cbv
    refine ACall.mk (u6 lim h) (cf hS (halfS6 hl (a := s) (top := c) (by omega) (by omega) (by omega))) ?_
    cbv
end Go.Proofs.YtmholgclgamnnaaGreat
end
section
set_option linter.unusedVariables false
set_option linter.unusedSimpArgs false
namespace Go.Proofs.YtmholgclgamnnaaGreat
open Go Eng
set_option maxRecDepth 100000
set_option exponentiation.threshold 2000
/-- A contract out of a walk that comes to the very answer. -/
theorem mkE {f : FuncId} {fn : Func} {As : List AVal} {r : AVal} (hf : Tryz.prog.funcs[f]? = some fn) (hb : fn.body = some (bodyOf fn)) (hn : (fn.name == "runtime.NumGoroutine") = false) (Nl : Nat → Nat) (tr : Nat → Md)
    (hok : codeOK tr (bodyOf fn) = true) (h : ∀ (A : Ar) (S : SpecT), A = Ar.real → S = specs Tryz.prog → afun A TT S Nl tr fn.ntmps fn.results (bodyOf fn) As (fun x => x = r)) : Sp f As r :=
  spec_of_afun (P := Tryz.prog) (T := TT) TT.ok TT.mixed (draw_ok (P := Tryz.prog) (T := TT) TT.ok) (Sp := specs Tryz.prog) ⟨fun _ _ _ h => h, fun _ _ _ _ _ h => h, fun _ _ _ _ h => h, fun _ => rfl⟩ rfl hf hb hn (N := Nl) (tr := tr) hok (h Ar.real _ rfl rfl)
theorem digitsS {row : List AVal} {n : Nat} : Sp 217 [.lst true n row] (.fn (.func 226) [] [.ref [.lst true n row] 0]) := by
  refine mkE Tryz.func217 rfl rfl LN R0 (by decide +kernel) fun A S hA hS => ?_
  unfold bodyOf Tryz.f217
  cbv
theorem bitAt_eq (e n i : Nat) (hi : i < 64 * n) : bitAt (limR e) n i = e / 2 ^ (64 * n - 1 - i) % 2 := by
  unfold bitAt limR
  obtain ⟨k, hk⟩ : ∃ k, k = 64 * n - 1 - i := ⟨_, rfl⟩
  rw [← hk, Int.toNat_natCast]
  obtain ⟨r, hr⟩ : ∃ r, r = k % 64 := ⟨_, rfl⟩
  rw [← hr]
  have hr64 : r < 64 := by omega
  have e1 : k = 64 * (k / 64) + r := by omega
  have e2 : e / 2 ^ k = e / 2 ^ (64 * (k / 64)) / 2 ^ r := by
    rw [Nat.div_div_eq_div_mul, ← Nat.pow_add, ← e1]
  rw [e2]
  generalize e / 2 ^ (64 * (k / 64)) = x
  rw [show (2 : Nat) ^ 64 = 2 ^ r * 2 ^ (64 - r) by rw [← Nat.pow_add]; congr 1; omega, Nat.mod_mul_right_div_self, Nat.mod_mod_of_dvd]
  exact Nat.dvd_trans (by decide) (Nat.pow_dvd_pow 2 (show 1 ≤ 64 - r by omega))
/-- A power, a digit more. -/
theorem pow_step (m a e j : Nat) : a ^ (e / 2 ^ j) % m = if e / 2 ^ j % 2 = 1 then a ^ (e / 2 ^ (j + 1)) % m * (a ^ (e / 2 ^ (j + 1)) % m) % m * a % m else a ^ (e / 2 ^ (j + 1)) % m * (a ^ (e / 2 ^ (j + 1)) % m) % m := by
  have e1 : e / 2 ^ (j + 1) = e / 2 ^ j / 2 := by rw [Nat.pow_succ, Nat.div_div_eq_div_mul]
  rw [e1]
  generalize e / 2 ^ j = x
  have sq : a ^ (x / 2) % m * (a ^ (x / 2) % m) % m = a ^ (2 * (x / 2)) % m := by
    rw [← Nat.mul_mod, ← Nat.pow_add]; congr 2; omega
  rw [sq]
  split
  · rw [Nat.mod_mul_mod, ← Nat.pow_succ]; congr 2; omega
  · congr 2; omega
theorem bit_eq {A : Ar} (hA : A = Ar.real) (t : Nat) : A.cmp .eql (t : Int) 1 = decide (t = 1) := by
  rw [i_eq hA]
  by_cases h : t = 1
  · subst h; rfl
  · rw [decide_eq_false h, decide_eq_false (by omega)]
/-- The memory of Exp. -/
def expH4 (H : H5) (m a x : Nat) : List Blk := [⟨true, true, [.ref (R4 H m) 0]⟩, ⟨true, true, [.s .u64 (H.lim (H.mf 256 m a) 0), .s .u64 (H.lim (H.mf 256 m a) 1), .s .u64 (H.lim (H.mf 256 m a) 2), .s .u64 (H.lim (H.mf 256 m a) 3)]⟩, ⟨true, true, [.i .u64 0, .i .u64 0, .i .u64 0, .i .u64 0]⟩, ⟨true, true, [.s .u64 (H.lim (H.mf 256 m x) 0), .s .u64 (H.lim (H.mf 256 m x) 1), .s .u64 (H.lim (H.mf 256 m x) 2), .s .u64 (H.lim (H.mf 256 m x) 3)]⟩]
theorem ExpS4 {H : H5} (hH : H = H5.real) {m a : Nat} (hR : Mod 256 m) (ha : a < m) {row : List AVal} {e k : Nat} (hrow : IsRow row (limR e) k) (hk : k < 1000) (he : e < 2 ^ (64 * k)) :
    Sp 213 [.ref (R4 H m) 0, el4 H m a, .lst true k row] (el4 H m (H.pow m a e)) := by
  obtain ⟨t, ht⟩ : ∃ t : Nat → Nat, t = bitAt (limR e) k := ⟨_, rfl⟩
  obtain ⟨x, hx⟩ : ∃ x : Nat → Nat, x = fun i => H.pow m a (e / 2 ^ (64 * k - i)) := ⟨_, rfl⟩
  have hx0 : x 0 = 1 := by
    rw [hx, hH]
    show a ^ (e / 2 ^ (64 * k)) % m = 1
    rw [Nat.div_eq_of_lt he, Nat.pow_zero, Nat.mod_eq_of_lt hR.one]
  have hxs : ∀ i, i < 64 * k → x (i + 1) = if t i = 1 then H.mul m (H.mul m (x i) (x i)) a else H.mul m (x i) (x i) := by
    intro i hi
    rw [hx, ht, bitAt_eq e k i hi, hH]
    show a ^ (e / 2 ^ (64 * k - (i + 1))) % m = if e / 2 ^ (64 * k - 1 - i) % 2 = 1 then a ^ (e / 2 ^ (64 * k - i)) % m * (a ^ (e / 2 ^ (64 * k - i)) % m) % m * a % m else a ^ (e / 2 ^ (64 * k - i)) % m * (a ^ (e / 2 ^ (64 * k - i)) % m) % m
    rw [show 64 * k - (i + 1) = 64 * k - 1 - i by omega, show 64 * k - i = 64 * k - 1 - i + 1 by omega]
    exact pow_step m a e _
  have hxe : x (64 * k) = H.pow m a e := by rw [hx]; show H.pow m a (e / 2 ^ (64 * k - 64 * k)) = _; rw [Nat.sub_self, Nat.pow_zero, Nat.div_one]
  have hd := digitsI hrow hk (fun i _ => lim_range rfl e i) (fun i => [.s .u64 (t i : Nat)]) (fun i _ => by rw [ht])
  refine mk Tryz.func213 rfl rfl LN R1 (by decide +kernel) fun A S hA hS => ?_
  unfold bodyOf Tryz.f213
  cbv
  refine ACall.mk _ (cf hS (isS4 (H := H) m)) ?_
  cbv
  refine ACall.mk _ (cf hS digitsS) ?_
  cbv
  refine .mk _ _ (cs hS hd) (fun i _ => rfl) (fun i => expH4 H m a (x i)) ?_ ?_ ?_
  · rw [hx0]; cbv
  · intro i hi
    have hst := hxs i hi
    have hb := bit_eq hA (t i)
    generalize x (i + 1) = y at hst ⊢
    generalize x i = xi at hst ⊢
    generalize t i = ti at hst hb ⊢
    cbv
    refine ACall.mk _ (cf hS (mulE4 hH hR (a := xi) (b := xi))) ?_
    cbv
    by_cases h1 : ti = 1
    · rw [if_pos h1] at hst
      rw [decide_eq_true h1] at hb
      refine ABr.t hb ?_
      cbv
      refine ACall.mk _ (cf hS (mulE4 hH hR (a := H.mul m xi xi) (b := a))) ?_
      rw [hst]
      cbv
    · rw [if_neg h1] at hst
      rw [decide_eq_false h1] at hb
      rw [hst]
      refine ABr.f hb ?_
      cbv
  · rw [hxe]
    cbv
/-- The memory of Exp. -/
def expH6 (H : H5) (m a x : Nat) : List Blk := [⟨true, true, [.ref (R6 H m) 0]⟩, ⟨true, true, [.s .u64 (H.lim (H.mf 384 m a) 0), .s .u64 (H.lim (H.mf 384 m a) 1), .s .u64 (H.lim (H.mf 384 m a) 2), .s .u64 (H.lim (H.mf 384 m a) 3), .s .u64 (H.lim (H.mf 384 m a) 4), .s .u64 (H.lim (H.mf 384 m a) 5)]⟩, ⟨true, true, [.i .u64 0, .i .u64 0, .i .u64 0, .i .u64 0, .i .u64 0, .i .u64 0]⟩, ⟨true, true, [.s .u64 (H.lim (H.mf 384 m x) 0), .s .u64 (H.lim (H.mf 384 m x) 1), .s .u64 (H.lim (H.mf 384 m x) 2), .s .u64 (H.lim (H.mf 384 m x) 3), .s .u64 (H.lim (H.mf 384 m x) 4), .s .u64 (H.lim (H.mf 384 m x) 5)]⟩]
theorem ExpS6 {H : H5} (hH : H = H5.real) {m a : Nat} (hR : Mod 384 m) (ha : a < m) {row : List AVal} {e k : Nat} (hrow : IsRow row (limR e) k) (hk : k < 1000) (he : e < 2 ^ (64 * k)) :
    Sp 195 [.ref (R6 H m) 0, el6 H m a, .lst true k row] (el6 H m (H.pow m a e)) := by
  obtain ⟨t, ht⟩ : ∃ t : Nat → Nat, t = bitAt (limR e) k := ⟨_, rfl⟩
  obtain ⟨x, hx⟩ : ∃ x : Nat → Nat, x = fun i => H.pow m a (e / 2 ^ (64 * k - i)) := ⟨_, rfl⟩
  have hx0 : x 0 = 1 := by
    rw [hx, hH]
    show a ^ (e / 2 ^ (64 * k)) % m = 1
    rw [Nat.div_eq_of_lt he, Nat.pow_zero, Nat.mod_eq_of_lt hR.one]
  have hxs : ∀ i, i < 64 * k → x (i + 1) = if t i = 1 then H.mul m (H.mul m (x i) (x i)) a else H.mul m (x i) (x i) := by
    intro i hi
    rw [hx, ht, bitAt_eq e k i hi, hH]
    show a ^ (e / 2 ^ (64 * k - (i + 1))) % m = if e / 2 ^ (64 * k - 1 - i) % 2 = 1 then a ^ (e / 2 ^ (64 * k - i)) % m * (a ^ (e / 2 ^ (64 * k - i)) % m) % m * a % m else a ^ (e / 2 ^ (64 * k - i)) % m * (a ^ (e / 2 ^ (64 * k - i)) % m) % m
    rw [show 64 * k - (i + 1) = 64 * k - 1 - i by omega, show 64 * k - i = 64 * k - 1 - i + 1 by omega]
    exact pow_step m a e _
  have hxe : x (64 * k) = H.pow m a e := by rw [hx]; show H.pow m a (e / 2 ^ (64 * k - 64 * k)) = _; rw [Nat.sub_self, Nat.pow_zero, Nat.div_one]
  have hd := digitsI hrow hk (fun i _ => lim_range rfl e i) (fun i => [.s .u64 (t i : Nat)]) (fun i _ => by rw [ht])
  refine mk Tryz.func195 rfl rfl LN R1 (by decide +kernel) fun A S hA hS => ?_
  unfold bodyOf Tryz.f195
  cbv
  refine ACall.mk _ (cf hS (isS6 (H := H) m)) ?_
  cbv
  refine ACall.mk _ (cf hS digitsS) ?_
  cbv
  refine .mk _ _ (cs hS hd) (fun i _ => rfl) (fun i => expH6 H m a (x i)) ?_ ?_ ?_
  · rw [hx0]; cbv
  · intro i hi
    have hst := hxs i hi
    have hb := bit_eq hA (t i)
    generalize x (i + 1) = y at hst ⊢
    generalize x i = xi at hst ⊢
    generalize t i = ti at hst hb ⊢
    cbv
    refine ACall.mk _ (cf hS (mulE6 hH hR (a := xi) (b := xi))) ?_
    cbv
    by_cases h1 : ti = 1
    · rw [if_pos h1] at hst
      rw [decide_eq_true h1] at hb
      refine ABr.t hb ?_
      cbv
      refine ACall.mk _ (cf hS (mulE6 hH hR (a := H.mul m xi xi) (b := a))) ?_
      rw [hst]
      cbv
    · rw [if_neg h1] at hst
      rw [decide_eq_false h1] at hb
      rw [hst]
      refine ABr.f hb ?_
      cbv
  · rw [hxe]
    cbv
end Go.Proofs.YtmholgclgamnnaaGreat
end
