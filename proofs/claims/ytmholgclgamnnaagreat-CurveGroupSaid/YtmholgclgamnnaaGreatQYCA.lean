import Derived.Test.YtmholgclgamnnaaGreatQYJ
import Derived.Test.YtmholgclgamnnaaGreatQYF
section
set_option linter.unusedVariables false
set_option linter.unusedSimpArgs false
namespace Go.Proofs.YtmholgclgamnnaaGreat
open Go Eng
set_option maxRecDepth 100000
set_option exponentiation.threshold 2000

theorem limR_half (n i : Nat) : limR (n / 2) i = limR n i / 2 + 9223372036854775808 * (limR n (i + 1) % 2) := by
  unfold limR
  obtain ⟨q, hq⟩ : ∃ q, q = n / 2 ^ (64 * i) := ⟨_, rfl⟩
  have h1 : n / 2 / 2 ^ (64 * i) = q / 2 := by rw [hq, Nat.div_div_eq_div_mul, Nat.mul_comm 2, ← Nat.div_div_eq_div_mul]
  have h2 : n / 2 ^ (64 * (i + 1)) = q / 18446744073709551616 := by rw [hq, Nat.div_div_eq_div_mul, show (18446744073709551616 : Nat) = 2 ^ 64 from rfl, ← Nat.pow_add]; rfl
  rw [h1, h2, ← hq]
  omega
/-- A word's half, and the bit above. -/
theorem half_word {A : Ar} (hA : A = Ar.real) {x y : Int} (hx : 0 ≤ x ∧ x < 18446744073709551616) (hy : 0 ≤ y ∧ y < 18446744073709551616) : A.bin .or .u64 (A.bin .shr .u64 x 1) (A.bin .shl .u64 (A.bin .and .u64 y 1) 63) = x / 2 + 9223372036854775808 * (y % 2) := by
  obtain ⟨a, rfl⟩ : ∃ n : Nat, x = n := ⟨x.toNat, by omega⟩
  obtain ⟨b, rfl⟩ : ∃ n : Nat, y = n := ⟨y.toNat, by omega⟩
  rw [hA]
  show rbin .or .u64 (rbin .shr .u64 (Int.ofNat a) (Int.ofNat 1)) (rbin .shl .u64 (rbin .and .u64 (Int.ofNat b) (Int.ofNat 1)) (Int.ofNat 63)) = _
  rw [u_shr a 1 (by omega), show (Int.ofNat 1) = Int.ofNat (2 ^ 1 - 1) from rfl, u_mask b 1 (by omega) (by omega), u_shl _ 63 (by omega), Nat.mod_eq_of_lt (by omega), Nat.mul_comm (b % 2 ^ 1), u_or_add _ _ 63 (by omega) (by omega) (by omega)]
  show ((a / 2 ^ 1 + 2 ^ 63 * (b % 2 ^ 1) : Nat) : Int) = _
  omega
theorem half_top {A : Ar} (hA : A = Ar.real) {x y : Int} (hx : 0 ≤ x ∧ x < 18446744073709551616) (hy : y = 0 ∨ y = 1) : A.bin .or .u64 (A.bin .shr .u64 x 1) (A.bin .shl .u64 y 63) = x / 2 + 9223372036854775808 * y := by
  obtain ⟨a, rfl⟩ : ∃ n : Nat, x = n := ⟨x.toNat, by omega⟩
  obtain ⟨b, rfl⟩ : ∃ n : Nat, y = n := ⟨y.toNat, by omega⟩
  rw [hA]
  show rbin .or .u64 (rbin .shr .u64 (Int.ofNat a) (Int.ofNat 1)) (rbin .shl .u64 (Int.ofNat b) (Int.ofNat 63)) = _
  rw [u_shr a 1 (by omega), u_shl _ 63 (by omega), Nat.mod_eq_of_lt (by omega), Nat.mul_comm b, u_or_add _ _ 63 (by omega) (by omega) (by omega)]
  show ((a / 2 ^ 1 + 2 ^ 63 * b : Nat) : Int) = _
  omega
/-- Half of a number modulo m. -/
def hv (m a : Nat) : Nat := if a % 2 = 0 then a / 2 else (a + m) / 2
theorem half_lim4 {lim : Lim} (hl : lim = limR) {a top : Nat} (ha : a < 2 ^ 256) (ht : top ≤ 1) :
    lim a 0 / 2 + 9223372036854775808 * (lim a 1 % 2) = lim ((a + 2 ^ 256 * top) / 2) 0 ∧ lim a 1 / 2 + 9223372036854775808 * (lim a 2 % 2) = lim ((a + 2 ^ 256 * top) / 2) 1 ∧ lim a 2 / 2 + 9223372036854775808 * (lim a 3 % 2) = lim ((a + 2 ^ 256 * top) / 2) 2 ∧ lim a (4 - 1) / 2 + 9223372036854775808 * (top : Int) = lim ((a + 2 ^ 256 * top) / 2) (4 - 1) := by
  subst hl
  have e : ∀ i, i < 4 → limR (a + 2 ^ 256 * top) i = limR a i := by
    intro i hi
    unfold limR
    congr 1
    rw [show 2 ^ 256 * top = 2 ^ (64 * i) * (2 ^ 64 * (2 ^ (256 - 64 * i - 64) * top)) by
      rw [← Nat.mul_assoc, ← Nat.mul_assoc, ← Nat.pow_add, ← Nat.pow_add]; congr 2; omega]
    rw [Nat.add_mul_div_left _ _ (Nat.two_pow_pos _), Nat.add_mul_mod_self_left]
  have e4 : limR (a + 2 ^ 256 * top) 4 = (top : Int) := by
    unfold limR
    congr 1
    show (a + 2 ^ 256 * top) / 2 ^ 256 % 2 ^ 64 = top
    rw [Nat.add_mul_div_left _ _ (Nat.two_pow_pos _), Nat.div_eq_of_lt ha]
    omega
  have et : (top : Int) % 2 = top := by omega
  refine ⟨?_, ?_, ?_, ?_⟩
  all_goals rw [limR_half]
  · rw [e 0 (by omega), e 1 (by omega)]
  · rw [e 1 (by omega), e 2 (by omega)]
  · rw [e 2 (by omega), e 3 (by omega)]
  · rw [e (4 - 1) (by omega), e4, et]
theorem halfS4 {lim : Lim} (hl : lim = limR) {a top h : Nat} (ha : a < 2 ^ 256) (ht : top ≤ 1) (hh : h = (a + 2 ^ 256 * top) / 2) : Sp 224 [u4 lim a, .s .u64 top] (u4 lim h) := by
  have la := fun i => lim_range hl a i
  have hf := half_lim4 hl ha ht
  rw [← hh] at hf
  obtain ⟨h0, h1, h2, h3⟩ := hf
  have ht' : (top : Int) = 0 ∨ (top : Int) = 1 := by omega
  refine mk Tryz.func224 rfl rfl L0 R1 (by decide +kernel) fun A S hA hS => ?_
  unfold bodyOf Tryz.f224
  cbv
  exact ⟨(half_word hA (la 0) (la 1)).trans h0, (half_word hA (la 1) (la 2)).trans h1, (half_word hA (la 2) (la 3)).trans h2, (half_top hA (la (4 - 1)) ht').trans h3⟩
theorem even_lim4 {A : Ar} (hA : A = Ar.real) {lim : Lim} (hl : lim = limR) (a : Nat) : A.cmp .eql (A.bin .and .u64 (lim a 0) 1) 0 = decide (a % 2 = 0) := by
  rw [lim_mod hl, hA]
  show rcmp .eql (rbin .and .u64 (Int.ofNat (a % 18446744073709551616)) (Int.ofNat (2 ^ 1 - 1))) 0 = _
  rw [u_mask _ 1 (by omega) (by omega)]
  show ((Int.ofNat (a % 18446744073709551616 % 2 ^ 1)) == (0 : Int)) = _
  by_cases h : a % 2 = 0
  · rw [decide_eq_true h, show a % 18446744073709551616 % 2 ^ 1 = 0 by omega]; rfl
  · rw [decide_eq_false h, show a % 18446744073709551616 % 2 ^ 1 = 1 by omega]; rfl
theorem halvedS4 {lim : Lim} (hl : lim = limR) {m inv : Nat} (hR : Mod 256 m) (fast one two a h : Nat) (ha : a < m) (hh : h = hv m a) :
    Sp 225 [.ref (ring4 lim m inv fast one two) 0, u4 lim a] (u4 lim h) := by
  have hm := hR.lt
  refine mk Tryz.func225 rfl rfl L0 R1 (by decide +kernel) fun A S hA hS => ?_
  unfold bodyOf Tryz.f225
  cbv
  have e := even_lim4 hA hl a
  unfold hv at hh
  by_cases h2 : a % 2 = 0
  · rw [decide_eq_true h2] at e
    rw [if_pos h2] at hh
    refine ABr.t e ?_
    cbv
    refine ACall.mk (u4 lim h) (cg hS (halfS4 hl (a := a) (top := 0) (by omega) (by omega) (by omega)) (by cbv)) ?_
    cbv
  · rw [decide_eq_false h2] at e
    rw [if_neg h2] at hh
    refine ABr.f e ?_
    cbv
    obtain ⟨s, hs⟩ : ∃ s, s = (a + m) % 2 ^ 256 := ⟨_, rfl⟩
    obtain ⟨c, hc⟩ : ∃ s, s = (a + m) / 2 ^ 256 := ⟨_, rfl⟩
    refine ACall.mk (.tup [u4 lim s, .s .u64 c]) (cf hS (plus4 hl a m s c (by omega) (by omega) (by omega) (by omega))) ?_
    cbv
    refine ACall.mk (u4 lim h) (cf hS (halfS4 hl (a := s) (top := c) (by omega) (by omega) (by omega))) ?_
    cbv
theorem half_lim6 {lim : Lim} (hl : lim = limR) {a top : Nat} (ha : a < 2 ^ 384) (ht : top ≤ 1) :
    lim a 0 / 2 + 9223372036854775808 * (lim a 1 % 2) = lim ((a + 2 ^ 384 * top) / 2) 0 ∧ lim a 1 / 2 + 9223372036854775808 * (lim a 2 % 2) = lim ((a + 2 ^ 384 * top) / 2) 1 ∧ lim a 2 / 2 + 9223372036854775808 * (lim a 3 % 2) = lim ((a + 2 ^ 384 * top) / 2) 2 ∧ lim a 3 / 2 + 9223372036854775808 * (lim a 4 % 2) = lim ((a + 2 ^ 384 * top) / 2) 3 ∧ lim a 4 / 2 + 9223372036854775808 * (lim a 5 % 2) = lim ((a + 2 ^ 384 * top) / 2) 4 ∧ lim a (6 - 1) / 2 + 9223372036854775808 * (top : Int) = lim ((a + 2 ^ 384 * top) / 2) (6 - 1) := by
  subst hl
  have e : ∀ i, i < 6 → limR (a + 2 ^ 384 * top) i = limR a i := by
    intro i hi
    unfold limR
    congr 1
    rw [show 2 ^ 384 * top = 2 ^ (64 * i) * (2 ^ 64 * (2 ^ (384 - 64 * i - 64) * top)) by
      rw [← Nat.mul_assoc, ← Nat.mul_assoc, ← Nat.pow_add, ← Nat.pow_add]; congr 2; omega]
    rw [Nat.add_mul_div_left _ _ (Nat.two_pow_pos _), Nat.add_mul_mod_self_left]
  have e4 : limR (a + 2 ^ 384 * top) 6 = (top : Int) := by
    unfold limR
    congr 1
    show (a + 2 ^ 384 * top) / 2 ^ 384 % 2 ^ 64 = top
    rw [Nat.add_mul_div_left _ _ (Nat.two_pow_pos _), Nat.div_eq_of_lt ha]
    omega
  have et : (top : Int) % 2 = top := by omega
  refine ⟨?_, ?_, ?_, ?_, ?_, ?_⟩
  all_goals rw [limR_half]
  · rw [e 0 (by omega), e 1 (by omega)]
  · rw [e 1 (by omega), e 2 (by omega)]
  · rw [e 2 (by omega), e 3 (by omega)]
  · rw [e 3 (by omega), e 4 (by omega)]
  · rw [e 4 (by omega), e 5 (by omega)]
  · rw [e (6 - 1) (by omega), e4, et]
theorem halfS6 {lim : Lim} (hl : lim = limR) {a top h : Nat} (ha : a < 2 ^ 384) (ht : top ≤ 1) (hh : h = (a + 2 ^ 384 * top) / 2) : Sp 255 [u6 lim a, .s .u64 top] (u6 lim h) := by
  have la := fun i => lim_range hl a i
  have hf := half_lim6 hl ha ht
  rw [← hh] at hf
  obtain ⟨h0, h1, h2, h3, h4, h5⟩ := hf
  have ht' : (top : Int) = 0 ∨ (top : Int) = 1 := by omega
  refine mk Tryz.func255 rfl rfl L0 R1 (by decide +kernel) fun A S hA hS => ?_
  unfold bodyOf Tryz.f255
  cbv
  exact ⟨(half_word hA (la 0) (la 1)).trans h0, (half_word hA (la 1) (la 2)).trans h1, (half_word hA (la 2) (la 3)).trans h2, (half_word hA (la 3) (la 4)).trans h3, (half_word hA (la 4) (la 5)).trans h4, (half_top hA (la (6 - 1)) ht').trans h5⟩
theorem even_lim6 {A : Ar} (hA : A = Ar.real) {lim : Lim} (hl : lim = limR) (a : Nat) : A.cmp .eql (A.bin .and .u64 (lim a 0) 1) 0 = decide (a % 2 = 0) := by
  rw [lim_mod hl, hA]
  show rcmp .eql (rbin .and .u64 (Int.ofNat (a % 18446744073709551616)) (Int.ofNat (2 ^ 1 - 1))) 0 = _
  rw [u_mask _ 1 (by omega) (by omega)]
  show ((Int.ofNat (a % 18446744073709551616 % 2 ^ 1)) == (0 : Int)) = _
  by_cases h : a % 2 = 0
  · rw [decide_eq_true h, show a % 18446744073709551616 % 2 ^ 1 = 0 by omega]; rfl
  · rw [decide_eq_false h, show a % 18446744073709551616 % 2 ^ 1 = 1 by omega]; rfl
theorem halvedS6 {lim : Lim} (hl : lim = limR) {m inv : Nat} (hR : Mod 384 m) (fast one two a h : Nat) (ha : a < m) (hh : h = hv m a) :
    Sp 250 [.ref (ring6 lim m inv fast one two) 0, u6 lim a] (u6 lim h) := by
  have hm := hR.lt
  refine mk Tryz.func250 rfl rfl L0 R1 (by decide +kernel) fun A S hA hS => ?_
  unfold bodyOf Tryz.f250
  cbv
  have e := even_lim6 hA hl a
  unfold hv at hh
  by_cases h2 : a % 2 = 0
  · rw [decide_eq_true h2] at e
    rw [if_pos h2] at hh
    refine ABr.t e ?_
    cbv
    refine ACall.mk (u6 lim h) (cg hS (halfS6 hl (a := a) (top := 0) (by omega) (by omega) (by omega)) (by cbv)) ?_
    cbv
  · rw [decide_eq_false h2] at e
    rw [if_neg h2] at hh
    refine ABr.f e ?_
    cbv
    obtain ⟨s, hs⟩ : ∃ s, s = (a + m) % 2 ^ 384 := ⟨_, rfl⟩
    obtain ⟨c, hc⟩ : ∃ s, s = (a + m) / 2 ^ 384 := ⟨_, rfl⟩
    refine ACall.mk (.tup [u6 lim s, .s .u64 c]) (cf hS (plus6 hl a m s c (by omega) (by omega) (by omega) (by omega))) ?_
    cbv
    refine ACall.mk (u6 lim h) (cf hS (halfS6 hl (a := s) (top := c) (by omega) (by omega) (by omega))) ?_
    cbv
end Go.Proofs.YtmholgclgamnnaaGreat
end
section
set_option linter.unusedVariables false
set_option linter.unusedSimpArgs false
namespace Go.Proofs.YtmholgclgamnnaaGreat
open Go Eng
set_option maxRecDepth 100000
set_option exponentiation.threshold 2000
/-- A contract out of a walk that comes to the very answer. -/
theorem mkE {f : FuncId} {fn : Func} {As : List AVal} {r : AVal} (hf : Tryz.prog.funcs[f]? = some fn) (hb : fn.body = some (bodyOf fn)) (hn : (fn.name == "runtime.NumGoroutine") = false) (Nl : Nat → Nat) (tr : Nat → Md)
    (hok : codeOK tr (bodyOf fn) = true) (h : ∀ (A : Ar) (S : SpecT), A = Ar.real → S = specs Tryz.prog → afun A TT S Nl tr fn.ntmps fn.results (bodyOf fn) As (fun x => x = r)) : Sp f As r :=
  spec_of_afun (P := Tryz.prog) (T := TT) TT.ok TT.mixed (draw_ok (P := Tryz.prog) (T := TT) TT.ok) (Sp := specs Tryz.prog) ⟨fun _ _ _ h => h, fun _ _ _ _ _ h => h, fun _ _ _ _ h => h, fun _ => rfl⟩ rfl hf hb hn (N := Nl) (tr := tr) hok (h Ar.real _ rfl rfl)
theorem digitsS {row : List AVal} {n : Nat} : Sp 217 [.lst true n row] (.fn (.func 226) [] [.ref [.lst true n row] 0]) := by
  refine mkE Tryz.func217 rfl rfl LN R0 (by decide +kernel) fun A S hA hS => ?_
  unfold bodyOf Tryz.f217
  cbv
theorem bitAt_eq (e n i : Nat) (hi : i < 64 * n) : bitAt (limR e) n i = e / 2 ^ (64 * n - 1 - i) % 2 := by
  unfold bitAt limR
  obtain ⟨k, hk⟩ : ∃ k, k = 64 * n - 1 - i := ⟨_, rfl⟩
  rw [← hk, Int.toNat_natCast]
  obtain ⟨r, hr⟩ : ∃ r, r = k % 64 := ⟨_, rfl⟩
  rw [← hr]
  have hr64 : r < 64 := by omega
  have e1 : k = 64 * (k / 64) + r := by omega
  have e2 : e / 2 ^ k = e / 2 ^ (64 * (k / 64)) / 2 ^ r := by
    rw [Nat.div_div_eq_div_mul, ← Nat.pow_add, ← e1]
  rw [e2]
  generalize e / 2 ^ (64 * (k / 64)) = x
  rw [show (2 : Nat) ^ 64 = 2 ^ r * 2 ^ (64 - r) by rw [← Nat.pow_add]; congr 1; omega, Nat.mod_mul_right_div_self, Nat.mod_mod_of_dvd]
  exact Nat.dvd_trans (by decide) (Nat.pow_dvd_pow 2 (show 1 ≤ 64 - r by omega))
/-- A power, a digit more. -/
theorem pow_step (m a e j : Nat) : a ^ (e / 2 ^ j) % m = if e / 2 ^ j % 2 = 1 then a ^ (e / 2 ^ (j + 1)) % m * (a ^ (e / 2 ^ (j + 1)) % m) % m * a % m else a ^ (e / 2 ^ (j + 1)) % m * (a ^ (e / 2 ^ (j + 1)) % m) % m := by
  have e1 : e / 2 ^ (j + 1) = e / 2 ^ j / 2 := by rw [Nat.pow_succ, Nat.div_div_eq_div_mul]
  rw [e1]
  generalize e / 2 ^ j = x
  have sq : a ^ (x / 2) % m * (a ^ (x / 2) % m) % m = a ^ (2 * (x / 2)) % m := by
    rw [← Nat.mul_mod, ← Nat.pow_add]; congr 2; omega
  rw [sq]
  split
  · rw [Nat.mod_mul_mod, ← Nat.pow_succ]; congr 2; omega
  · congr 2; omega
theorem bit_eq {A : Ar} (hA : A = Ar.real) (t : Nat) : A.cmp .eql (t : Int) 1 = decide (t = 1) := by
  rw [i_eq hA]
  by_cases h : t = 1
  · subst h; rfl
  · rw [decide_eq_false h, decide_eq_false (by omega)]
/-- The memory of Exp. -/
def expH4 (H : H5) (m a x : Nat) : List Blk := [⟨true, true, [.ref (R4 H m) 0]⟩, ⟨true, true, [.s .u64 (H.lim (H.mf 256 m a) 0), .s .u64 (H.lim (H.mf 256 m a) 1), .s .u64 (H.lim (H.mf 256 m a) 2), .s .u64 (H.lim (H.mf 256 m a) 3)]⟩, ⟨true, true, [.i .u64 0, .i .u64 0, .i .u64 0, .i .u64 0]⟩, ⟨true, true, [.s .u64 (H.lim (H.mf 256 m x) 0), .s .u64 (H.lim (H.mf 256 m x) 1), .s .u64 (H.lim (H.mf 256 m x) 2), .s .u64 (H.lim (H.mf 256 m x) 3)]⟩]
theorem ExpS4 {H : H5} (hH : H = H5.real) {m a : Nat} (hR : Mod 256 m) (ha : a < m) {row : List AVal} {e k : Nat} (hrow : IsRow row (limR e) k) (hk : k < 1000) (he : e < 2 ^ (64 * k)) :
    Sp 213 [.ref (R4 H m) 0, el4 H m a, .lst true k row] (el4 H m (H.pow m a e)) := by
  obtain ⟨t, ht⟩ : ∃ t : Nat → Nat, t = bitAt (limR e) k := ⟨_, rfl⟩
  obtain ⟨x, hx⟩ : ∃ x : Nat → Nat, x = fun i => H.pow m a (e / 2 ^ (64 * k - i)) := ⟨_, rfl⟩
  have hx0 : x 0 = 1 := by
    rw [hx, hH]
    show a ^ (e / 2 ^ (64 * k)) % m = 1
    rw [Nat.div_eq_of_lt he, Nat.pow_zero, Nat.mod_eq_of_lt hR.one]
  have hxs : ∀ i, i < 64 * k → x (i + 1) = if t i = 1 then H.mul m (H.mul m (x i) (x i)) a else H.mul m (x i) (x i) := by
    intro i hi
    rw [hx, ht, bitAt_eq e k i hi, hH]
    show a ^ (e / 2 ^ (64 * k - (i + 1))) % m = if e / 2 ^ (64 * k - 1 - i) % 2 = 1 then a ^ (e / 2 ^ (64 * k - i)) % m * (a ^ (e / 2 ^ (64 * k - i)) % m) % m * a % m else a ^ (e / 2 ^ (64 * k - i)) % m * (a ^ (e / 2 ^ (64 * k - i)) % m) % m
    rw [show 64 * k - (i + 1) = 64 * k - 1 - i by omega, show 64 * k - i = 64 * k - 1 - i + 1 by omega]
    exact pow_step m a e _
  have hxe : x (64 * k) = H.pow m a e := by rw [hx]; show H.pow m a (e / 2 ^ (64 * k - 64 * k)) = _; rw [Nat.sub_self, Nat.pow_zero, Nat.div_one]
  have hd := digitsI hrow hk (fun i _ => lim_range rfl e i) (fun i => [.s .u64 (t i : Nat)]) (fun i _ => by rw [ht])
  refine mk Tryz.func213 rfl rfl LN R1 (by decide +kernel) fun A S hA hS => ?_
  unfold bodyOf Tryz.f213
  cbv
  refine ACall.mk _ (cf hS (isS4 (H := H) m)) ?_
  cbv
  refine ACall.mk _ (cf hS digitsS) ?_
  cbv
  refine .mk _ _ (cs hS hd) (fun i _ => rfl) (fun i => expH4 H m a (x i)) ?_ ?_ ?_
  · rw [hx0]; cbv
  · intro i hi
    have hst := hxs i hi
    have hb := bit_eq hA (t i)
    generalize x (i + 1) = y at hst ⊢
    generalize x i = xi at hst ⊢
    generalize t i = ti at hst hb ⊢
    cbv
    refine ACall.mk _ (cf hS (mulE4 hH hR (a := xi) (b := xi))) ?_
    cbv
    by_cases h1 : ti = 1
    · rw [if_pos h1] at hst
      rw [decide_eq_true h1] at hb
      refine ABr.t hb ?_
      cbv
      refine ACall.mk _ (cf hS (mulE4 hH hR (a := H.mul m xi xi) (b := a))) ?_
      rw [hst]
      cbv
    · rw [if_neg h1] at hst
      rw [decide_eq_false h1] at hb
      rw [hst]
      refine ABr.f hb ?_
      cbv
  · rw [hxe]
    cbv
/-- The memory of Exp. -/
def expH6 (H : H5) (m a x : Nat) : List Blk := [⟨true, true, [.ref (R6 H m) 0]⟩, ⟨true, true, [.s .u64 (H.lim (H.mf 384 m a) 0), .s .u64 (H.lim (H.mf 384 m a) 1), .s .u64 (H.lim (H.mf 384 m a) 2), .s .u64 (H.lim (H.mf 384 m a) 3), .s .u64 (H.lim (H.mf 384 m a) 4), .s .u64 (H.lim (H.mf 384 m a) 5)]⟩, ⟨true, true, [.i .u64 0, .i .u64 0, .i .u64 0, .i .u64 0, .i .u64 0, .i .u64 0]⟩, ⟨true, true, [.s .u64 (H.lim (H.mf 384 m x) 0), .s .u64 (H.lim (H.mf 384 m x) 1), .s .u64 (H.lim (H.mf 384 m x) 2), .s .u64 (H.lim (H.mf 384 m x) 3), .s .u64 (H.lim (H.mf 384 m x) 4), .s .u64 (H.lim (H.mf 384 m x) 5)]⟩]
theorem ExpS6 {H : H5} (hH : H = H5.real) {m a : Nat} (hR : Mod 384 m) (ha : a < m) {row : List AVal} {e k : Nat} (hrow : IsRow row (limR e) k) (hk : k < 1000) (he : e < 2 ^ (64 * k)) :
    Sp 195 [.ref (R6 H m) 0, el6 H m a, .lst true k row] (el6 H m (H.pow m a e)) := by
  obtain ⟨t, ht⟩ : ∃ t : Nat → Nat, t = bitAt (limR e) k := ⟨_, rfl⟩
  obtain ⟨x, hx⟩ : ∃ x : Nat → Nat, x = fun i => H.pow m a (e / 2 ^ (64 * k - i)) := ⟨_, rfl⟩
  have hx0 : x 0 = 1 := by
    rw [hx, hH]
    show a ^ (e / 2 ^ (64 * k)) % m = 1
    rw [Nat.div_eq_of_lt he, Nat.pow_zero, Nat.mod_eq_of_lt hR.one]
  have hxs : ∀ i, i < 64 * k → x (i + 1) = if t i = 1 then H.mul m (H.mul m (x i) (x i)) a else H.mul m (x i) (x i) := by
    intro i hi
    rw [hx, ht, bitAt_eq e k i hi, hH]
    show a ^ (e / 2 ^ (64 * k - (i + 1))) % m = if e / 2 ^ (64 * k - 1 - i) % 2 = 1 then a ^ (e / 2 ^ (64 * k - i)) % m * (a ^ (e / 2 ^ (64 * k - i)) % m) % m * a % m else a ^ (e / 2 ^ (64 * k - i)) % m * (a ^ (e / 2 ^ (64 * k - i)) % m) % m
    rw [show 64 * k - (i + 1) = 64 * k - 1 - i by omega, show 64 * k - i = 64 * k - 1 - i + 1 by omega]
    exact pow_step m a e _
  have hxe : x (64 * k) = H.pow m a e := by rw [hx]; show H.pow m a (e / 2 ^ (64 * k - 64 * k)) = _; rw [Nat.sub_self, Nat.pow_zero, Nat.div_one]
  have hd := digitsI hrow hk (fun i _ => lim_range rfl e i) (fun i => [.s .u64 (t i : Nat)]) (fun i _ => by rw [ht])
  refine mk Tryz.func195 rfl rfl LN R1 (by decide +kernel) fun A S hA hS => ?_
  unfold bodyOf Tryz.f195
  cbv
  refine ACall.mk _ (cf hS (isS6 (H := H) m)) ?_
  cbv
  refine ACall.mk _ (cf hS digitsS) ?_
  cbv
  refine .mk _ _ (cs hS hd) (fun i _ => rfl) (fun i => expH6 H m a (x i)) ?_ ?_ ?_
  · rw [hx0]; cbv
  · intro i hi
    have hst := hxs i hi
    have hb := bit_eq hA (t i)
    generalize x (i + 1) = y at hst ⊢
    generalize x i = xi at hst ⊢
    generalize t i = ti at hst hb ⊢
    cbv
    refine ACall.mk _ (cf hS (mulE6 hH hR (a := xi) (b := xi))) ?_
    cbv
    by_cases h1 : ti = 1
    · rw [if_pos h1] at hst
      rw [decide_eq_true h1] at hb
      refine ABr.t hb ?_
      cbv
      refine ACall.mk _ (cf hS (mulE6 hH hR (a := H.mul m xi xi) (b := a))) ?_
      rw [hst]
      cbv
    · rw [if_neg h1] at hst
      rw [decide_eq_false h1] at hb
      rw [hst]
      refine ABr.f hb ?_
      cbv
  · rw [hxe]
    cbv
end Go.Proofs.YtmholgclgamnnaaGreat
end
section
set_option linter.unusedSectionVars false
set_option linter.unusedSimpArgs false
set_option linter.unusedVariables false
namespace Cv
/-- A field's operations. -/
structure Ops (α : Type) where
  add : α → α → α
  sub : α → α → α
  mul : α → α → α
  inv : α → α
  zero : α
  one : α
structure Laws {α : Type} (O : Ops α) : Prop where
  mul_one : ∀ a, O.mul a O.one = a
  one_mul : ∀ a, O.mul O.one a = a
  mul_zero : ∀ a, O.mul a O.zero = O.zero
  zero_mul : ∀ a, O.mul O.zero a = O.zero
  add_zero : O.add O.zero O.zero = O.zero
  assoc : ∀ a b c, O.mul (O.mul a b) c = O.mul a (O.mul b c)
  sub_zero : ∀ a b, O.sub a b = O.zero ↔ a = b
  ne : O.one ≠ O.zero
structure Jac (α : Type) where
  x : α
  y : α
  z : α
variable {α : Type} [DecidableEq α] (O : Ops α)
/-- The program's double. -/
def dbl (p : Jac α) : Jac α :=
  let a := O.mul p.x p.x
  let b := O.mul p.y p.y
  let s := O.mul p.x b
  let s := O.add s s
  let s := O.add s s
  let e := O.add (O.add a a) a
  let c := O.mul b b
  let c := O.add c c
  let c := O.add c c
  let c := O.add c c
  let x := O.sub (O.mul e e) (O.add s s)
  let z := O.mul p.y p.z
  ⟨x, O.sub (O.mul e (O.sub s x)) c, O.add z z⟩
def inf : Jac α := ⟨O.zero, O.zero, O.zero⟩
/-- The program's sum. -/
def plus (p q : Jac α) : Jac α :=
  if p.z = O.zero then q else if q.z = O.zero then p else
  let pz := O.mul p.z p.z
  let qz := O.mul q.z q.z
  let u := O.mul p.x qz
  let v := O.mul q.x pz
  let s := O.mul (O.mul p.y qz) q.z
  let t := O.mul (O.mul q.y pz) p.z
  if u = v then (if s = t then dbl O p else inf O) else
  let h := O.sub v u
  let r := O.sub t s
  let hh := O.mul h h
  let hhh := O.mul hh h
  let w := O.mul u hh
  let x := O.sub (O.sub (O.mul r r) hhh) (O.add w w)
  ⟨x, O.sub (O.mul r (O.sub w x)) (O.mul s hhh), O.mul (O.mul p.z q.z) h⟩
/-- The reference's double and sum. -/
def dblR (p : Jac α) : Jac α := if p.z = O.zero ∨ p.y = O.zero then ⟨p.x, p.y, O.zero⟩ else dbl O p
def plusR (p : Jac α) (qx qy : α) : Jac α :=
  if p.z = O.zero then ⟨qx, qy, O.one⟩ else
  let zz := O.mul p.z p.z
  let h := O.sub (O.mul qx zz) p.x
  let r := O.sub (O.mul qy (O.mul zz p.z)) p.y
  if h = O.zero then (if r = O.zero then dblR O p else ⟨p.x, p.y, O.zero⟩) else
  let hh := O.mul h h
  let hhh := O.mul hh h
  let v := O.mul p.x hh
  let x := O.sub (O.sub (O.mul r r) hhh) (O.add v v)
  ⟨x, O.sub (O.mul r (O.sub v x)) (O.mul p.y hhh), O.mul p.z h⟩
/-- Multiples, bit by bit from the highest of n. -/
def tm (p : Jac α) (k n : Nat) : Nat → Jac α
  | 0 => inf O
  | i + 1 => if k / 2 ^ (n - 1 - i) % 2 = 1 then plus O (dbl O (tm p k n i)) p else dbl O (tm p k n i)
def stepR (z : Jac α) : Jac α := if z.z = O.zero then z else dblR O z
def tr (x y : α) (k n : Nat) : Nat → Jac α
  | 0 => ⟨x, y, O.zero⟩
  | i + 1 => if k / 2 ^ (n - 1 - i) % 2 = 1 then plusR O (stepR O (tr x y k n i)) x y else stepR O (tr x y k n i)
def alike (p q : Jac α) : Prop := (p.z = O.zero ∧ q.z = O.zero) ∨ (p = q ∧ q.z ≠ O.zero)
variable {O}
end Cv
namespace Cv
variable {α : Type} [DecidableEq α] (O : Ops α)
/-- Points: none at infinity. -/
abbrev Pt (α : Type) := Option (α × α)
def up : Pt α → Jac α
  | none => inf O
  | some (x, y) => ⟨x, y, O.one⟩
def down (p : Jac α) : Pt α := if p.z = O.zero then none else
  some (O.mul p.x (O.mul (O.inv p.z) (O.inv p.z)), O.mul (O.mul p.y (O.mul (O.inv p.z) (O.inv p.z))) (O.inv p.z))
/-- The reference's sum. -/
def slope (x1 y1 s x2 : α) : Pt α :=
  let x := O.sub (O.sub (O.mul s s) x1) x2
  some (x, O.sub (O.mul s (O.sub x1 x)) y1)
def sumR : Pt α → Pt α → Pt α
  | none, q => q
  | p, none => p
  | some (x1, y1), some (x2, y2) => if x1 = x2 then (if O.add y1 y2 = O.zero then none else
      slope O x1 y1 (O.mul (O.add (O.add (O.mul x1 x1) (O.mul x1 x1)) (O.mul x1 x1)) (O.inv (O.add y1 y1))) x2)
    else slope O x1 y1 (O.mul (O.sub y2 y1) (O.inv (O.sub x2 x1))) x2
def onC (b : α) : Pt α → Prop
  | none => True
  | some (x, y) => O.mul y y = O.add (O.mul (O.mul x x) x) b

section F1
variable {p : Nat} [NeZero p]
def ops1 (inv : Fin p → Fin p) : Ops (Fin p) := ⟨(· + ·), (· - ·), (· * ·), inv, 0, 1⟩
theorem laws1 (inv : Fin p → Fin p) (hp : (1 : Fin p) ≠ 0) : Laws (ops1 inv) where
  mul_one a := by show a * 1 = a; grind
  one_mul a := by show 1 * a = a; grind
  mul_zero a := by show a * 0 = 0; grind
  zero_mul a := by show 0 * a = 0; grind
  add_zero := by show (0 : Fin p) + 0 = 0; grind
  assoc a b c := by show a * b * c = a * (b * c); grind
  sub_zero a b := by show a - b = 0 ↔ a = b; constructor <;> intro h <;> grind
  ne := hp
end F1
end Cv
namespace Cv
structure F2 (p : Nat) where
  a : Fin p
  b : Fin p
  deriving DecidableEq
section
variable {p : Nat} [NeZero p]
def ops2 (inv : F2 p → F2 p) : Ops (F2 p) := ⟨fun x y => ⟨x.a + y.a, x.b + y.b⟩, fun x y => ⟨x.a - y.a, x.b - y.b⟩, fun x y => ⟨x.a * y.a - x.b * y.b, x.a * y.b + x.b * y.a⟩, inv, ⟨0, 0⟩, ⟨1, 0⟩⟩
end
end Cv
end
