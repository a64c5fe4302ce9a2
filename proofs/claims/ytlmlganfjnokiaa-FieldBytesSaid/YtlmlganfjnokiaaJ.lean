import Derived.Test.YtlmlganfjnokiaaI
import Derived.Test.YtlmlganfjnokiaaL
set_option linter.unusedVariables false
set_option linter.unusedSimpArgs false
namespace Go.Proofs.Ytlmlganfjnokiaa
open Go Eng
set_option maxRecDepth 100000
set_option exponentiation.threshold 2000

abbrev secpP : Nat := 0xfffffffffffffffffffffffffffffffffffffffffffffffffffffffefffffc2f
abbrev secpN : Nat := 0xfffffffffffffffffffffffffffffffebaaedce6af48a03bbfd25e8cd0364141
abbrev bnP : Nat := 0x30644e72e131a029b85045b68181585d97816a916871ca8d3c208c16d87cfd47
abbrev bnR : Nat := 0x30644e72e131a029b85045b68181585d2833e84879b9709143e1f593f0000001
abbrev blsR : Nat := 0x73eda753299d7d483339d80809a1d80553bda402fffe5bfeffffffff00000001
abbrev blsP : Nat := 0x1a0111ea397fe69a4b1ba7b6434bacd764774b84f38512bf6730d2a0f6b0f6241eabfffeb153ffffb9feffffffffaaab

theorem leafEq_s (k : IntKind) (a b : Int) : leafEq (.s k a, .s k b) = decide (a = b) := by
  show (a == b) = _
  by_cases h : a = b <;> simp [h]
theorem eqs_real {A : Ar} (hA : A = Ar.real) (l : List (AVal × AVal)) : A.eqs l = l.all leafEq := by rw [hA]; rfl
theorem eqs4 {A : Ar} (hA : A = Ar.real) {lim : Lim} (hl : lim = limR) (a b : Nat) (ha : a < 2 ^ 256) (hb : b < 2 ^ 256) : A.eqs [(.s .u64 (lim a 0), .s .u64 (lim b 0)), (.s .u64 (lim a 1), .s .u64 (lim b 1)), (.s .u64 (lim a 2), .s .u64 (lim b 2)), (.s .u64 (lim a 3), .s .u64 (lim b 3))] = decide (a = b) := by
  rw [eqs_real hA]
  simp only [List.all_cons, List.all_nil, leafEq_s, Bool.and_true]
  by_cases h : a = b
  · subst h; simp
  · rw [decide_eq_false h]
    refine Bool.eq_false_iff.2 fun h' => h (lim_inj4 hl ha hb ?_)
    simpa using h'
theorem LessS4 {H : H5} (hH : H = H5.real) (a b : Nat) (ha : a < 2 ^ 256) (hb : b < 2 ^ 256) : Sp 43 [u4 H.lim a, u4 H.lim b] (.sb (H.lt a b)) := by
  refine mk Try.func43 rfl rfl L0 R1 (by decide +kernel) fun A S hA hS => ?_
  unfold bodyOf Try.f43
  cbv
  refine ACall.mk _ (cf hS (less4S (H5.hlim hH) a b ha hb (H.lt a b) (by rw [hH]; rfl))) ?_
  cbv
theorem wordsS4 {H : H5} (a : Nat) : Sp 78 [u4 H.lim a] (.new false 4 1 [.s .u64 (H.lim a 0), .s .u64 (H.lim a 1), .s .u64 (H.lim a 2), .s .u64 (H.lim a 3)]) := by
  refine mk Try.func78 rfl rfl L0 R0 (by decide +kernel) fun A S hA hS => ?_
  unfold bodyOf Try.f78
  cbv
theorem eqs6 {A : Ar} (hA : A = Ar.real) {lim : Lim} (hl : lim = limR) (a b : Nat) (ha : a < 2 ^ 384) (hb : b < 2 ^ 384) : A.eqs [(.s .u64 (lim a 0), .s .u64 (lim b 0)), (.s .u64 (lim a 1), .s .u64 (lim b 1)), (.s .u64 (lim a 2), .s .u64 (lim b 2)), (.s .u64 (lim a 3), .s .u64 (lim b 3)), (.s .u64 (lim a 4), .s .u64 (lim b 4)), (.s .u64 (lim a 5), .s .u64 (lim b 5))] = decide (a = b) := by
  rw [eqs_real hA]
  simp only [List.all_cons, List.all_nil, leafEq_s, Bool.and_true]
  by_cases h : a = b
  · subst h; simp
  · rw [decide_eq_false h]
    refine Bool.eq_false_iff.2 fun h' => h (lim_inj6 hl ha hb ?_)
    simpa using h'
theorem LessS6 {H : H5} (hH : H = H5.real) (a b : Nat) (ha : a < 2 ^ 384) (hb : b < 2 ^ 384) : Sp 68 [u6 H.lim a, u6 H.lim b] (.sb (H.lt a b)) := by
  refine mk Try.func68 rfl rfl L0 R1 (by decide +kernel) fun A S hA hS => ?_
  unfold bodyOf Try.f68
  cbv
  refine ACall.mk _ (cf hS (less6S (H5.hlim hH) a b ha hb (H.lt a b) (by rw [hH]; rfl))) ?_
  cbv
theorem wordsS6 {H : H5} (a : Nat) : Sp 86 [u6 H.lim a] (.new false 6 1 [.s .u64 (H.lim a 0), .s .u64 (H.lim a 1), .s .u64 (H.lim a 2), .s .u64 (H.lim a 3), .s .u64 (H.lim a 4), .s .u64 (H.lim a 5)]) := by
  refine mk Try.func86 rfl rfl L0 R0 (by decide +kernel) fun A S hA hS => ?_
  unfold bodyOf Try.f86
  cbv
theorem SecpPS {H : H5} (hH : H = H5.real) : Sp 12 [] (u4 H.lim secpP) := by
  refine mk Try.func12 rfl rfl L0 R1 (by decide +kernel) fun A S hA hS => ?_
  unfold bodyOf Try.f12
  cbv
  rw [hH]
  exact ⟨rfl, rfl, rfl, rfl⟩
theorem SecpNS {H : H5} (hH : H = H5.real) : Sp 15 [] (u4 H.lim secpN) := by
  refine mk Try.func15 rfl rfl L0 R1 (by decide +kernel) fun A S hA hS => ?_
  unfold bodyOf Try.f15
  cbv
  rw [hH]
  exact ⟨rfl, rfl, rfl, rfl⟩
theorem BnPS {H : H5} (hH : H = H5.real) : Sp 17 [] (u4 H.lim bnP) := by
  refine mk Try.func17 rfl rfl L0 R1 (by decide +kernel) fun A S hA hS => ?_
  unfold bodyOf Try.f17
  cbv
  rw [hH]
  exact ⟨rfl, rfl, rfl, rfl⟩
theorem BnRS {H : H5} (hH : H = H5.real) : Sp 19 [] (u4 H.lim bnR) := by
  refine mk Try.func19 rfl rfl L0 R1 (by decide +kernel) fun A S hA hS => ?_
  unfold bodyOf Try.f19
  cbv
  rw [hH]
  exact ⟨rfl, rfl, rfl, rfl⟩
theorem BlsRS {H : H5} (hH : H = H5.real) : Sp 24 [] (u4 H.lim blsR) := by
  refine mk Try.func24 rfl rfl L0 R1 (by decide +kernel) fun A S hA hS => ?_
  unfold bodyOf Try.f24
  cbv
  rw [hH]
  exact ⟨rfl, rfl, rfl, rfl⟩
theorem BlsPS {H : H5} (hH : H = H5.real) : Sp 21 [] (u6 H.lim blsP) := by
  refine mk Try.func21 rfl rfl L0 R1 (by decide +kernel) fun A S hA hS => ?_
  unfold bodyOf Try.f21
  cbv
  rw [hH]
  exact ⟨rfl, rfl, rfl, rfl, rfl, rfl⟩
theorem prime4S {H : H5} (hH : H = H5.real) (m : Nat) (hm : m < 2 ^ 256) : Sp 72 [u4 H.lim m] (.s .i64 (H.fast4 m)) := by
  refine mk Try.func72 rfl rfl L0 R1 (by decide +kernel) fun A S hA hS => ?_
  unfold bodyOf Try.f72
  cbv
  refine ACall.mk _ (cf hS (SecpPS hH)) ?_
  cbv
  by_cases hsecpP : m = secpP
  · have e := (eqs4 hA (H5.hlim hH) m secpP hm (by decide)).trans (decide_eq_true hsecpP)
    repeat (first | (refine ABr.f (by assumption) ?_; cbv) | (refine ABr.t (by assumption) ?_; cbv))
    rw [hH, hsecpP]
    decide
  have esecpP := (eqs4 hA (H5.hlim hH) m secpP hm (by decide)).trans (decide_eq_false hsecpP)
  repeat (refine ABr.f (by assumption) ?_; cbv)
  refine ACall.mk _ (cf hS (SecpNS hH)) ?_
  cbv
  by_cases hsecpN : m = secpN
  · have e := (eqs4 hA (H5.hlim hH) m secpN hm (by decide)).trans (decide_eq_true hsecpN)
    repeat (first | (refine ABr.f (by assumption) ?_; cbv) | (refine ABr.t (by assumption) ?_; cbv))
    rw [hH, hsecpN]
    decide
  have esecpN := (eqs4 hA (H5.hlim hH) m secpN hm (by decide)).trans (decide_eq_false hsecpN)
  repeat (refine ABr.f (by assumption) ?_; cbv)
  refine ACall.mk _ (cf hS (BnPS hH)) ?_
  cbv
  by_cases hbnP : m = bnP
  · have e := (eqs4 hA (H5.hlim hH) m bnP hm (by decide)).trans (decide_eq_true hbnP)
    repeat (first | (refine ABr.f (by assumption) ?_; cbv) | (refine ABr.t (by assumption) ?_; cbv))
    rw [hH, hbnP]
    decide
  have ebnP := (eqs4 hA (H5.hlim hH) m bnP hm (by decide)).trans (decide_eq_false hbnP)
  repeat (refine ABr.f (by assumption) ?_; cbv)
  refine ACall.mk _ (cf hS (BnRS hH)) ?_
  cbv
  by_cases hbnR : m = bnR
  · have e := (eqs4 hA (H5.hlim hH) m bnR hm (by decide)).trans (decide_eq_true hbnR)
    repeat (first | (refine ABr.f (by assumption) ?_; cbv) | (refine ABr.t (by assumption) ?_; cbv))
    rw [hH, hbnR]
    decide
  have ebnR := (eqs4 hA (H5.hlim hH) m bnR hm (by decide)).trans (decide_eq_false hbnR)
  repeat (refine ABr.f (by assumption) ?_; cbv)
  refine ACall.mk _ (cf hS (BlsRS hH)) ?_
  cbv
  by_cases hblsR : m = blsR
  · have e := (eqs4 hA (H5.hlim hH) m blsR hm (by decide)).trans (decide_eq_true hblsR)
    repeat (first | (refine ABr.f (by assumption) ?_; cbv) | (refine ABr.t (by assumption) ?_; cbv))
    rw [hH, hblsR]
    decide
  have eblsR := (eqs4 hA (H5.hlim hH) m blsR hm (by decide)).trans (decide_eq_false hblsR)
  repeat (refine ABr.f (by assumption) ?_; cbv)
  rw [hH]
  show (0 : Int) = ((if m ∈ primes4 then 1 else 0 : Nat) : Int)
  rw [if_neg (by simp only [primes4, List.mem_cons, List.not_mem_nil, or_false, not_or]; exact ⟨hsecpP, hsecpN, hbnP, hbnR, hblsR⟩)]
  rfl
theorem prime6S {H : H5} (hH : H = H5.real) (m : Nat) (hm : m < 2 ^ 384) : Sp 82 [u6 H.lim m] (.s .i64 (H.fast6 m)) := by
  refine mk Try.func82 rfl rfl L0 R1 (by decide +kernel) fun A S hA hS => ?_
  unfold bodyOf Try.f82
  cbv
  refine ACall.mk _ (cf hS (BlsPS hH)) ?_
  cbv
  by_cases hblsP : m = blsP
  · have e := (eqs6 hA (H5.hlim hH) m blsP hm (by decide)).trans (decide_eq_true hblsP)
    repeat (refine ABr.t e ?_; cbv)
    rw [hH, hblsP]
    decide
  have e := (eqs6 hA (H5.hlim hH) m blsP hm (by decide)).trans (decide_eq_false hblsP)
  repeat (refine ABr.f e ?_; cbv)
  clear e
  rw [hH]
  show (0 : Int) = ((if m ∈ primes6 then 1 else 0 : Nat) : Int)
  rw [if_neg (by simp only [primes6, List.mem_cons, List.not_mem_nil, or_false]; exact hblsP)]
  rfl
end Go.Proofs.Ytlmlganfjnokiaa
