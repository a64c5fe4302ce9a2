import Derived.Test.YtlmlganfjnokiaaW
set_option linter.unusedVariables false
set_option linter.unusedSimpArgs false
namespace Go.Proofs.Ytlmlganfjnokiaa
open Go Eng
set_option maxRecDepth 100000
set_option exponentiation.threshold 2000
def RPow : Nat → Md := fun r => match r with | 10 => .all | _ => .mid
theorem limR_word {e : Nat} (he : e < 18446744073709551616) : limR e 0 = (e : Int) := by
  unfold limR
  rw [Nat.mul_zero, Nat.pow_zero, Nat.div_one, Nat.mod_eq_of_lt (by simpa using he)]
theorem row1 {e : Nat} (he : e < 18446744073709551616) : IsRow [.s .u64 (e : Int)] (limR e) 1 := by
  refine ⟨rfl, fun i hi => ?_⟩
  obtain rfl : i = 0 := by omega
  rw [limR_word he]; rfl
theorem row2 {s c : Nat} (hs : s < 18446744073709551616) (hc : c < 18446744073709551616) : IsRow [.s .u64 (s : Int), .s .u64 (c : Int)] (limR (s + 18446744073709551616 * c)) 2 := by
  refine ⟨rfl, fun i hi => ?_⟩
  have h0 : limR (s + 18446744073709551616 * c) 0 = (s : Int) := by
    unfold limR
    rw [Nat.mul_zero, Nat.pow_zero, Nat.div_one]
    omega
  have h1 : limR (s + 18446744073709551616 * c) 1 = (c : Int) := by
    unfold limR
    rw [Nat.mul_one, show (2 : Nat) ^ 64 = 18446744073709551616 from rfl]
    omega
  rcases (by omega : i = 0 ∨ i = 1) with rfl | rfl
  · rw [h0]; rfl
  · rw [h1]; rfl
theorem row0 : IsRow [] (limR 0) 0 := ⟨rfl, fun i hi => by omega⟩
theorem powersS {H : H5} (hH : H = H5.real) (m a e f : Nat) (hm : m < 2 ^ 256) (ha : a < 2 ^ 256) (he : e < 18446744073709551616) (hf : f < 18446744073709551616) :
    Sp 5 [u4 H.lim m, u4 H.lim a, .s .u64 (e : Int), .s .u64 (f : Int)] (.sb true) := by
  have hl := H5.hlim hH
  by_cases hR : Mod 256 m
  · have hlt := hR.lt
    have h1 := hR.one
    have hp := hR.pos
    obtain ⟨x, hx⟩ : ∃ x, x = H.mod m a := ⟨_, rfl⟩
    have xm : x < m := by rw [hx, hH]; exact Nat.mod_lt _ hp
    obtain ⟨s, hs⟩ : ∃ s, s = (e + f) % 18446744073709551616 := ⟨_, rfl⟩
    obtain ⟨c, hc⟩ : ∃ s, s = (e + f) / 18446744073709551616 := ⟨_, rfl⟩
    have hef : e + f = s + 18446744073709551616 * c := by omega
    have hc1 : c = 0 ∨ c = 1 := by omega
    have k1 := MakeS4 hH hR
    have ix := InS4 hH hR ha
    have i1 := InS4 hH hR (a := 1) (by omega)
    rw [← hx] at ix
    have l1 : u4 H.lim 1 = .agg [.s .u64 1, .s .u64 0, .s .u64 0, .s .u64 0] := by rw [hH]; rfl
    rw [l1] at i1
    have xe := ExpS4 hH hR xm (row1 he) (by decide) he
    have xf := ExpS4 hH hR xm (row1 hf) (by decide) hf
    have xs := ExpS4 hH hR xm (row2 (s := s) (c := c) (by omega) (by omega)) (by decide) (show _ < 2 ^ (64 * 2) by omega)
    have x0 := ExpS4 hH hR xm row0 (by decide) (show _ < 2 ^ (64 * 0) by decide)
    have x1 := ExpS4 hH hR xm (row1 (e := 1) (by decide)) (by decide) (show _ < 2 ^ (64 * 1) by decide)
    rw [← hef] at xs
    have mu := MulS4 hH hR (a := H.pow m x e) (b := H.pow m x f)
    have q1 : H.mul m (H.pow m x e) (H.pow m x f) = H.pow m x (e + f) := by rw [hH]; show x ^ e % m * (x ^ f % m) % m = x ^ (e + f) % m; rw [← Nat.mul_mod, ← Nat.pow_add]
    have q2 : H.pow m x 0 = H.mod m 1 := by rw [hH]; show x ^ 0 % m = 1 % m; rw [Nat.pow_zero]
    have q3 : H.pow m x 1 = x := by rw [hH]; show x ^ 1 % m = x; rw [Nat.pow_one, Nat.mod_eq_of_lt xm]
    have q4 : H.pow m x 0 = H.pow m x 0 := rfl
    clear hx
    obtain ⟨g, hg⟩ : ∃ g, g = e + f := ⟨_, rfl⟩
    rw [← hg] at xs q1
    refine mk Try.func5 rfl rfl L0 RPow (by decide +kernel) fun A S hA hS => ?_
    have hadd : A.bin .add .u64 (e : Int) (f : Int) = (s : Int) := by
      rw [hA]
      show rbin .add .u64 (Int.ofNat e) (Int.ofNat f) = _
      rw [u_add, ← hs]; rfl
    have hcmp : A.cmp .lss (A.bin .add .u64 (e : Int) (f : Int)) (e : Int) = decide (c = 1) := by
      rw [i_lt hA, hadd]
      by_cases h : c = 1
      · rw [decide_eq_true h, decide_eq_true (by omega)]
      · rw [decide_eq_false h, decide_eq_false (by omega)]
    unfold bodyOf Try.f5
    cbv
    refine ACall.mk _ (cf hS (awakeS hH)) ?_
    cbv
    refine ABr.f ((a_not hA true).trans rfl) ?_
    cbv
    refine ACall.mk _ (cf hS k1) ?_
    cbv
    refine ACall.mk _ (cf hS ix) ?_
    cbv
    rcases hc1 with rfl | rfl
    · refine ABr.f hcmp ?_
      cbv
      repeat (first
        | (refine ABr.t (same4 hA (congrArg (H.mf 256 m) (by assumption))) ?_; cbv)
        | (refine ACall.mk _ (cg hS xe ?_) ?_; (focus (cbv; done)); cbv)
        | (refine ACall.mk _ (cg hS xf ?_) ?_; (focus (cbv; done)); cbv)
        | (refine ACall.mk _ (cg hS x0 ?_) ?_; (focus (cbv; done)); cbv)
        | (refine ACall.mk _ (cg hS x1 ?_) ?_; (focus (cbv; done)); cbv)
        | (refine ACall.mk _ (cf hS mu) ?_; cbv)
        | (refine ACall.mk _ (cg hS i1 ?_) ?_; (focus (cbv; done)); cbv)
        | (refine ACall.mk _ (cg hS xs ?_) ?_; (focus (cbv; (repeat' (first | exact hadd | constructor)); done)); cbv))

      exact same4 hA (congrArg (H.mf 256 m) (by assumption))
    · refine ABr.t hcmp ?_
      cbv
      repeat (first
        | (refine ABr.t (same4 hA (congrArg (H.mf 256 m) (by assumption))) ?_; cbv)
        | (refine ACall.mk _ (cg hS xe ?_) ?_; (focus (cbv; done)); cbv)
        | (refine ACall.mk _ (cg hS xf ?_) ?_; (focus (cbv; done)); cbv)
        | (refine ACall.mk _ (cg hS x0 ?_) ?_; (focus (cbv; done)); cbv)
        | (refine ACall.mk _ (cg hS x1 ?_) ?_; (focus (cbv; done)); cbv)
        | (refine ACall.mk _ (cf hS mu) ?_; cbv)
        | (refine ACall.mk _ (cg hS i1 ?_) ?_; (focus (cbv; done)); cbv)
        | (refine ACall.mk _ (cg hS xs ?_) ?_; (focus (cbv; (repeat' (first | exact hadd | constructor)); done)); cbv))

      exact same4 hA (congrArg (H.mf 256 m) (by assumption))
  · have hbad : m % 2 = 0 ∨ m < 3 := by
      by_cases h2 : m % 2 = 0
      · exact .inl h2
      · refine .inr ?_
        rcases Nat.lt_or_ge 1 m with h | h
        · exact absurd ⟨hm, by omega, h⟩ hR
        · omega
    refine mk Try.func5 rfl rfl L0 RPow (by decide +kernel) fun A S hA hS => ?_
    unfold bodyOf Try.f5
    cbv
    refine ACall.mk _ (cf hS (awakeS hH)) ?_
    cbv
    refine ABr.f ((a_not hA true).trans rfl) ?_
    cbv
    refine ACall.mk _ (cf hS (MakeN4 hH hm hbad)) ?_
    cbv
    refine ACall.mk _ (cf hS (mayF4 hH hm hbad)) ?_
    cbv
    exact (a_not hA false).trans rfl
end Go.Proofs.Ytlmlganfjnokiaa
