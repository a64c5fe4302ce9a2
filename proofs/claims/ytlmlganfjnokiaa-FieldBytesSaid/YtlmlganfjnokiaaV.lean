import Derived.Test.YtlmlganfjnokiaaU
set_option linter.unusedVariables false
set_option linter.unusedSimpArgs false
namespace Go.Proofs.Ytlmlganfjnokiaa
open Go Eng
set_option maxRecDepth 100000
set_option exponentiation.threshold 2000
theorem mod7 : Mod 256 7 := ⟨by decide, by decide, by decide⟩
theorem awakeS {H : H5} (hH : H = H5.real) : Sp 11 [] (.sb true) := by
  have hl := H5.hlim hH
  have l7 : u4 H.lim 7 = .agg [.s .u64 7, .s .u64 0, .s .u64 0, .s .u64 0] := by rw [hH]; rfl
  have l8 : u4 H.lim 8 = .agg [.s .u64 8, .s .u64 0, .s .u64 0, .s .u64 0] := by rw [hH]; rfl
  have l2 : u4 H.lim 2 = .agg [.s .u64 2, .s .u64 0, .s .u64 0, .s .u64 0] := by rw [hH]; rfl
  have l5 : u4 H.lim 5 = .agg [.s .u64 5, .s .u64 0, .s .u64 0, .s .u64 0] := by rw [hH]; rfl
  have l10 : u4 H.lim 10 = .agg [.s .u64 10, .s .u64 0, .s .u64 0, .s .u64 0] := by rw [hH]; rfl
  have l3 : u4 H.lim 3 = .agg [.s .u64 3, .s .u64 0, .s .u64 0, .s .u64 0] := by rw [hH]; rfl
  have m7 : H.mod 7 2 = 2 ∧ H.mod 7 5 = 5 ∧ H.mod 7 10 = 3 ∧ H.mod 7 3 = 3 := by rw [hH]; exact ⟨rfl, rfl, rfl, rfl⟩
  have k1 := MakeS4 hH mod7
  have k2 := MakeN4 hH (m := 8) (by decide) (.inl rfl)
  have i2 := InS4 hH mod7 (a := 2) (by decide)
  have i5 := InS4 hH mod7 (a := 5) (by decide)
  have i10 := InS4 hH mod7 (a := 10) (by decide)
  have i3 := InS4 hH mod7 (a := 3) (by decide)
  rw [m7.1] at i2
  rw [m7.2.1] at i5
  rw [m7.2.2.1] at i10
  rw [m7.2.2.2] at i3
  have r2 := (RootS4 hH mod7 (a := 2) (by decide) 4 (by rw [hH]; rfl)).1 (by rw [hH]; rfl)
  have mu := MulS4 hH mod7 (a := 5) (b := 3)
  have inv := InvS4 hH mod7 (a := 3) (by decide)
  rw [show H.mul 7 5 3 = 1 by rw [hH]; rfl] at mu
  rw [show H.pow 7 3 (7 - 2) = 5 by rw [hH]; rfl] at inv
  have o1 := OutS4 hH mod7 (a := 1) (by decide)
  have o5 := OutS4 hH mod7 (a := 5) (by decide)
  have o4 := OutS4 hH mod7 (a := 4) (by decide)
  rw [l7] at k1
  rw [l8] at k2
  rw [l2] at i2
  rw [l5] at i5
  rw [l10] at i10
  rw [l3] at i3
  refine mk Try.func11 rfl rfl L0 R1 (by decide +kernel) fun A S hA hS => ?_
  unfold bodyOf Try.f11
  cbv
  refine ACall.mk _ (cg hS k1 (by cbv)) ?_
  cbv
  refine ACall.mk _ (cg hS i2 (by cbv)) ?_
  cbv
  refine ACall.mk _ (cf hS r2) ?_
  cbv
  refine ACall.mk _ (cg hS k2 (by cbv)) ?_
  cbv
  refine ACall.mk _ (cg hS i5 (by cbv)) ?_
  cbv
  refine ACall.mk _ (cg hS i10 (by cbv)) ?_
  cbv
  refine ACall.mk _ (cf hS mu) ?_
  cbv
  refine ACall.mk _ (cf hS o1) ?_
  cbv
  repeat (first
    | (refine ABr.t (by subst hA; subst hH; rfl) ?_; cbv)
    | (refine ACall.mk _ (cg hS i3 (by cbv)) ?_; cbv)
    | (refine ACall.mk _ (cf hS inv) ?_; cbv)
    | (refine ACall.mk _ (cf hS o5) ?_; cbv)
    | (refine ACall.mk _ (cf hS o4) ?_; cbv))
theorem mayF4 {H : H5} (hH : H = H5.real) {m : Nat} (hm : m < 2 ^ 256) (hbad : m % 2 = 0 ∨ m < 3) : Sp 37 [.lst false 4 [.s .u64 (H.lim m 0), .s .u64 (H.lim m 1), .s .u64 (H.lim m 2), .s .u64 (H.lim m 3)]] (.sb false) := by
  have hl := H5.hlim hH
  refine mk Try.func37 rfl rfl L0 R1 (by decide +kernel) fun A S hA hS => ?_
  have hrem : A.bin .rem .u64 (H.lim m 0) 2 = ((m % 2 : Nat) : Int) := by
    rw [lim_mod hl, hA]
    show (((m % 18446744073709551616 : Nat) : Int).tmod 2) = _
    rw [Int.tmod_eq_emod_of_nonneg (by omega)]
    omega
  by_cases h2 : m % 2 = 0
  · have e : A.cmp .eql (A.bin .rem .u64 (H.lim m 0) 2) 0 = true := by rw [i_eq hA, hrem, h2]; rfl
    unfold bodyOf Try.f37
    cbv
    refine ABr.t e ?_
    cbv
  · have e : A.cmp .eql (A.bin .rem .u64 (H.lim m 0) 2) 0 = false := by rw [i_eq hA, hrem, decide_eq_false (by omega)]
    obtain rfl : m = 1 := by omega
    unfold bodyOf Try.f37
    cbv
    refine ABr.f e ?_
    cbv
    repeat (first | (refine ABr.t (by subst hA; subst hH; rfl) ?_; cbv) | (refine ABr.f (by subst hA; subst hH; rfl) ?_; cbv))
    subst hA; subst hH; rfl
theorem mayF6 {H : H5} (hH : H = H5.real) {m : Nat} (hm : m < 2 ^ 384) (hbad : m % 2 = 0 ∨ m < 3) : Sp 37 [.lst false 6 [.s .u64 (H.lim m 0), .s .u64 (H.lim m 1), .s .u64 (H.lim m 2), .s .u64 (H.lim m 3), .s .u64 (H.lim m 4), .s .u64 (H.lim m 5)]] (.sb false) := by
  have hl := H5.hlim hH
  refine mk Try.func37 rfl rfl L0 R1 (by decide +kernel) fun A S hA hS => ?_
  have hrem : A.bin .rem .u64 (H.lim m 0) 2 = ((m % 2 : Nat) : Int) := by
    rw [lim_mod hl, hA]
    show (((m % 18446744073709551616 : Nat) : Int).tmod 2) = _
    rw [Int.tmod_eq_emod_of_nonneg (by omega)]
    omega
  by_cases h2 : m % 2 = 0
  · have e : A.cmp .eql (A.bin .rem .u64 (H.lim m 0) 2) 0 = true := by rw [i_eq hA, hrem, h2]; rfl
    unfold bodyOf Try.f37
    cbv
    refine ABr.t e ?_
    cbv
  · have e : A.cmp .eql (A.bin .rem .u64 (H.lim m 0) 2) 0 = false := by rw [i_eq hA, hrem, decide_eq_false (by omega)]
    obtain rfl : m = 1 := by omega
    unfold bodyOf Try.f37
    cbv
    refine ABr.f e ?_
    cbv
    repeat (first | (refine ABr.t (by subst hA; subst hH; rfl) ?_; cbv) | (refine ABr.f (by subst hA; subst hH; rfl) ?_; cbv))
    subst hA; subst hH; rfl
end Go.Proofs.Ytlmlganfjnokiaa
