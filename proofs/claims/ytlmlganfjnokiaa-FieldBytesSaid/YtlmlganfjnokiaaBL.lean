import Derived.Test.YtlmlganfjnokiaaBK
import Derived.Test.YtlmlganfjnokiaaBI
import Derived.Test.YtlmlganfjnokiaaW
set_option linter.unusedVariables false
set_option linter.unusedSimpArgs false
namespace Go.Proofs.Ytlmlganfjnokiaa
open Go Eng
set_option maxRecDepth 100000
set_option exponentiation.threshold 2000
set_option maxHeartbeats 4000000
theorem or_zero {a b : Nat} : a ||| b = 0 ↔ a = 0 ∧ b = 0 := by
  constructor
  · intro h
    have h1 : a ≤ a ||| b := Nat.left_le_or
    have h2 : b ≤ a ||| b := Nat.right_le_or
    omega
  · rintro ⟨rfl, rfl⟩; rfl
theorem orw_zero {A : Ar} (hA : A = Ar.real) {a b : Int} (ha : 0 ≤ a ∧ a < 18446744073709551616) (hb : 0 ≤ b ∧ b < 18446744073709551616) : (A.bin .or .u64 a b = 0 ↔ a = 0 ∧ b = 0) ∧ 0 ≤ A.bin .or .u64 a b ∧ A.bin .or .u64 a b < 18446744073709551616 := by
  obtain ⟨x, rfl⟩ : ∃ n : Nat, a = n := ⟨a.toNat, by omega⟩
  obtain ⟨y, rfl⟩ : ∃ n : Nat, b = n := ⟨b.toNat, by omega⟩
  have e : A.bin .or .u64 (x : Int) (y : Int) = ((x ||| y : Nat) : Int) := by rw [hA]; exact u_or x y (by omega) (by omega)
  have h : x ||| y < 2 ^ 64 := Nat.or_lt_two_pow (by omega) (by omega)
  rw [e]
  refine ⟨?_, by omega, by omega⟩
  have := @or_zero x y
  omega
theorem high4 {A : Ar} (hA : A = Ar.real) {w : Nat → Int} (le : ∀ i, 0 ≤ w i ∧ w i < 18446744073709551616) : A.bin .or .u64 (A.bin .or .u64 (A.bin .or .u64 0 (w 1)) (w 2)) (w 3) = 0 ↔ w 1 = 0 ∧ w 2 = 0 ∧ w 3 = 0 := by
  obtain ⟨z1, r1⟩ := orw_zero hA (a := 0) (by decide) (le 1)
  obtain ⟨z2, r2⟩ := orw_zero hA r1 (le 2)
  obtain ⟨z3, r3⟩ := orw_zero hA r2 (le 3)
  rw [z3, z2, z1]; simp [and_assoc]
theorem high6 {A : Ar} (hA : A = Ar.real) {w : Nat → Int} (le : ∀ i, 0 ≤ w i ∧ w i < 18446744073709551616) : A.bin .or .u64 (A.bin .or .u64 (A.bin .or .u64 (A.bin .or .u64 (A.bin .or .u64 0 (w 1)) (w 2)) (w 3)) (w 4)) (w 5) = 0 ↔ w 1 = 0 ∧ w 2 = 0 ∧ w 3 = 0 ∧ w 4 = 0 ∧ w 5 = 0 := by
  obtain ⟨z1, r1⟩ := orw_zero hA (a := 0) (by decide) (le 1)
  obtain ⟨z2, r2⟩ := orw_zero hA r1 (le 2)
  obtain ⟨z3, r3⟩ := orw_zero hA r2 (le 3)
  obtain ⟨z4, r4⟩ := orw_zero hA r3 (le 4)
  obtain ⟨z5, r5⟩ := orw_zero hA r4 (le 5)
  rw [z5, z4, z3, z2, z1]; simp [and_assoc]
theorem listS {H : H5} (a : Nat) : Sp 46 [u4 H.lim a] (.new false 4 1 (ws4 H.lim a)) := by
  refine mk Try.func46 rfl rfl L0 R0 (by decide +kernel) ?_
  intro A S hA hS
  unfold bodyOf Try.f46
  cbv
theorem list6S {H : H5} (a : Nat) : Sp 55 [u6 H.lim a] (.new false 6 1 (ws6 H.lim a)) := by
  refine mk Try.func55 rfl rfl L0 R0 (by decide +kernel) ?_
  intro A S hA hS
  unfold bodyOf Try.f55
  cbv
theorem mayT4 {H : H5} (hH : H = H5.real) {m : Nat} (hR : Mod 256 m) : Sp 37 [.lst false 4 (ws4 H.lim m)] (.sb true) := by
  have hl := H5.hlim hH
  have hm := hR.lt
  have h1 := hR.one
  have hodd := hR.odd
  have le := fun i => lim_range hl m i
  have hrem2 : ¬ (H.lim m 0).tmod 2 = 0 := by
    rw [lim_mod hl m, Int.tmod_eq_emod_of_nonneg (by omega)]
    have : m % 18446744073709551616 % 2 = 1 := by omega
    omega
  have h3 : (H.lim m 1 = 0 ∧ H.lim m 2 = 0 ∧ H.lim m 3 = 0) → H.lim m 0 ≥ 3 := by
    rintro ⟨e1, e2, e3⟩
    have := split4 hl m hm
    rw [e1, e2, e3] at this
    omega
  refine mk Try.func37 rfl rfl L0 R0 (by decide +kernel) ?_
  intro A S hA hS
  unfold bodyOf Try.f37
  cbv
  have hrem : A.cmp .eql (A.bin .rem .u64 (H.lim m 0) 2) 0 = false := by rw [i_eq hA, hA]; exact decide_eq_false hrem2
  refine ABr.f hrem ?_
  cbv
  have ht := high4 hA le
  by_cases hz : H.lim m 1 = 0 ∧ H.lim m 2 = 0 ∧ H.lim m 3 = 0
  · have h3 := h3 hz
    have hc := (i_ne hA).trans (congrArg (!·) (decide_eq_true (ht.2 hz)))
    have hg := (i_ge hA).trans (decide_eq_true h3)
    repeat (refine ABr.f hc ?_; cbv)
    exact hg
  · have hc := (i_ne hA).trans (congrArg (!·) (decide_eq_false fun h => hz (ht.1 h)))
    repeat (refine ABr.t hc ?_; cbv)
theorem mayT6 {H : H5} (hH : H = H5.real) {m : Nat} (hR : Mod 384 m) : Sp 37 [.lst false 6 (ws6 H.lim m)] (.sb true) := by
  have hl := H5.hlim hH
  have hm := hR.lt
  have h1 := hR.one
  have hodd := hR.odd
  have le := fun i => lim_range hl m i
  have hrem2 : ¬ (H.lim m 0).tmod 2 = 0 := by
    rw [lim_mod hl m, Int.tmod_eq_emod_of_nonneg (by omega)]
    have : m % 18446744073709551616 % 2 = 1 := by omega
    omega
  have h3 : (H.lim m 1 = 0 ∧ H.lim m 2 = 0 ∧ H.lim m 3 = 0 ∧ H.lim m 4 = 0 ∧ H.lim m 5 = 0) → H.lim m 0 ≥ 3 := by
    rintro ⟨e1, e2, e3, e4, e5⟩
    have := split6 hl m hm
    rw [e1, e2, e3, e4, e5] at this
    omega
  refine mk Try.func37 rfl rfl L0 R0 (by decide +kernel) ?_
  intro A S hA hS
  unfold bodyOf Try.f37
  cbv
  have hrem : A.cmp .eql (A.bin .rem .u64 (H.lim m 0) 2) 0 = false := by rw [i_eq hA, hA]; exact decide_eq_false hrem2
  refine ABr.f hrem ?_
  cbv
  have ht := high6 hA le
  by_cases hz : H.lim m 1 = 0 ∧ H.lim m 2 = 0 ∧ H.lim m 3 = 0 ∧ H.lim m 4 = 0 ∧ H.lim m 5 = 0
  · have h3 := h3 hz
    have hc := (i_ne hA).trans (congrArg (!·) (decide_eq_true (ht.2 hz)))
    have hg := (i_ge hA).trans (decide_eq_true h3)
    repeat (refine ABr.f hc ?_; cbv)
    exact hg
  · have hc := (i_ne hA).trans (congrArg (!·) (decide_eq_false fun h => hz (ht.1 h)))
    repeat (refine ABr.t hc ?_; cbv)
theorem i_gt {A : Ar} (hA : A = Ar.real) {x y : Int} : A.cmp .gtr x y = decide (x > y) := by rw [hA]; rfl
theorem nsame4' {A : Ar} (hA : A = Ar.real) {lim : Lim} (a : Nat) : A.not (A.eqs [(.s .u64 (lim a 0), .s .u64 (lim a 0)), (.s .u64 (lim a 1), .s .u64 (lim a 1)), (.s .u64 (lim a 2), .s .u64 (lim a 2)), (.s .u64 (lim a 3), .s .u64 (lim a 3))]) = false := by
  rw [same4 hA (lim := lim) (a := a) (b := a) rfl]; exact a_not hA true
theorem nsame6' {A : Ar} (hA : A = Ar.real) {lim : Lim} (a : Nat) : A.not (A.eqs [(.s .u64 (lim a 0), .s .u64 (lim a 0)), (.s .u64 (lim a 1), .s .u64 (lim a 1)), (.s .u64 (lim a 2), .s .u64 (lim a 2)), (.s .u64 (lim a 3), .s .u64 (lim a 3)), (.s .u64 (lim a 4), .s .u64 (lim a 4)), (.s .u64 (lim a 5), .s .u64 (lim a 5))]) = false := by
  rw [same6 hA (lim := lim) (a := a) (b := a) rfl]; exact a_not hA true
def RReck : Nat → Md := fun r => match r with | 10 => .res [] | 13 => .all | _ => .mid
theorem bad_mod {b m : Nat} (hm : m < 2 ^ b) (h : ¬ Mod b m) : m % 2 = 0 ∨ m < 3 := by
  by_cases h2 : m % 2 = 0
  · exact .inl h2
  · refine .inr ?_
    rcases Nat.lt_or_ge 1 m with h1 | h1
    · exact absurd ⟨hm, by omega, h1⟩ h
    · omega
theorem reckonsS4 {H : H5} (hH : H = H5.real) (m a b : Nat) (hm : m < 2 ^ 256) (ha : a < 2 ^ 256) (hb : b < 2 ^ 256) {row : List AVal} {e k : Nat} (hrow : IsRow row (limR e) k) (he : e < 2 ^ (64 * k)) :
    Sp 7 [u4 H.lim m, u4 H.lim a, u4 H.lim b, .lst true k row] (.sb true) := by
  have hl := H5.hlim hH
  by_cases hR : Mod 256 m
  · have hlt := hR.lt
    have h1 := hR.one
    have hp := hR.pos
    obtain ⟨x, hx⟩ : ∃ x, x = H.mod m a := ⟨_, rfl⟩
    obtain ⟨y, hy⟩ : ∃ x, x = H.mod m b := ⟨_, rfl⟩
    have xm : x < m := by rw [hx, hH]; exact Nat.mod_lt _ hp
    have ym : y < m := by rw [hy, hH]; exact Nat.mod_lt _ hp
    have c1 := MakeS4 hH hR
    have c2 := ModulusS4 (H := H) m
    have c3 := rNew4 hH hR
    have c4 := rMod4 hl (k := 4) (rowx4 H.lim a) (by decide) ha hp hlt (r := x) (by rw [hx, hH]; rfl)
    have c5 := rMod4 hl (k := 4) (rowx4 H.lim b) (by decide) hb hp hlt (r := y) (by rw [hy, hH]; rfl)
    have c6 := InS4 hH hR ha
    have c7 := InS4 hH hR hb
    rw [← hx] at c6
    rw [← hy] at c7
    have hmulm : ∀ p q, H.mul m p q < m := fun p q => by rw [hH]; exact Nat.mod_lt _ hp
    have haddm : ∀ p q, H.add m p q < m := fun p q => by rw [hH]; exact Nat.mod_lt _ hp
    have hsubm : ∀ p q, H.sub m p q < m := fun p q => by rw [hH]; exact Nat.mod_lt _ hp
    have hpowm : ∀ p q, H.pow m p q < m := fun p q => by rw [hH]; exact Nat.mod_lt _ hp
    have o0 := OutS4 hH hR xm
    have p1 := AddS4 hH hR (a := x) (b := y)
    have o1 := OutS4 hH hR (haddm x y)
    have r1 := rAddMod4 hl x y m (H.add m x y) hlt xm ym (by rw [hH]; rfl)
    have p2 := SubS4 hH hR ym (a := x)
    have o2 := OutS4 hH hR (hsubm x y)
    have r2 := rSubMod4 hl x y m (H.sub m x y) hlt xm ym (by rw [hH]; rfl)
    have p3 := NegS4 hH hR xm
    have o3 := OutS4 hH hR (hsubm 0 x)
    have r3 := rSubMod4 hl 0 x m (H.sub m 0 x) hlt hp xm (by rw [hH]; rfl)
    have p4 := MulS4 hH hR (a := x) (b := y)
    have o4 := OutS4 hH hR (hmulm x y)
    have r4 := rMulMod4 hH hR xm ym
    have p6 := InvS4 hH hR xm
    have o6 := OutS4 hH hR (hpowm x (m - 2))
    have r6 := rInv4 hH hR xm
    have four := fun v => fourS (H := H) v
    have hz : u4 H.lim 0 = el4 H m 0 := by rw [hH]; unfold el4 H5.real; simp
    have o7 := OutS4 hH hR (a := 0) hp
    rw [← hz] at o7
    have l0 : ∀ i, H.lim 0 i = 0 := fun i => by rw [hH]; show ((0 / 2 ^ (64 * i) % 2 ^ 64 : Nat) : Int) = 0; rw [Nat.zero_div]; rfl
    obtain ⟨r, hr⟩ : ∃ r, r = H.pow m x ((m + 1) / 4) := ⟨_, rfl⟩
    have hrm : r < m := by rw [hr]; exact hpowm _ _
    have o8 := OutS4 hH hR hrm
    have pr := RootS4 hH hR xm r hr
    have rr := rRoot4 hH hR xm r hr
    have may := mayT4 hH hR
    have lists := fun v => listS (H := H) v
    have hroot : (Sp 31 [.ref (R4 H m) 0, el4 H m x] (.tup [el4 H m r, .b true]) ∧ Sp 48 [rf4 H m, .lst false 4 (ws4 H.lim x)] (.tup [.lst false 4 (ws4 H.lim r), .b true])) ∨
        (Sp 31 [.ref (R4 H m) 0, el4 H m x] (.tup [u4 H.lim 0, .b false]) ∧ Sp 48 [rf4 H m, .lst false 4 (ws4 H.lim x)] (.tup [.lst false 4 (ws4 H.lim 0), .b false])) := by
      by_cases h : H.mul m r r = x
      · exact .inl ⟨pr.1 h, rr.1 h⟩
      · exact .inr ⟨pr.2 h, rr.2 h⟩
    by_cases hk : k ≤ 8
    · have p5 := ExpS4 hH hR xm hrow (by omega) he
      have o5 := OutS4 hH hR (hpowm x e)
      have r5 := rExp4 hH hR xm (hl ▸ hrow) (by omega) he
      have hrowl := hrow.1
      clear hx hy hr pr rr
      refine mk Try.func7 rfl rfl L0 RReck (by decide +kernel) ?_
      intro A S hA hS
      unfold bodyOf Try.f7
      cbv
      refine ACall.mk _ (cf hS (awakeS hH)) ?_
      cbv
      have sm : ∀ v, _ := fun v => same4 hA (lim := H.lim) (a := v) (b := v) rfl
      have nsm : ∀ v, _ := fun v => nsame4' hA (lim := H.lim) v
      have nt := (a_not hA true).trans (rfl : (!true) = false)
      have hlen : A.cmp .gtr (A.len k) 8 = false := by rw [a_len hA]; exact (i_gt hA).trans (decide_eq_false (by omega))
      have hroom : A.room k 8 = true := by rw [hA]; exact decide_eq_true (by omega)
      have hend : A.rowend row k 1 = true := by rw [hA]; show (row.length == k * 1) = true; rw [hrowl]; simp
      refine ABr.f nt ?_
      cbv
      repeat (first
        | (refine ACall.mk _ (cf hS c1) ?_; cbv)
        | (refine ACall.mk _ (cf hS c2) ?_; cbv)
        | (refine ACall.mk _ (cf hS may) ?_; cbv)
        | (refine ACall.mk _ (cf hS (lists _)) ?_; cbv)
        | (refine ACall.mk _ (cf hS c3) ?_; cbv)
        | (refine ACall.mk _ (cg hS c4 ?_) ?_; (focus (cbv; done)); cbv)
        | (refine ACall.mk _ (cg hS c5 ?_) ?_; (focus (cbv; done)); cbv)
        | (refine ACall.mk _ (cf hS c6) ?_; cbv)
        | (refine ACall.mk _ (cf hS c7) ?_; cbv)
        | (refine ABr.f nt ?_; cbv)
        | (refine ABr.f (nsm _) ?_; cbv)
        | (refine ABr.f hlen ?_; cbv))
      have hz3 : SimL [.lst false 4 [.i .u64 0, .i .u64 0, .i .u64 0, .i .u64 0], .lst false 4 (ws4 H.lim x), .lst false 4 (ws4 H.lim m)] [.lst false 4 (ws4 H.lim 0), .lst false 4 (ws4 H.lim x), .lst false 4 (ws4 H.lim m)] := by
        cbv
        exact ⟨⟨(l0 0).symm, (l0 1).symm, (l0 2).symm, (l0 3).symm⟩, trivial⟩
      rcases hroot with ⟨q1, q2⟩ | ⟨q1, q2⟩
      · refine ACall.mk _ (cf hS q1) ?_
        cbv
        refine ACall.mk _ (cf hS q2) ?_
        cbv
        repeat (first
          | (refine ABr.t (sm _) ?_; cbv)
          | (refine ACall.mk _ (cf hS (four _)) ?_; cbv)
          | (refine ACall.mk _ (cf hS o0) ?_; cbv)
          | (refine ACall.mk _ (cf hS p1) ?_; cbv)
          | (refine ACall.mk _ (cf hS o1) ?_; cbv)
          | (refine ACall.mk _ (cf hS r1) ?_; cbv)
          | (refine ACall.mk _ (cf hS p2) ?_; cbv)
          | (refine ACall.mk _ (cf hS o2) ?_; cbv)
          | (refine ACall.mk _ (cf hS r2) ?_; cbv)
          | (refine ACall.mk _ (cf hS p3) ?_; cbv)
          | (refine ACall.mk _ (cf hS o3) ?_; cbv)
          | (refine ACall.mk _ (cg hS r3 hz3) ?_; cbv)
          | (refine ACall.mk _ (cf hS p4) ?_; cbv)
          | (refine ACall.mk _ (cf hS o4) ?_; cbv)
          | (refine ACall.mk _ (cf hS r4) ?_; cbv)
          | (refine .mk hend ?_; cbv)
          | (refine .mk hroom ?_; cbv)
          | (refine ACall.mk _ (cf hS p5) ?_; cbv)
          | (refine ACall.mk _ (cf hS o5) ?_; cbv)
          | (refine ACall.mk _ (cf hS r5) ?_; cbv)
          | (refine ACall.mk _ (cf hS p6) ?_; cbv)
          | (refine ACall.mk _ (cf hS o6) ?_; cbv)
          | (refine ACall.mk _ (cf hS r6) ?_; cbv)
          | (refine ACall.mk _ (cf hS o7) ?_; cbv)
          | (refine ACall.mk _ (cf hS o8) ?_; cbv))
        exact sm _
      · refine ACall.mk _ (cf hS q1) ?_
        cbv
        refine ACall.mk _ (cf hS q2) ?_
        cbv
        repeat (first
          | (refine ABr.t (sm _) ?_; cbv)
          | (refine ACall.mk _ (cf hS (four _)) ?_; cbv)
          | (refine ACall.mk _ (cf hS o0) ?_; cbv)
          | (refine ACall.mk _ (cf hS p1) ?_; cbv)
          | (refine ACall.mk _ (cf hS o1) ?_; cbv)
          | (refine ACall.mk _ (cf hS r1) ?_; cbv)
          | (refine ACall.mk _ (cf hS p2) ?_; cbv)
          | (refine ACall.mk _ (cf hS o2) ?_; cbv)
          | (refine ACall.mk _ (cf hS r2) ?_; cbv)
          | (refine ACall.mk _ (cf hS p3) ?_; cbv)
          | (refine ACall.mk _ (cf hS o3) ?_; cbv)
          | (refine ACall.mk _ (cg hS r3 hz3) ?_; cbv)
          | (refine ACall.mk _ (cf hS p4) ?_; cbv)
          | (refine ACall.mk _ (cf hS o4) ?_; cbv)
          | (refine ACall.mk _ (cf hS r4) ?_; cbv)
          | (refine .mk hend ?_; cbv)
          | (refine .mk hroom ?_; cbv)
          | (refine ACall.mk _ (cf hS p5) ?_; cbv)
          | (refine ACall.mk _ (cf hS o5) ?_; cbv)
          | (refine ACall.mk _ (cf hS r5) ?_; cbv)
          | (refine ACall.mk _ (cf hS p6) ?_; cbv)
          | (refine ACall.mk _ (cf hS o6) ?_; cbv)
          | (refine ACall.mk _ (cf hS r6) ?_; cbv)
          | (refine ACall.mk _ (cf hS o7) ?_; cbv)
          | (refine ACall.mk _ (cf hS o8) ?_; cbv))
        exact sm _
    · clear hx hy hr pr rr hroot
      refine mk Try.func7 rfl rfl L0 RReck (by decide +kernel) ?_
      intro A S hA hS
      unfold bodyOf Try.f7
      cbv
      refine ACall.mk _ (cf hS (awakeS hH)) ?_
      cbv
      have sm : ∀ v, _ := fun v => same4 hA (lim := H.lim) (a := v) (b := v) rfl
      have nsm : ∀ v, _ := fun v => nsame4' hA (lim := H.lim) v
      have nt := (a_not hA true).trans (rfl : (!true) = false)
      have hlen : A.cmp .gtr (A.len k) 8 = true := by rw [a_len hA]; exact (i_gt hA).trans (decide_eq_true (by omega))
      repeat (first
        | (refine ACall.mk _ (cf hS c1) ?_; cbv)
        | (refine ACall.mk _ (cf hS c2) ?_; cbv)
        | (refine ACall.mk _ (cf hS may) ?_; cbv)
        | (refine ABr.f nt ?_; cbv)
        | (refine ABr.f (nsm _) ?_; cbv)
        | (refine ABr.t hlen ?_; cbv))
      exact sm _
  · have hbad := bad_mod hm hR
    have c1 := MakeN4 hH hm hbad
    have may := mayF4 hH hm hbad
    refine mk Try.func7 rfl rfl L0 RReck (by decide +kernel) ?_
    intro A S hA hS
    unfold bodyOf Try.f7
    cbv
    refine ACall.mk _ (cf hS (awakeS hH)) ?_
    cbv
    have nt := (a_not hA true).trans (rfl : (!true) = false)
    have nf := (a_not hA false).trans (rfl : (!false) = true)
    refine ABr.f nt ?_
    cbv
    refine ACall.mk _ (cf hS c1) ?_
    cbv
    refine ACall.mk _ (cf hS may) ?_
    cbv
    refine ABr.t nf ?_
    cbv
theorem reckonsS6 {H : H5} (hH : H = H5.real) (m a b : Nat) (hm : m < 2 ^ 384) (ha : a < 2 ^ 384) (hb : b < 2 ^ 384) {row : List AVal} {e k : Nat} (hrow : IsRow row (limR e) k) (he : e < 2 ^ (64 * k)) :
    Sp 8 [u6 H.lim m, u6 H.lim a, u6 H.lim b, .lst true k row] (.sb true) := by
  have hl := H5.hlim hH
  by_cases hR : Mod 384 m
  · have hlt := hR.lt
    have h1 := hR.one
    have hp := hR.pos
    obtain ⟨x, hx⟩ : ∃ x, x = H.mod m a := ⟨_, rfl⟩
    obtain ⟨y, hy⟩ : ∃ x, x = H.mod m b := ⟨_, rfl⟩
    have xm : x < m := by rw [hx, hH]; exact Nat.mod_lt _ hp
    have ym : y < m := by rw [hy, hH]; exact Nat.mod_lt _ hp
    have c1 := MakeS6 hH hR
    have c2 := ModulusS6 (H := H) m
    have c3 := rNew6 hH hR
    have c4 := rMod6 hl (k := 6) (rowx6 H.lim a) (by decide) ha hp hlt (r := x) (by rw [hx, hH]; rfl)
    have c5 := rMod6 hl (k := 6) (rowx6 H.lim b) (by decide) hb hp hlt (r := y) (by rw [hy, hH]; rfl)
    have c6 := InS6 hH hR ha
    have c7 := InS6 hH hR hb
    rw [← hx] at c6
    rw [← hy] at c7
    have hmulm : ∀ p q, H.mul m p q < m := fun p q => by rw [hH]; exact Nat.mod_lt _ hp
    have haddm : ∀ p q, H.add m p q < m := fun p q => by rw [hH]; exact Nat.mod_lt _ hp
    have hsubm : ∀ p q, H.sub m p q < m := fun p q => by rw [hH]; exact Nat.mod_lt _ hp
    have hpowm : ∀ p q, H.pow m p q < m := fun p q => by rw [hH]; exact Nat.mod_lt _ hp
    have o0 := OutS6 hH hR xm
    have p1 := AddS6 hH hR (a := x) (b := y)
    have o1 := OutS6 hH hR (haddm x y)
    have r1 := rAddMod6 hl x y m (H.add m x y) hlt xm ym (by rw [hH]; rfl)
    have p2 := SubS6 hH hR ym (a := x)
    have o2 := OutS6 hH hR (hsubm x y)
    have r2 := rSubMod6 hl x y m (H.sub m x y) hlt xm ym (by rw [hH]; rfl)
    have p3 := NegS6 hH hR xm
    have o3 := OutS6 hH hR (hsubm 0 x)
    have r3 := rSubMod6 hl 0 x m (H.sub m 0 x) hlt hp xm (by rw [hH]; rfl)
    have p4 := MulS6 hH hR (a := x) (b := y)
    have o4 := OutS6 hH hR (hmulm x y)
    have r4 := rMulMod6 hH hR xm ym
    have p6 := InvS6 hH hR xm
    have o6 := OutS6 hH hR (hpowm x (m - 2))
    have r6 := rInv6 hH hR xm
    have four := fun v => sixS (H := H) v
    have hz : u6 H.lim 0 = el6 H m 0 := by rw [hH]; unfold el6 H5.real; simp
    have o7 := OutS6 hH hR (a := 0) hp
    rw [← hz] at o7
    have l0 : ∀ i, H.lim 0 i = 0 := fun i => by rw [hH]; show ((0 / 2 ^ (64 * i) % 2 ^ 64 : Nat) : Int) = 0; rw [Nat.zero_div]; rfl
    obtain ⟨r, hr⟩ : ∃ r, r = H.pow m x ((m + 1) / 4) := ⟨_, rfl⟩
    have hrm : r < m := by rw [hr]; exact hpowm _ _
    have o8 := OutS6 hH hR hrm
    have pr := RootS6 hH hR xm r hr
    have rr := rRoot6 hH hR xm r hr
    have may := mayT6 hH hR
    have lists := fun v => list6S (H := H) v
    have hroot : (Sp 34 [.ref (R6 H m) 0, el6 H m x] (.tup [el6 H m r, .b true]) ∧ Sp 48 [rf6 H m, .lst false 6 (ws6 H.lim x)] (.tup [.lst false 6 (ws6 H.lim r), .b true])) ∨
        (Sp 34 [.ref (R6 H m) 0, el6 H m x] (.tup [u6 H.lim 0, .b false]) ∧ Sp 48 [rf6 H m, .lst false 6 (ws6 H.lim x)] (.tup [.lst false 6 (ws6 H.lim 0), .b false])) := by
      by_cases h : H.mul m r r = x
      · exact .inl ⟨pr.1 h, rr.1 h⟩
      · exact .inr ⟨pr.2 h, rr.2 h⟩
    by_cases hk : k ≤ 8
    · have p5 := ExpS6 hH hR xm hrow (by omega) he
      have o5 := OutS6 hH hR (hpowm x e)
      have r5 := rExp6 hH hR xm (hl ▸ hrow) (by omega) he
      have hrowl := hrow.1
      clear hx hy hr pr rr
      refine mk Try.func8 rfl rfl L0 RReck (by decide +kernel) ?_
      intro A S hA hS
      unfold bodyOf Try.f8
      cbv
      refine ACall.mk _ (cf hS (awakeS hH)) ?_
      cbv
      have sm : ∀ v, _ := fun v => same6 hA (lim := H.lim) (a := v) (b := v) rfl
      have nsm : ∀ v, _ := fun v => nsame6' hA (lim := H.lim) v
      have nt := (a_not hA true).trans (rfl : (!true) = false)
      have hlen : A.cmp .gtr (A.len k) 8 = false := by rw [a_len hA]; exact (i_gt hA).trans (decide_eq_false (by omega))
      have hroom : A.room k 8 = true := by rw [hA]; exact decide_eq_true (by omega)
      have hend : A.rowend row k 1 = true := by rw [hA]; show (row.length == k * 1) = true; rw [hrowl]; simp
      refine ABr.f nt ?_
      cbv
      repeat (first
        | (refine ACall.mk _ (cf hS c1) ?_; cbv)
        | (refine ACall.mk _ (cf hS c2) ?_; cbv)
        | (refine ACall.mk _ (cf hS may) ?_; cbv)
        | (refine ACall.mk _ (cf hS (lists _)) ?_; cbv)
        | (refine ACall.mk _ (cf hS c3) ?_; cbv)
        | (refine ACall.mk _ (cg hS c4 ?_) ?_; (focus (cbv; done)); cbv)
        | (refine ACall.mk _ (cg hS c5 ?_) ?_; (focus (cbv; done)); cbv)
        | (refine ACall.mk _ (cf hS c6) ?_; cbv)
        | (refine ACall.mk _ (cf hS c7) ?_; cbv)
        | (refine ABr.f nt ?_; cbv)
        | (refine ABr.f (nsm _) ?_; cbv)
        | (refine ABr.f hlen ?_; cbv))
      have hz3 : SimL [.lst false 6 [.i .u64 0, .i .u64 0, .i .u64 0, .i .u64 0, .i .u64 0, .i .u64 0], .lst false 6 (ws6 H.lim x), .lst false 6 (ws6 H.lim m)] [.lst false 6 (ws6 H.lim 0), .lst false 6 (ws6 H.lim x), .lst false 6 (ws6 H.lim m)] := by
        cbv
        exact ⟨⟨(l0 0).symm, (l0 1).symm, (l0 2).symm, (l0 3).symm, (l0 4).symm, (l0 5).symm⟩, trivial⟩
      rcases hroot with ⟨q1, q2⟩ | ⟨q1, q2⟩
      · refine ACall.mk _ (cf hS q1) ?_
        cbv
        refine ACall.mk _ (cf hS q2) ?_
        cbv
        repeat (first
          | (refine ABr.t (sm _) ?_; cbv)
          | (refine ACall.mk _ (cf hS (four _)) ?_; cbv)
          | (refine ACall.mk _ (cf hS o0) ?_; cbv)
          | (refine ACall.mk _ (cf hS p1) ?_; cbv)
          | (refine ACall.mk _ (cf hS o1) ?_; cbv)
          | (refine ACall.mk _ (cf hS r1) ?_; cbv)
          | (refine ACall.mk _ (cf hS p2) ?_; cbv)
          | (refine ACall.mk _ (cf hS o2) ?_; cbv)
          | (refine ACall.mk _ (cf hS r2) ?_; cbv)
          | (refine ACall.mk _ (cf hS p3) ?_; cbv)
          | (refine ACall.mk _ (cf hS o3) ?_; cbv)
          | (refine ACall.mk _ (cg hS r3 hz3) ?_; cbv)
          | (refine ACall.mk _ (cf hS p4) ?_; cbv)
          | (refine ACall.mk _ (cf hS o4) ?_; cbv)
          | (refine ACall.mk _ (cf hS r4) ?_; cbv)
          | (refine .mk hend ?_; cbv)
          | (refine .mk hroom ?_; cbv)
          | (refine ACall.mk _ (cf hS p5) ?_; cbv)
          | (refine ACall.mk _ (cf hS o5) ?_; cbv)
          | (refine ACall.mk _ (cf hS r5) ?_; cbv)
          | (refine ACall.mk _ (cf hS p6) ?_; cbv)
          | (refine ACall.mk _ (cf hS o6) ?_; cbv)
          | (refine ACall.mk _ (cf hS r6) ?_; cbv)
          | (refine ACall.mk _ (cf hS o7) ?_; cbv)
          | (refine ACall.mk _ (cf hS o8) ?_; cbv))
        exact sm _
      · refine ACall.mk _ (cf hS q1) ?_
        cbv
        refine ACall.mk _ (cf hS q2) ?_
        cbv
        repeat (first
          | (refine ABr.t (sm _) ?_; cbv)
          | (refine ACall.mk _ (cf hS (four _)) ?_; cbv)
          | (refine ACall.mk _ (cf hS o0) ?_; cbv)
          | (refine ACall.mk _ (cf hS p1) ?_; cbv)
          | (refine ACall.mk _ (cf hS o1) ?_; cbv)
          | (refine ACall.mk _ (cf hS r1) ?_; cbv)
          | (refine ACall.mk _ (cf hS p2) ?_; cbv)
          | (refine ACall.mk _ (cf hS o2) ?_; cbv)
          | (refine ACall.mk _ (cf hS r2) ?_; cbv)
          | (refine ACall.mk _ (cf hS p3) ?_; cbv)
          | (refine ACall.mk _ (cf hS o3) ?_; cbv)
          | (refine ACall.mk _ (cg hS r3 hz3) ?_; cbv)
          | (refine ACall.mk _ (cf hS p4) ?_; cbv)
          | (refine ACall.mk _ (cf hS o4) ?_; cbv)
          | (refine ACall.mk _ (cf hS r4) ?_; cbv)
          | (refine .mk hend ?_; cbv)
          | (refine .mk hroom ?_; cbv)
          | (refine ACall.mk _ (cf hS p5) ?_; cbv)
          | (refine ACall.mk _ (cf hS o5) ?_; cbv)
          | (refine ACall.mk _ (cf hS r5) ?_; cbv)
          | (refine ACall.mk _ (cf hS p6) ?_; cbv)
          | (refine ACall.mk _ (cf hS o6) ?_; cbv)
          | (refine ACall.mk _ (cf hS r6) ?_; cbv)
          | (refine ACall.mk _ (cf hS o7) ?_; cbv)
          | (refine ACall.mk _ (cf hS o8) ?_; cbv))
        exact sm _
    · clear hx hy hr pr rr hroot
      refine mk Try.func8 rfl rfl L0 RReck (by decide +kernel) ?_
      intro A S hA hS
      unfold bodyOf Try.f8
      cbv
      refine ACall.mk _ (cf hS (awakeS hH)) ?_
      cbv
      have sm : ∀ v, _ := fun v => same6 hA (lim := H.lim) (a := v) (b := v) rfl
      have nsm : ∀ v, _ := fun v => nsame6' hA (lim := H.lim) v
      have nt := (a_not hA true).trans (rfl : (!true) = false)
      have hlen : A.cmp .gtr (A.len k) 8 = true := by rw [a_len hA]; exact (i_gt hA).trans (decide_eq_true (by omega))
      repeat (first
        | (refine ACall.mk _ (cf hS c1) ?_; cbv)
        | (refine ACall.mk _ (cf hS c2) ?_; cbv)
        | (refine ACall.mk _ (cf hS may) ?_; cbv)
        | (refine ABr.f nt ?_; cbv)
        | (refine ABr.f (nsm _) ?_; cbv)
        | (refine ABr.t hlen ?_; cbv))
      exact sm _
  · have hbad := bad_mod hm hR
    have c1 := MakeN6 hH hm hbad
    have may := mayF6 hH hm hbad
    refine mk Try.func8 rfl rfl L0 RReck (by decide +kernel) ?_
    intro A S hA hS
    unfold bodyOf Try.f8
    cbv
    refine ACall.mk _ (cf hS (awakeS hH)) ?_
    cbv
    have nt := (a_not hA true).trans (rfl : (!true) = false)
    have nf := (a_not hA false).trans (rfl : (!false) = true)
    refine ABr.f nt ?_
    cbv
    refine ACall.mk _ (cf hS c1) ?_
    cbv
    refine ACall.mk _ (cf hS may) ?_
    cbv
    refine ABr.t nf ?_
    cbv
end Go.Proofs.Ytlmlganfjnokiaa
