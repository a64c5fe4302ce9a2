import Derived.Test.YtlmlganfjnokiaaV
set_option linter.unusedVariables false
set_option linter.unusedSimpArgs false
namespace Go.Proofs.Ytlmlganfjnokiaa
open Go Eng
set_option maxRecDepth 100000
set_option exponentiation.threshold 2000
def RRing : Nat → Md := fun r => match r with | 6 => .res [] | _ => .mid
theorem eqs_same {A : Ar} (hA : A = Ar.real) {l : List (AVal × AVal)} (h : l.all leafEq = true) : A.eqs l = true := by rw [eqs_real hA]; exact h
theorem leaf_same (k : IntKind) (a : Int) : leafEq (.s k a, .s k a) = true := by rw [leafEq_s]; simp
theorem m_add_comm (m x y : Nat) : (x + y) % m = (y + x) % m := by rw [Nat.add_comm]
theorem same4 {A : Ar} (hA : A = Ar.real) {lim : Lim} {a b : Nat} (h : a = b) : A.eqs [(.s .u64 (lim a 0), .s .u64 (lim b 0)), (.s .u64 (lim a 1), .s .u64 (lim b 1)), (.s .u64 (lim a 2), .s .u64 (lim b 2)), (.s .u64 (lim a 3), .s .u64 (lim b 3))] = true := by
  subst h
  exact eqs_same hA (by simp only [List.all_cons, List.all_nil, leaf_same]; rfl)
theorem same6 {A : Ar} (hA : A = Ar.real) {lim : Lim} {a b : Nat} (h : a = b) : A.eqs [(.s .u64 (lim a 0), .s .u64 (lim b 0)), (.s .u64 (lim a 1), .s .u64 (lim b 1)), (.s .u64 (lim a 2), .s .u64 (lim b 2)), (.s .u64 (lim a 3), .s .u64 (lim b 3)), (.s .u64 (lim a 4), .s .u64 (lim b 4)), (.s .u64 (lim a 5), .s .u64 (lim b 5))] = true := by
  subst h
  exact eqs_same hA (by simp only [List.all_cons, List.all_nil, leaf_same]; rfl)
theorem ringS {H : H5} (hH : H = H5.real) (m a b c : Nat) (hm : m < 2 ^ 256) (ha : a < 2 ^ 256) (hb : b < 2 ^ 256) (hc : c < 2 ^ 256) :
    Sp 6 [u4 H.lim m, u4 H.lim a, u4 H.lim b, u4 H.lim c] (.sb true) := by
  have hl := H5.hlim hH
  by_cases hR : Mod 256 m
  · have hlt := hR.lt
    have h1 := hR.one
    have hp := hR.pos
    obtain ⟨x, hx⟩ : ∃ x, x = H.mod m a := ⟨_, rfl⟩
    obtain ⟨y, hy⟩ : ∃ x, x = H.mod m b := ⟨_, rfl⟩
    obtain ⟨z, hz⟩ : ∃ x, x = H.mod m c := ⟨_, rfl⟩
    have xm : x < m := by rw [hx, hH]; exact Nat.mod_lt _ hp
    have ym : y < m := by rw [hy, hH]; exact Nat.mod_lt _ hp
    have zm : z < m := by rw [hz, hH]; exact Nat.mod_lt _ hp
    have k1 := MakeS4 hH hR
    have ix := InS4 hH hR ha
    have iy := InS4 hH hR hb
    have iz := InS4 hH hR hc
    have i0 := InS4 hH hR (a := 0) (by omega)
    have i1 := InS4 hH hR (a := 1) (by omega)
    have iw := InS4 hH hR (a := x) (by omega)
    rw [← hx] at ix
    rw [← hy] at iy
    rw [← hz] at iz
    have l0 : u4 H.lim 0 = .agg [.s .u64 0, .s .u64 0, .s .u64 0, .s .u64 0] := by rw [hH]; rfl
    have l1 : u4 H.lim 1 = .agg [.s .u64 1, .s .u64 0, .s .u64 0, .s .u64 0] := by rw [hH]; rfl
    rw [l0] at i0
    rw [l1] at i1
    have ad := fun p q => AddS4 hH hR (a := p) (b := q)
    have mu := fun p q => MulS4 hH hR (a := p) (b := q)
    have addlt : ∀ p q, H.add m p q < m := by intro p q; rw [hH]; exact Nat.mod_lt _ hp
    have sb := SubS4 hH hR ym (a := H.add m x y)
    have ng := NegS4 hH hR xm
    have ou := OutS4 hH hR xm
    have ls := LessS4 hH x m (by omega) hlt
    have lt1 : H.lt x m = true := by rw [hH]; exact decide_eq_true xm
    have q1 : H.add m x y = H.add m y x := by rw [hH]; exact m_add_comm m x y
    have q2 : H.add m (H.add m x y) z = H.add m x (H.add m y z) := by rw [hH]; show ((x + y) % m + z) % m = (x + (y + z) % m) % m; rw [Nat.mod_add_mod, Nat.add_mod_mod, Nat.add_assoc]
    have q3 : H.mul m x y = H.mul m y x := by rw [hH]; show x * y % m = y * x % m; rw [Nat.mul_comm]
    have q4 : H.mul m (H.mul m x y) z = H.mul m x (H.mul m y z) := by rw [hH]; show x * y % m * z % m = x * (y * z % m) % m; rw [Nat.mod_mul_mod, Nat.mul_mod_mod, Nat.mul_assoc]
    have q5 : H.mul m x (H.add m y z) = H.add m (H.mul m x y) (H.mul m x z) := by rw [hH]; show x * ((y + z) % m) % m = (x * y % m + x * z % m) % m; rw [Nat.mul_mod_mod, ← Nat.add_mod, Nat.mul_add]
    have q6 : H.sub m (H.add m x y) y = x := by
      rw [hH]; show ((x + y) % m + m - y) % m = x
      rcases Nat.lt_or_ge (x + y) m with h | h
      · rw [Nat.mod_eq_of_lt h, show x + y + m - y = x + m by omega, Nat.add_mod_right, Nat.mod_eq_of_lt xm]
      · rw [Nat.mod_eq_sub_mod h, Nat.mod_eq_of_lt (show x + y - m < m by omega), show x + y - m + m - y = x by omega, Nat.mod_eq_of_lt xm]
    have q7 : H.add m x (H.sub m 0 x) = H.mod m 0 := by
      rw [hH]; show (x + (0 + m - x) % m) % m = 0 % m
      rw [Nat.add_mod_mod, show x + (0 + m - x) = m by omega, Nat.mod_self, Nat.zero_mod]
    have q8 : H.mul m x (H.mod m 1) = x := by rw [hH]; show x * (1 % m) % m = x; rw [Nat.mul_mod_mod, Nat.mul_one, Nat.mod_eq_of_lt xm]
    have q9 : H.mod m x = x := by rw [hH]; exact Nat.mod_eq_of_lt xm
    rw [q9] at iw
    clear hx hy hz
    refine mk Try.func6 rfl rfl L0 RRing (by decide +kernel) fun A S hA hS => ?_
    unfold bodyOf Try.f6
    cbv
    refine ACall.mk _ (cf hS (awakeS hH)) ?_
    cbv
    refine ABr.f ((a_not hA true).trans rfl) ?_
    cbv
    refine ACall.mk _ (cf hS k1) ?_
    cbv
    repeat (first
      | (refine ACall.mk _ (cf hS ix) ?_; cbv)
      | (refine ACall.mk _ (cf hS iy) ?_; cbv)
      | (refine ACall.mk _ (cf hS iz) ?_; cbv))
    repeat (first
      | (refine ABr.t (same4 hA (congrArg (H.mf 256 m) (by assumption))) ?_; cbv)
      | (refine ACall.mk _ (cf hS (ad _ _)) ?_; cbv)
      | (refine ACall.mk _ (cf hS (mu _ _)) ?_; cbv)
      | (refine ACall.mk _ (cf hS sb) ?_; cbv)
      | (refine ACall.mk _ (cf hS ng) ?_; cbv)
      | (refine ACall.mk _ (cf hS ou) ?_; cbv)
      | (refine ACall.mk _ (cf hS ls) ?_; cbv)
      | (refine ACall.mk _ (cf hS iw) ?_; cbv)
      | (refine ACall.mk _ (cg hS i0 ?_) ?_; (focus (cbv; done)); cbv)
      | (refine ACall.mk _ (cg hS i1 ?_) ?_; (focus (cbv; done)); cbv)
      | (refine ABr.t (same4 hA rfl) ?_; cbv)
      | (refine ABr.t lt1 ?_; cbv))
    exact lt1
  · have hbad : m % 2 = 0 ∨ m < 3 := by
      by_cases h2 : m % 2 = 0
      · exact .inl h2
      · refine .inr ?_
        rcases Nat.lt_or_ge 1 m with h | h
        · exact absurd ⟨hm, by omega, h⟩ hR
        · omega
    refine mk Try.func6 rfl rfl L0 RRing (by decide +kernel) fun A S hA hS => ?_
    unfold bodyOf Try.f6
    cbv
    refine ACall.mk _ (cf hS (awakeS hH)) ?_
    cbv
    refine ABr.f ((a_not hA true).trans rfl) ?_
    cbv
    refine ACall.mk _ (cf hS (MakeN4 hH hm hbad)) ?_
    cbv
    refine ACall.mk _ (cf hS (mayF4 hH hm hbad)) ?_
    cbv
    exact (a_not hA false).trans rfl
end Go.Proofs.Ytlmlganfjnokiaa
