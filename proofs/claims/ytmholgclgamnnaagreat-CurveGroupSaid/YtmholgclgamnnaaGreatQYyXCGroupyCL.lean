import Derived.Test.YtmholgclgamnnaaGreatQYCB
import Derived.Test.YtmholgclgamnnaaGreatQYCA
import Derived.Test.YtmholgclgamnnaaGreatQYCJ
import Derived.Test.YtmholgclgamnnaaGreatQYCS
import Derived.Test.YtmholgclgamnnaaGreatQYyXCGroupyCE
section
set_option linter.unusedVariables false
set_option linter.unusedSimpArgs false
namespace Cv
open NT
theorem no_root {p : Nat} (hp : Pr p) (h3 : p % 4 = 3) (t : Nat) : (t * t + 1) % p ≠ 0 := by
  intro h
  obtain ⟨k, rfl⟩ : ∃ k, p = 4 * k + 3 := ⟨p / 4, by omega⟩
  have hd : ¬ (4 * k + 3) ∣ t := by
    rintro ⟨y, rfl⟩
    rw [Nat.mul_assoc, Nat.mul_add_mod] at h
    have := Nat.mod_eq_of_lt (show 1 < 4 * k + 3 by omega)
    omega
  have hf := fermat hp hd
  have e1 : t * t % (4 * k + 3) = 4 * k + 2 := by
    have h1 := Nat.mod_lt (t * t) (show 0 < 4 * k + 3 by omega)
    rw [Nat.add_mod, Nat.mod_eq_of_lt (show 1 < 4 * k + 3 by omega)] at h
    rcases Nat.lt_or_ge (t * t % (4 * k + 3) + 1) (4 * k + 3) with h2 | h2
    · rw [Nat.mod_eq_of_lt h2] at h; omega
    · omega
  have e2 : (4 * k + 2) * (4 * k + 2) % (4 * k + 3) = 1 := by
    have : (4 * k + 2) * (4 * k + 2) = 1 + (4 * k + 3) * (4 * k + 1) := by
      simp only [Nat.add_mul, Nat.mul_add]; omega
    rw [this, Nat.add_mul_mod_self_left, Nat.mod_eq_of_lt (by omega)]
  have e3 : ∀ n : Nat, (4 * k + 2) ^ (2 * n + 1) % (4 * k + 3) = 4 * k + 2 := by
    intro n
    rw [Nat.pow_succ, Nat.pow_mul, show (4 * k + 2) ^ 2 = (4 * k + 2) * (4 * k + 2) from Nat.pow_two _, Nat.mul_mod, Nat.pow_mod, e2, Nat.one_pow, Nat.mod_eq_of_lt (show 1 < 4 * k + 3 by omega), Nat.one_mul, Nat.mod_mod, Nat.mod_eq_of_lt (by omega)]
  have e4 : t ^ (4 * k + 3 - 1) % (4 * k + 3) = 4 * k + 2 := by
    rw [show 4 * k + 3 - 1 = 2 * (2 * k + 1) by omega, Nat.pow_mul, Nat.pow_two, Nat.pow_mod, e1]
    exact e3 k
  omega
variable {p : Nat} [NeZero p]
theorem norm_ne (hp : Pr p) (h2 : 2 < p) (h3 : p % 4 = 3) (a b : Fin p) (h : ¬ (a = 0 ∧ b = 0)) : a * a + b * b ≠ 0 := by
  intro hn
  by_cases hb : b = 0
  · subst hb
    have ha : a ≠ 0 := fun e => h ⟨e, rfl⟩
    have hi := inv1_ok hp h2 a ha
    generalize inv1 a = i at *
    have h1 : (1 : Fin p) = 0 := by grind
    have := congrArg Fin.val h1
    rw [val_one, val_zero, Nat.mod_eq_of_lt (by omega)] at this
    omega
  · have hi := inv1_ok hp h2 b hb
    generalize inv1 b = i at *
    have ht : (a * i) * (a * i) + 1 = 0 := by grind
    generalize a * i = t at *
    have := congrArg Fin.val ht
    rw [Fin.val_add, Fin.val_mul, val_one, Nat.mod_eq_of_lt (show 1 < p by omega), Nat.mod_add_mod, val_zero] at this
    exact no_root hp h3 t.val (by simpa using this)
theorem inv2_ok (hp : Pr p) (h2 : 2 < p) (h3 : p % 4 = 3) (x : F2 p) (h : x ≠ ⟨0, 0⟩) : (ops2 inv2).mul x (inv2 x) = ⟨1, 0⟩ := by
  obtain ⟨a, b⟩ := x
  have hn := norm_ne hp h2 h3 a b (fun ⟨e1, e2⟩ => h (by rw [e1, e2]))
  have hi := inv1_ok hp h2 _ hn
  simp only [ops2, inv2, F2.mk.injEq]
  generalize inv1 (a * a + b * b) = i at *
  constructor <;> grind
end Cv
end
section
set_option linter.unusedVariables false
set_option linter.unusedSectionVars false
set_option linter.unusedSimpArgs false
namespace Go.Proofs.YtmholgclgamnnaaGreat
open Go Eng
set_option maxRecDepth 100000
set_option exponentiation.threshold 2000
set_option maxHeartbeats 4000000
section
variable {p : Nat} [NeZero p]
def ptOf2 (p : Nat) [NeZero p] (P : PtB) : Cv.Pt (Cv.F2 p) := if P.inf then none else some (⟨fo p P.xa, fo p P.xb⟩, ⟨fo p P.ya, fo p P.yb⟩)
def ofPt2 : Cv.Pt (Cv.F2 p) → PtB
  | none => ⟨0, 0, 0, 0, true⟩
  | some (x, y) => ⟨x.a.val, x.b.val, y.a.val, y.b.val, false⟩
theorem base2S4 {H : H5} (c : Cu p) : Sp 47 [.ref (Cc4 H c) 0] (P2_4 H ⟨c.xa, c.xb, c.ya, c.yb, false⟩) := by
  have h := CisS4 (H := H) c
  refine mk Tryz.func47 rfl rfl L0 R1 (by decide +kernel) fun A S hA hS => ?_
  unfold bodyOf Tryz.f47
  cbv
  refine ACall.mk _ (cf hS h) ?_
  cbv
theorem base1S6 {H : H5} (c : Cu p) : Sp 49 [.ref (Cc6 H c) 0] (P1_6 H ⟨c.x1, c.y1, false⟩) := by
  have h := CisS6 (H := H) c
  refine mk Tryz.func49 rfl rfl L0 R1 (by decide +kernel) fun A S hA hS => ?_
  unfold bodyOf Tryz.f49
  cbv
  refine ACall.mk _ (cf hS h) ?_
  cbv
theorem down1S6 {H : H5} (hH : H = H5.real) (hp : PrM 384 p) (c : Cu p) (q : Cv.Jac (Fin p)) : Sp 95 [.ref (Cc6 H c) 0, Jb6 (K1_6 H p) q] (P1_6 H (ofPt (Cv.down (K1_6 H p).O q))) := by
  have hK := ok1_6 hH hp
  have fl := flatb6 hK c.b1 q
  have l0 := lim06 hH
  obtain ⟨qx, qy, qz⟩ := q
  dsimp only at fl
  unfold Cv.down
  dsimp only
  by_cases h : qz = (K1_6 H p).O.zero
  · rw [if_pos h]
    have hz := fun A hA => (hK.eqz (A := A) hA qz).trans (decide_eq_true h)
    refine mk Tryz.func95 rfl rfl L0 RDn (by decide +kernel) fun A S hA hS => ?_
    have hz := hz A hA
    unfold bodyOf Tryz.f95
    cbv
    refine ABr.t hz ?_
    cbv
    exact ⟨(l0 0).symm, (l0 1).symm, (l0 2).symm, (l0 3).symm, (l0 4).symm, (l0 5).symm, (l0 0).symm, (l0 1).symm, (l0 2).symm, (l0 3).symm, (l0 4).symm, (l0 5).symm, trivial⟩
  · rw [if_neg h]
    have hz := fun A hA => (hK.eqz (A := A) hA qz).trans (decide_eq_false h)
    generalize (K1_6 H p).O.mul qx ((K1_6 H p).O.mul ((K1_6 H p).O.inv qz) ((K1_6 H p).O.inv qz)) = u at *
    generalize (K1_6 H p).O.mul ((K1_6 H p).O.mul qy ((K1_6 H p).O.mul ((K1_6 H p).O.inv qz) ((K1_6 H p).O.inv qz))) ((K1_6 H p).O.inv qz) = v at *
    have o1 := outF6 hH hp u
    have o2 := outF6 hH hp v
    clear hK
    refine mk Tryz.func95 rfl rfl L0 RDn (by decide +kernel) fun A S hA hS => ?_
    have hz := hz A hA
    unfold bodyOf Tryz.f95
    cbv
    refine ABr.f hz ?_
    cbv
    refine ACall.mk _ (cf hS fl) ?_
    cbv
    refine ACall.mk _ (cf hS o1) ?_
    cbv
    refine ACall.mk _ (cf hS o2) ?_
    cbv
end
end Go.Proofs.YtmholgclgamnnaaGreat
end
section
set_option linter.unusedVariables false
set_option linter.unusedSectionVars false
set_option linter.unusedSimpArgs false
namespace Go.Proofs.YtmholgclgamnnaaGreat
open Go Eng
set_option maxRecDepth 100000
set_option exponentiation.threshold 2000
set_option maxHeartbeats 4000000
section
variable {p : Nat} [NeZero p]
theorem in2S4 {H : H5} (hH : H = H5.real) (hp : PrM 256 p) (c : Cu p) {a b : Nat} (ha : a < 2 ^ 256) (hb : b < 2 ^ 256) : Sp 134 [.ref (Cc4 H c) 0, .agg [.s .u64 (H.lim a 0), .s .u64 (H.lim a 1), .s .u64 (H.lim a 2), .s .u64 (H.lim a 3), .s .u64 (H.lim b 0), .s .u64 (H.lim b 1), .s .u64 (H.lim b 2), .s .u64 (H.lim b 3)]] (el2_4 H p (fo p a).val (fo p b).val) := by
  have h1 := inF4 hH hp ha
  have h2 := inF4 hH hp hb
  generalize fo p a = u at *
  generalize fo p b = v at *
  refine mk Tryz.func134 rfl rfl L0 R1 (by decide +kernel) fun A S hA hS => ?_
  unfold bodyOf Tryz.f134
  cbv
  refine ACall.mk _ (cf hS h1) ?_
  cbv
  refine ACall.mk _ (cf hS h2) ?_
  cbv
theorem out2S4 {H : H5} (hH : H = H5.real) (hp : PrM 256 p) (c : Cu p) (a b : Fin p) : Sp 190 [.ref (Cc4 H c) 0, el2_4 H p a.val b.val] (.agg [.s .u64 (H.lim a.val 0), .s .u64 (H.lim a.val 1), .s .u64 (H.lim a.val 2), .s .u64 (H.lim a.val 3), .s .u64 (H.lim b.val 0), .s .u64 (H.lim b.val 1), .s .u64 (H.lim b.val 2), .s .u64 (H.lim b.val 3)]) := by
  have h1 := outF4 hH hp a
  have h2 := outF4 hH hp b
  refine mk Tryz.func190 rfl rfl L0 R1 (by decide +kernel) fun A S hA hS => ?_
  unfold bodyOf Tryz.f190
  cbv
  refine ACall.mk _ (cf hS h1) ?_
  cbv
  refine ACall.mk _ (cf hS h2) ?_
  cbv
theorem up2S4 {H : H5} (hH : H = H5.real) (hp : PrM 256 p) {c : Cu p} (h1c : c.one = fo p 1) (P : PtB) (hxa : P.xa < 2 ^ 256) (hxb : P.xb < 2 ^ 256) (hya : P.ya < 2 ^ 256) (hyb : P.yb < 2 ^ 256) :
    Sp 129 [.ref (Cc4 H c) 0, P2_4 H P] (Jt4 (K2_4 H p) (Cv.up (K2_4 H p).O (ptOf2 p P))) := by
  obtain ⟨xa, xb, ya, yb, inf⟩ := P
  have h1 := in2S4 hH hp c hxa hxb
  have h2 := in2S4 hH hp c hya hyb
  have z := mf_zero4 (p := p) hH
  cases inf
  · have e : Cv.up (K2_4 H p).O (ptOf2 p ⟨xa, xb, ya, yb, false⟩) = ⟨⟨fo p xa, fo p xb⟩, ⟨fo p ya, fo p yb⟩, ⟨c.one, 0⟩⟩ := by rw [h1c]; rfl
    rw [e]
    generalize fo p xa = u at *
    generalize fo p ya = v at *
    generalize fo p xb = u' at *
    generalize fo p yb = v' at *
    generalize (0 : Fin p) = o at *
    refine mk Tryz.func129 rfl rfl L0 R1 (by decide +kernel) fun A S hA hS => ?_
    unfold bodyOf Tryz.f129
    cbv
    refine ABr.f rfl ?_
    cbv
    refine ACall.mk _ (cf hS h1) ?_
    cbv
    refine ACall.mk _ (cf hS h2) ?_
    cbv
    exact ⟨(z 0).symm, (z 1).symm, (z 2).symm, (z 3).symm⟩
  · have e : Cv.up (K2_4 H p).O (ptOf2 p ⟨xa, xb, ya, yb, true⟩) = ⟨⟨0, 0⟩, ⟨0, 0⟩, ⟨0, 0⟩⟩ := rfl
    rw [e]
    generalize (0 : Fin p) = o at *
    refine mk Tryz.func129 rfl rfl L0 R1 (by decide +kernel) fun A S hA hS => ?_
    unfold bodyOf Tryz.f129
    cbv
    refine ABr.t rfl ?_
    cbv
    exact ⟨(z 0).symm, (z 1).symm, (z 2).symm, (z 3).symm, (z 0).symm, (z 1).symm, (z 2).symm, (z 3).symm, (z 0).symm, (z 1).symm, (z 2).symm, (z 3).symm, (z 0).symm, (z 1).symm, (z 2).symm, (z 3).symm, (z 0).symm, (z 1).symm, (z 2).symm, (z 3).symm, (z 0).symm, (z 1).symm, (z 2).symm, (z 3).symm⟩
theorem down2S4 {H : H5} (hH : H = H5.real) (hp : PrM 256 p) (c : Cu p) (q : Cv.Jac (Cv.F2 p)) : Sp 131 [.ref (Cc4 H c) 0, Jt4 (K2_4 H p) q] (P2_4 H (ofPt2 (Cv.down (K2_4 H p).O q))) := by
  have hK := ok2_4 hH hp
  have fl := flatt4 hK c.b2 q
  have l0 := lim04 hH
  obtain ⟨qx, qy, qz⟩ := q
  dsimp only at fl
  unfold Cv.down
  dsimp only
  by_cases h : qz = (K2_4 H p).O.zero
  · rw [if_pos h]
    have hz := fun A hA => (hK.eqz (A := A) hA qz).trans (decide_eq_true h)
    refine mk Tryz.func131 rfl rfl L0 RDn (by decide +kernel) fun A S hA hS => ?_
    have hz := hz A hA
    unfold bodyOf Tryz.f131
    cbv
    refine ABr.t hz ?_
    cbv
    exact ⟨(l0 0).symm, (l0 1).symm, (l0 2).symm, (l0 3).symm, (l0 0).symm, (l0 1).symm, (l0 2).symm, (l0 3).symm, (l0 0).symm, (l0 1).symm, (l0 2).symm, (l0 3).symm, (l0 0).symm, (l0 1).symm, (l0 2).symm, (l0 3).symm, trivial⟩
  · rw [if_neg h]
    have hz := fun A hA => (hK.eqz (A := A) hA qz).trans (decide_eq_false h)
    generalize (K2_4 H p).O.mul qx ((K2_4 H p).O.mul ((K2_4 H p).O.inv qz) ((K2_4 H p).O.inv qz)) = u at *
    generalize (K2_4 H p).O.mul ((K2_4 H p).O.mul qy ((K2_4 H p).O.mul ((K2_4 H p).O.inv qz) ((K2_4 H p).O.inv qz))) ((K2_4 H p).O.inv qz) = v at *
    have o1 := out2S4 hH hp c u.a u.b
    have o2 := out2S4 hH hp c v.a v.b
    clear hK
    refine mk Tryz.func131 rfl rfl L0 RDn (by decide +kernel) fun A S hA hS => ?_
    have hz := hz A hA
    unfold bodyOf Tryz.f131
    cbv
    refine ABr.f hz ?_
    cbv
    refine ACall.mk _ (cf hS fl) ?_
    cbv
    refine ACall.mk _ (cf hS o1) ?_
    cbv
    refine ACall.mk _ (cf hS o2) ?_
    cbv
end
end Go.Proofs.YtmholgclgamnnaaGreat
end
section
set_option linter.unusedVariables false
set_option linter.unusedSectionVars false
set_option linter.unusedSimpArgs false
namespace Go.Proofs.YtmholgclgamnnaaGreat
open Go Eng
set_option maxRecDepth 100000
set_option exponentiation.threshold 2000
set_option maxHeartbeats 4000000
section
variable {p : Nat} [NeZero p]
def good2 (b : Cv.F2 p) (P : PtB) : Nat :=
  if P.inf = true then (if (P.xa = 0 ∧ P.xb = 0) ∧ P.ya = 0 ∧ P.yb = 0 then 0 else 70) else if P.xa < p ∧ P.xb < p ∧ P.ya < p ∧ P.yb < p then
    (if (Cv.ops2 Cv.inv2).mul ⟨fo p P.ya, fo p P.yb⟩ ⟨fo p P.ya, fo p P.yb⟩ = (Cv.ops2 Cv.inv2).add ((Cv.ops2 Cv.inv2).mul ((Cv.ops2 Cv.inv2).mul ⟨fo p P.xa, fo p P.xb⟩ ⟨fo p P.xa, fo p P.xb⟩) ⟨fo p P.xa, fo p P.xb⟩) b then 0 else 71) else 70
theorem nz24 {A : Ar} (hA : A = Ar.real) {H : H5} (hH : H = H5.real) {a b : Nat} (ha : a < 2 ^ 256) (hb : b < 2 ^ 256) : A.eqs [(.s .u64 (H.lim a 0), .i .u64 0), (.s .u64 (H.lim a 1), .i .u64 0), (.s .u64 (H.lim a 2), .i .u64 0), (.s .u64 (H.lim a 3), .i .u64 0), (.s .u64 (H.lim b 0), .i .u64 0), (.s .u64 (H.lim b 1), .i .u64 0), (.s .u64 (H.lim b 2), .i .u64 0), (.s .u64 (H.lim b 3), .i .u64 0)] = decide (a = 0 ∧ b = 0) := by
  have h0 : ∀ x : Int, leafEq (.s .u64 x, .i .u64 0) = (x == 0) := fun x => rfl
  have l0 := lim04 hH
  refine eqs_dec hA ⟨fun h => ?_, fun h => ?_⟩
  · simp only [List.all_cons, List.all_nil, h0, beq_iff_eq, Bool.and_eq_true, and_true] at h
    obtain ⟨h0, h1, h2, h3, h4, h5, h6, h7⟩ := h
    exact ⟨lim_inj4 (H5.hlim hH) ha (by decide) ⟨h0.trans (l0 0).symm, h1.trans (l0 1).symm, h2.trans (l0 2).symm, h3.trans (l0 3).symm⟩, lim_inj4 (H5.hlim hH) hb (by decide) ⟨h4.trans (l0 _).symm, h5.trans (l0 _).symm, h6.trans (l0 _).symm, h7.trans (l0 _).symm⟩⟩
  · obtain ⟨rfl, rfl⟩ := h
    simp only [List.all_cons, List.all_nil, h0, beq_iff_eq, Bool.and_eq_true, and_true]
    exact ⟨l0 0, l0 1, l0 2, l0 3, l0 0, l0 1, l0 2, l0 3⟩
theorem good2S4 {H : H5} (hH : H = H5.real) (hp : PrM 256 p) (c : Cu p) (P : PtB) (hxa : P.xa < 2 ^ 256) (hxb : P.xb < 2 ^ 256) (hya : P.ya < 2 ^ 256) (hyb : P.yb < 2 ^ 256) : Sp 59 [.ref (Cc4 H c) 0, P2_4 H P] (.s .i64 (good2 c.b2 P : Nat)) := by
  obtain ⟨xa, xb, ya, yb, inf⟩ := P
  dsimp only at hxa hxb hya hyb
  have his := CisS4 (H := H) c
  have hmo := ModulusS4 (H := H) p
  have z1 := fun A hA => nz24 (A := A) hA hH hxa hxb
  have z2 := fun A hA => nz24 (A := A) hA hH hya hyb
  have l1 := LessS4 hH xa p hxa hp.lt
  have l2 := LessS4 hH xb p hxb hp.lt
  have l3 := LessS4 hH ya p hya hp.lt
  have l4 := LessS4 hH yb p hyb hp.lt
  have g1 := in2S4 hH hp c hxa hxb
  have g2 := in2S4 hH hp c hya hyb
  have ho := ont4 (ok2_4 hH hp) c.b2 ⟨fo p xa, fo p xb⟩ ⟨fo p ya, fo p yb⟩
  have hlt : ∀ a b, H.lt a b = decide (a < b) := fun a b => by rw [hH]; rfl
  rw [hlt] at l1 l2 l3 l4
  unfold good2
  dsimp only
  cases inf
  · rw [if_neg (by simp)]
    by_cases h1 : xa < p
    · by_cases h2 : xb < p
      · by_cases h3 : ya < p
        · by_cases h4 : yb < p
          · rw [if_pos ⟨h1, h2, h3, h4⟩]
            rw [decide_eq_true h1] at l1
            rw [decide_eq_true h2] at l2
            rw [decide_eq_true h3] at l3
            rw [decide_eq_true h4] at l4
            split
            · rename_i h5
              have h5' : (K2_4 H p).O.mul ⟨fo p ya, fo p yb⟩ ⟨fo p ya, fo p yb⟩ = (K2_4 H p).O.add ((K2_4 H p).O.mul ((K2_4 H p).O.mul ⟨fo p xa, fo p xb⟩ ⟨fo p xa, fo p xb⟩) ⟨fo p xa, fo p xb⟩) c.b2 := h5
              rw [decide_eq_true h5'] at ho
              clear h5 h5'
              generalize fo p xa = u at *
              generalize fo p ya = v at *
              generalize fo p xb = u' at *
              generalize fo p yb = v' at *
              refine mk Tryz.func59 rfl rfl L0 R1 (by decide +kernel) fun A S hA hS => ?_
              have n1 := i_not hA (rfl : true = true)
              unfold bodyOf Tryz.f59
              cbv
              repeat (first
                | (refine ABr.t (by assumption) ?_; cbv)
                | (refine ABr.f (by assumption) ?_; cbv)
                | (refine ABr.t rfl ?_; cbv)
                | (refine ABr.f rfl ?_; cbv)
                | (refine ACall.mk _ (cf hS his) ?_; cbv)
                | (refine ACall.mk _ (cf hS hmo) ?_; cbv)
                | (refine ACall.mk _ (cf hS l1) ?_; cbv)
                | (refine ACall.mk _ (cf hS l2) ?_; cbv)
                | (refine ACall.mk _ (cf hS l3) ?_; cbv)
                | (refine ACall.mk _ (cf hS l4) ?_; cbv)
                | (refine ACall.mk _ (cf hS g1) ?_; cbv)
                | (refine ACall.mk _ (cf hS g2) ?_; cbv)
                | (refine ACall.mk _ (cf hS ho) ?_; cbv))
            · rename_i h5
              have h5' : ¬ (K2_4 H p).O.mul ⟨fo p ya, fo p yb⟩ ⟨fo p ya, fo p yb⟩ = (K2_4 H p).O.add ((K2_4 H p).O.mul ((K2_4 H p).O.mul ⟨fo p xa, fo p xb⟩ ⟨fo p xa, fo p xb⟩) ⟨fo p xa, fo p xb⟩) c.b2 := h5
              rw [decide_eq_false h5'] at ho
              clear h5 h5'
              generalize fo p xa = u at *
              generalize fo p ya = v at *
              generalize fo p xb = u' at *
              generalize fo p yb = v' at *
              refine mk Tryz.func59 rfl rfl L0 R1 (by decide +kernel) fun A S hA hS => ?_
              have n1 := i_not hA (rfl : true = true)
              have n2 := i_not hA (rfl : false = false)
              unfold bodyOf Tryz.f59
              cbv
              repeat (first
                | (refine ABr.t (by assumption) ?_; cbv)
                | (refine ABr.f (by assumption) ?_; cbv)
                | (refine ABr.t rfl ?_; cbv)
                | (refine ABr.f rfl ?_; cbv)
                | (refine ACall.mk _ (cf hS his) ?_; cbv)
                | (refine ACall.mk _ (cf hS hmo) ?_; cbv)
                | (refine ACall.mk _ (cf hS l1) ?_; cbv)
                | (refine ACall.mk _ (cf hS l2) ?_; cbv)
                | (refine ACall.mk _ (cf hS l3) ?_; cbv)
                | (refine ACall.mk _ (cf hS l4) ?_; cbv)
                | (refine ACall.mk _ (cf hS g1) ?_; cbv)
                | (refine ACall.mk _ (cf hS g2) ?_; cbv)
                | (refine ACall.mk _ (cf hS ho) ?_; cbv))
          · rw [if_neg (fun h => h4 h.2.2.2)]
            rw [decide_eq_true h1] at l1
            rw [decide_eq_true h2] at l2
            rw [decide_eq_true h3] at l3
            rw [decide_eq_false h4] at l4
            clear ho g1 g2
            refine mk Tryz.func59 rfl rfl L0 R1 (by decide +kernel) fun A S hA hS => ?_
            have n1 := i_not hA (rfl : true = true)
            have n2 := i_not hA (rfl : false = false)
            unfold bodyOf Tryz.f59
            cbv
            repeat (first
              | (refine ABr.t (by assumption) ?_; cbv)
              | (refine ABr.f (by assumption) ?_; cbv)
              | (refine ABr.t rfl ?_; cbv)
              | (refine ABr.f rfl ?_; cbv)
              | (refine ACall.mk _ (cf hS his) ?_; cbv)
              | (refine ACall.mk _ (cf hS hmo) ?_; cbv)
              | (refine ACall.mk _ (cf hS l1) ?_; cbv)
              | (refine ACall.mk _ (cf hS l2) ?_; cbv)
              | (refine ACall.mk _ (cf hS l3) ?_; cbv)
              | (refine ACall.mk _ (cf hS l4) ?_; cbv))
        · rw [if_neg (fun h => h3 h.2.2.1)]
          rw [decide_eq_true h1] at l1
          rw [decide_eq_true h2] at l2
          rw [decide_eq_false h3] at l3
          clear ho g1 g2
          refine mk Tryz.func59 rfl rfl L0 R1 (by decide +kernel) fun A S hA hS => ?_
          have n1 := i_not hA (rfl : true = true)
          have n2 := i_not hA (rfl : false = false)
          unfold bodyOf Tryz.f59
          cbv
          repeat (first
            | (refine ABr.t (by assumption) ?_; cbv)
            | (refine ABr.f (by assumption) ?_; cbv)
            | (refine ABr.t rfl ?_; cbv)
            | (refine ABr.f rfl ?_; cbv)
            | (refine ACall.mk _ (cf hS his) ?_; cbv)
            | (refine ACall.mk _ (cf hS hmo) ?_; cbv)
            | (refine ACall.mk _ (cf hS l1) ?_; cbv)
            | (refine ACall.mk _ (cf hS l2) ?_; cbv)
            | (refine ACall.mk _ (cf hS l3) ?_; cbv))
      · rw [if_neg (fun h => h2 h.2.1)]
        rw [decide_eq_true h1] at l1
        rw [decide_eq_false h2] at l2
        clear ho g1 g2
        refine mk Tryz.func59 rfl rfl L0 R1 (by decide +kernel) fun A S hA hS => ?_
        have n1 := i_not hA (rfl : true = true)
        have n2 := i_not hA (rfl : false = false)
        unfold bodyOf Tryz.f59
        cbv
        repeat (first
          | (refine ABr.t (by assumption) ?_; cbv)
          | (refine ABr.f (by assumption) ?_; cbv)
          | (refine ABr.t rfl ?_; cbv)
          | (refine ABr.f rfl ?_; cbv)
          | (refine ACall.mk _ (cf hS his) ?_; cbv)
          | (refine ACall.mk _ (cf hS hmo) ?_; cbv)
          | (refine ACall.mk _ (cf hS l1) ?_; cbv)
          | (refine ACall.mk _ (cf hS l2) ?_; cbv))
    · rw [if_neg (fun h => h1 h.1)]
      rw [decide_eq_false h1] at l1
      clear ho g1 g2
      refine mk Tryz.func59 rfl rfl L0 R1 (by decide +kernel) fun A S hA hS => ?_
      have n2 := i_not hA (rfl : false = false)
      unfold bodyOf Tryz.f59
      cbv
      repeat (first
        | (refine ABr.t (by assumption) ?_; cbv)
        | (refine ABr.f (by assumption) ?_; cbv)
        | (refine ABr.t rfl ?_; cbv)
        | (refine ABr.f rfl ?_; cbv)
        | (refine ACall.mk _ (cf hS his) ?_; cbv)
        | (refine ACall.mk _ (cf hS hmo) ?_; cbv)
        | (refine ACall.mk _ (cf hS l1) ?_; cbv))
  · rw [if_pos rfl]
    clear ho g1 g2 l1 l2 l3 l4
    by_cases h1 : xa = 0 ∧ xb = 0
    · by_cases h2 : ya = 0 ∧ yb = 0
      · rw [if_pos ⟨h1, h2⟩]
        refine mk Tryz.func59 rfl rfl L0 R1 (by decide +kernel) fun A S hA hS => ?_
        have n1 := i_not hA ((z1 A hA).trans (decide_eq_true h1))
        have n2 := i_not hA ((z2 A hA).trans (decide_eq_true h2))
        clear z1 z2 h1 h2
        unfold bodyOf Tryz.f59
        cbv
        repeat (first
          | (refine ABr.t (by assumption) ?_; cbv)
          | (refine ABr.f (by assumption) ?_; cbv)
          | (refine ABr.t rfl ?_; cbv)
          | (refine ABr.f rfl ?_; cbv)
          | (refine ACall.mk _ (cf hS his) ?_; cbv)
          | (refine ACall.mk _ (cf hS hmo) ?_; cbv))
      · rw [if_neg (fun h => h2 h.2)]
        refine mk Tryz.func59 rfl rfl L0 R1 (by decide +kernel) fun A S hA hS => ?_
        have n1 := i_not hA ((z1 A hA).trans (decide_eq_true h1))
        have n2 := i_not hA ((z2 A hA).trans (decide_eq_false h2))
        clear z1 z2 h1 h2
        unfold bodyOf Tryz.f59
        cbv
        repeat (first
          | (refine ABr.t (by assumption) ?_; cbv)
          | (refine ABr.f (by assumption) ?_; cbv)
          | (refine ABr.t rfl ?_; cbv)
          | (refine ABr.f rfl ?_; cbv)
          | (refine ACall.mk _ (cf hS his) ?_; cbv)
          | (refine ACall.mk _ (cf hS hmo) ?_; cbv))
    · rw [if_neg (fun h => h1 h.1)]
      refine mk Tryz.func59 rfl rfl L0 R1 (by decide +kernel) fun A S hA hS => ?_
      have n1 := i_not hA ((z1 A hA).trans (decide_eq_false h1))
      clear z1 z2 h1
      unfold bodyOf Tryz.f59
      cbv
      repeat (first
        | (refine ABr.t (by assumption) ?_; cbv)
        | (refine ABr.f (by assumption) ?_; cbv)
        | (refine ABr.t rfl ?_; cbv)
        | (refine ABr.f rfl ?_; cbv)
        | (refine ACall.mk _ (cf hS his) ?_; cbv)
        | (refine ACall.mk _ (cf hS hmo) ?_; cbv))
end
end Go.Proofs.YtmholgclgamnnaaGreat
end
