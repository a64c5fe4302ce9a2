import Derived.Laws.Externs
import Derived.Test.YtmholgclgamnnaaGreatQYD
import Derived.Test.YtmholgclgamnnaaGreatQYT
import Derived.Test.YtmholgclgamnnaaGreatQYJ
import Derived.Test.YtmholgclgamnnaaGreatQYH
import Derived.Test.YtmholgclgamnnaaGreatQYG
import Derived.Test.YtmholgclgamnnaaGreatQYCG
import Derived.Test.YtmholgclgamnnaaGreatQYO
import Derived.Test.YtmholgclgamnnaaGreatQYBN
import Derived.Test.YtmholgclgamnnaaGreatQYF
section
set_option linter.unusedVariables false
set_option linter.unusedSimpArgs false
namespace Go.Proofs.YtmholgclgamnnaaGreat
open Go Eng
set_option maxRecDepth 100000
set_option exponentiation.threshold 2000
def R2 : Nat → Md := fun _ => .all
end Go.Proofs.YtmholgclgamnnaaGreat
end
section
set_option linter.unusedVariables false
set_option linter.unusedSimpArgs false
namespace Go.Proofs.YtmholgclgamnnaaGreat
open Go Eng
set_option maxRecDepth 100000
set_option exponentiation.threshold 2000

/-- What is of no ring. -/
def z6 (H : H5) : AVal := u6 H.lim 0
theorem zS6 {H : H5} (hH : H = H5.real) : Sp 153 [] (z6 H) := Spec.res none6S (by rw [hH]; exact ⟨rfl, rfl, rfl, rfl, rfl, rfl⟩)
theorem NegS6 {H : H5} (hH : H = H5.real) {m b : Nat} (hR : Mod 384 m) (hb : b < m) : Sp 196 [.ref (R6 H m) 0, el6 H m b] (el6 H m (H.sub m 0 b)) := by
  have hz : z6 H = el6 H m 0 := by rw [hH]; unfold z6 el6 H5.real; simp
  refine mk Tryz.func196 rfl rfl L0 R1 (by decide +kernel) fun A S hA hS => ?_
  unfold bodyOf Tryz.f196
  cbv
  refine ACall.mk (el6 H m 0) (cf hS (hz ▸ zS6 hH)) ?_
  cbv
  refine ACall.mk _ (cf hS (SubS6 hH hR hb (a := 0) (b := b))) ?_
  cbv
end Go.Proofs.YtmholgclgamnnaaGreat
end
section
set_option linter.unusedVariables false
set_option linter.unusedSimpArgs false
namespace Go.Proofs.YtmholgclgamnnaaGreat
open Go Eng
set_option maxRecDepth 100000
set_option exponentiation.threshold 2000
def RRoot : Nat → Md := fun r => match r with | 6 => .own | _ => .mid
theorem limR_quarter (n i : Nat) : limR (n / 4) i = limR n i / 4 + 4611686018427387904 * (limR n (i + 1) % 4) := by
  unfold limR
  obtain ⟨q, hq⟩ : ∃ q, q = n / 2 ^ (64 * i) := ⟨_, rfl⟩
  have h1 : n / 4 / 2 ^ (64 * i) = q / 4 := by rw [hq, Nat.div_div_eq_div_mul, Nat.mul_comm 4, ← Nat.div_div_eq_div_mul]
  have h2 : n / 2 ^ (64 * (i + 1)) = q / 18446744073709551616 := by rw [hq, Nat.div_div_eq_div_mul, show (18446744073709551616 : Nat) = 2 ^ 64 from rfl, ← Nat.pow_add]; rfl
  rw [h1, h2, ← hq]
  omega
/-- A word's quarter, and the two bits above. -/
theorem quarter_word {A : Ar} (hA : A = Ar.real) {x y : Int} (hx : 0 ≤ x ∧ x < 18446744073709551616) (hy : 0 ≤ y ∧ y < 18446744073709551616) : A.bin .or .u64 (A.bin .shr .u64 x 2) (A.bin .shl .u64 y 62) = x / 4 + 4611686018427387904 * (y % 4) := by
  obtain ⟨a, rfl⟩ : ∃ n : Nat, x = n := ⟨x.toNat, by omega⟩
  obtain ⟨b, rfl⟩ : ∃ n : Nat, y = n := ⟨y.toNat, by omega⟩
  rw [hA]
  show rbin .or .u64 (rbin .shr .u64 (Int.ofNat a) (Int.ofNat 2)) (rbin .shl .u64 (Int.ofNat b) (Int.ofNat 62)) = _
  have e : b * 2 ^ 62 % 18446744073709551616 = 2 ^ 62 * (b % 4) := by omega
  rw [u_shr a 2 (by omega), u_shl _ 62 (by omega), e, u_or_add _ _ 62 (by omega) (by omega) (by omega)]
  show ((a / 2 ^ 2 + 2 ^ 62 * (b % 4) : Nat) : Int) = _
  omega
theorem shr_two {A : Ar} (hA : A = Ar.real) {x : Int} (hx : 0 ≤ x) : A.bin .shr .u64 x 2 = x / 4 := by
  obtain ⟨a, rfl⟩ : ∃ n : Nat, x = n := ⟨x.toNat, by omega⟩
  rw [hA]
  show rbin .shr .u64 (Int.ofNat a) (Int.ofNat 2) = _
  rw [u_shr a 2 (by omega)]
  show ((a / 2 ^ 2 : Nat) : Int) = _
  omega
end Go.Proofs.YtmholgclgamnnaaGreat
end
section
set_option linter.unusedVariables false
set_option linter.unusedSimpArgs false
namespace Go.Proofs.YtmholgclgamnnaaGreat
open Go Eng
set_option maxRecDepth 100000
set_option exponentiation.threshold 2000
set_option maxHeartbeats 4000000
theorem lim_app6 {a t : Nat} (ha : a < 2 ^ 384) (ht : t < 2 ^ 64) : (∀ i, i < 6 → limR (a + 2 ^ 384 * t) i = limR a i) ∧ limR (a + 2 ^ 384 * t) 6 = (t : Int) := by
  constructor
  · intro i hi
    unfold limR
    congr 1
    rw [show 2 ^ 384 * t = 2 ^ (64 * i) * (2 ^ 64 * (2 ^ (384 - 64 * i - 64) * t)) by
      rw [← Nat.mul_assoc, ← Nat.mul_assoc, ← Nat.pow_add, ← Nat.pow_add]; congr 2; omega]
    rw [Nat.add_mul_div_left _ _ (Nat.two_pow_pos _), Nat.add_mul_mod_self_left]
  · unfold limR
    congr 1
    show (a + 2 ^ 384 * t) / 2 ^ 384 % 2 ^ 64 = t
    rw [Nat.add_mul_div_left _ _ (Nat.two_pow_pos _), Nat.div_eq_of_lt ha]
    omega
theorem neqs6 {A : Ar} (hA : A = Ar.real) {lim : Lim} (hl : lim = limR) (a b : Nat) (ha : a < 2 ^ 384) (hb : b < 2 ^ 384) : A.not (A.eqs [(.s .u64 (lim a 0), .s .u64 (lim b 0)), (.s .u64 (lim a 1), .s .u64 (lim b 1)), (.s .u64 (lim a 2), .s .u64 (lim b 2)), (.s .u64 (lim a 3), .s .u64 (lim b 3)), (.s .u64 (lim a 4), .s .u64 (lim b 4)), (.s .u64 (lim a 5), .s .u64 (lim b 5))]) = !decide (a = b) := by
  rw [a_not hA, eqs6 hA hl a b ha hb]
theorem rowl6 (lim : Lim) (hl : lim = limR) (e : Nat) : IsRow [.s .u64 (lim e 0), .s .u64 (lim e 1), .s .u64 (lim e 2), .s .u64 (lim e 3), .s .u64 (lim e 4), .s .u64 (lim e 5), .s .u64 (lim e 6)] (limR e) (6 + 1) := by
  subst hl
  refine ⟨rfl, fun i hi => ?_⟩
  rcases (by omega : i = 0 ∨ i = 1 ∨ i = 2 ∨ i = 3 ∨ i = 4 ∨ i = 5 ∨ i = 6) with rfl | rfl | rfl | rfl | rfl | rfl | rfl <;> rfl
theorem RootS6 {H : H5} (hH : H = H5.real) {m a : Nat} (hR : Mod 384 m) (ha : a < m) (r : Nat) (hr : r = H.pow m a ((m + 1) / 4)) :
    (H.mul m r r = a → Sp 143 [.ref (R6 H m) 0, el6 H m a] (.tup [el6 H m r, .b true])) ∧ (H.mul m r r ≠ a → Sp 143 [.ref (R6 H m) 0, el6 H m a] (.tup [u6 H.lim 0, .b false])) := by
  have hl := H5.hlim hH
  have hlim := hR.lt
  have h1m := hR.one
  have hodd := hR.odd
  obtain ⟨e, he⟩ : ∃ e, e = (m + 1) % 2 ^ 384 := ⟨_, rfl⟩
  obtain ⟨c, hc⟩ : ∃ c, c = (m + 1) / 2 ^ 384 := ⟨_, rfl⟩
  obtain ⟨q, hq⟩ : ∃ q, q = (m + 1) / 4 := ⟨_, rfl⟩
  have hN : m + 1 = e + 2 ^ 384 * c := by omega
  have hc1 : c ≤ 1 := by omega
  have he1 : e < 2 ^ 384 := by omega
  obtain ⟨ha1, ha2⟩ := lim_app6 he1 (show c < 2 ^ 64 by omega)
  rw [← hN] at ha1 ha2
  have le := fun i => lim_range hl e i
  have hcr : (0 : Int) ≤ (c : Int) ∧ (c : Int) < 18446744073709551616 := by omega
  rw [← hq] at hr
  have l0 : ∀ i, H.lim 0 i = 0 := by intro i; rw [hH]; show ((0 / 2 ^ (64 * i) % 2 ^ 64 : Nat) : Int) = 0; rw [Nat.zero_div]; rfl
  have l10 : H.lim 1 0 = 1 := by rw [hH]; rfl
  have l1s : ∀ i, i < 6 - 1 → H.lim 1 (i + 1) = 0 := by
    intro i hi; rw [hH]; show ((1 / 2 ^ (64 * (i + 1)) % 2 ^ 64 : Nat) : Int) = 0
    rw [Nat.div_eq_of_lt (Nat.one_lt_two_pow (by omega))]; rfl
  have cp := plus6 hl m 1 e c hlim (by omega) (by omega) he1
  have cp : Sp 193 [u6 H.lim m, .agg [.i .u64 1, .i .u64 0, .i .u64 0, .i .u64 0, .i .u64 0, .i .u64 0]] (.tup [u6 H.lim e, .s .u64 c]) := Spec.args cp (by
    cbv
    repeat' (first | exact l10.symm | exact (l1s _ (by omega)).symm | constructor))
  have cw := wordsS6 (H := H) e
  have ce := ExpS6 hH hR ha (rowl6 H.lim hl q) (by omega) (show q < 2 ^ (64 * (6 + 1)) by omega)
  rw [← hr] at ce
  have cm := mulE6 hH hR (a := r) (b := r)
  obtain ⟨s, hs⟩ : ∃ s, s = H.mul m r r := ⟨_, rfl⟩
  rw [← hs] at cm ⊢
  have hsm : s < m := by rw [hs, hH]; exact Nat.mod_lt _ hR.pos
  have hinj : H.mf 384 m s = H.mf 384 m a → s = a := by rw [hH]; exact mf_inj hodd hsm ha
  have hb1 : H.mf 384 m s < 2 ^ 384 := by refine Nat.lt_trans ?_ hlim; rw [hH]; exact mf_lt hR.pos
  have hb2 : H.mf 384 m a < 2 ^ 384 := by refine Nat.lt_trans ?_ hlim; rw [hH]; exact mf_lt hR.pos
  have words : ∀ (A : Ar), A = Ar.real → A.bin .or .u64 (A.bin .shr .u64 (H.lim e 0) 2) (A.bin .shl .u64 (H.lim e 1) 62) = H.lim q 0 ∧ A.bin .or .u64 (A.bin .shr .u64 (H.lim e 1) 2) (A.bin .shl .u64 (H.lim e 2) 62) = H.lim q 1 ∧ A.bin .or .u64 (A.bin .shr .u64 (H.lim e 2) 2) (A.bin .shl .u64 (H.lim e 3) 62) = H.lim q 2 ∧ A.bin .or .u64 (A.bin .shr .u64 (H.lim e 3) 2) (A.bin .shl .u64 (H.lim e 4) 62) = H.lim q 3 ∧ A.bin .or .u64 (A.bin .shr .u64 (H.lim e 4) 2) (A.bin .shl .u64 (H.lim e 5) 62) = H.lim q 4 ∧ A.bin .or .u64 (A.bin .shr .u64 (H.lim e 5) 2) (A.bin .shl .u64 (c : Int) 62) = H.lim q 5 ∧ A.bin .shr .u64 (c : Int) 2 = H.lim q 6 := by
    intro A hA
    have hqi : ∀ i, H.lim q i = limR (m + 1) i / 4 + 4611686018427387904 * (limR (m + 1) (i + 1) % 4) := by intro i; rw [hl, hq]; exact limR_quarter _ _
    have htop : limR (m + 1) (6 + 1) = 0 := by
      unfold limR
      rw [Nat.div_eq_of_lt (by omega)]; rfl
    refine ⟨?_, ?_, ?_, ?_, ?_, ?_, ?_⟩
    · rw [quarter_word hA (le 0) (le 1), hqi, ha1 0 (by omega), ha1 1 (by omega), hl]
    · rw [quarter_word hA (le 1) (le 2), hqi, ha1 1 (by omega), ha1 2 (by omega), hl]
    · rw [quarter_word hA (le 2) (le 3), hqi, ha1 2 (by omega), ha1 3 (by omega), hl]
    · rw [quarter_word hA (le 3) (le 4), hqi, ha1 3 (by omega), ha1 4 (by omega), hl]
    · rw [quarter_word hA (le 4) (le 5), hqi, ha1 4 (by omega), ha1 5 (by omega), hl]
    · rw [quarter_word hA (le 5) hcr, hqi, ha1 5 (by omega), ha2, hl]
    · rw [shr_two hA hcr.1, hqi, ha2, htop]; rfl
  constructor
  · intro hsa
    refine mk Tryz.func143 rfl rfl L0 RRoot (by decide +kernel) fun A S hA hS => ?_
    have hw := words A hA
    have hne := (neqs6 hA hl _ _ hb1 hb2).trans (by rw [hsa, decide_eq_true rfl]; rfl : _ = false)
    unfold bodyOf Tryz.f143
    cbv
    refine ACall.mk _ (cf hS (isS6 (H := H) m)) ?_
    cbv
    refine ACall.mk _ (cf hS cp) ?_
    cbv
    refine ACall.mk _ (cf hS cw) ?_
    cbv
    refine ACall.mk _ (cg hS ce (by cbv; exact hw)) ?_
    cbv
    refine ACall.mk _ (cf hS cm) ?_
    cbv
    refine ABr.f hne ?_
    cbv
  · intro hsa
    refine mk Tryz.func143 rfl rfl L0 RRoot (by decide +kernel) fun A S hA hS => ?_
    have hw := words A hA
    have hne := (neqs6 hA hl _ _ hb1 hb2).trans (by rw [decide_eq_false (fun h => hsa (hinj h))]; rfl : _ = true)
    unfold bodyOf Tryz.f143
    cbv
    refine ACall.mk _ (cf hS (isS6 (H := H) m)) ?_
    cbv
    refine ACall.mk _ (cf hS cp) ?_
    cbv
    refine ACall.mk _ (cf hS cw) ?_
    cbv
    refine ACall.mk _ (cg hS ce (by cbv; exact hw)) ?_
    cbv
    refine ACall.mk _ (cf hS cm) ?_
    cbv
    refine ABr.t hne ?_
    cbv
    refine ACall.mk _ (cf hS none6S) ?_
    cbv
    repeat' (first | exact (l0 _).symm | constructor)
end Go.Proofs.YtmholgclgamnnaaGreat
end
section
set_option linter.unusedVariables false
set_option linter.unusedSectionVars false
set_option linter.unusedSimpArgs false
namespace Go.Proofs.YtmholgclgamnnaaGreat
open Go Eng
set_option maxRecDepth 100000
set_option exponentiation.threshold 2000
set_option maxHeartbeats 4000000
section
variable {p : Nat} [NeZero p]
theorem AddF6 {H : H5} (hH : H = H5.real) (hp : PrM 384 p) (a c : Fin p) : Sp 144 [.ref (R6 H p) 0, el6 H p a.val, el6 H p c.val] (el6 H p (a + c).val) := by
  have h := AddS6 hH hp.toMod (a := a.val) (b := c.val)
  have e : H.add p a.val c.val = (a + c).val := by rw [hH]; exact (Fin.val_add a c).symm
  rw [e] at h; exact h
theorem MulF6 {H : H5} (hH : H = H5.real) (hp : PrM 384 p) (a c : Fin p) : Sp 145 [.ref (R6 H p) 0, el6 H p a.val, el6 H p c.val] (el6 H p (a * c).val) := by
  have h := MulS6 hH hp.toMod (a := a.val) (b := c.val)
  have e : H.mul p a.val c.val = (a * c).val := by rw [hH]; exact (Fin.val_mul a c).symm
  rw [e] at h; exact h
theorem NegF6 {H : H5} (hH : H = H5.real) (hp : PrM 384 p) (a : Fin p) : Sp 196 [.ref (R6 H p) 0, el6 H p a.val] (el6 H p (0 - a).val) := by
  have h := NegS6 hH hp.toMod a.isLt
  have e : H.sub p 0 a.val = (0 - a).val := by rw [hH]; exact fin_sub 0 a
  rw [e] at h; exact h
end
end Go.Proofs.YtmholgclgamnnaaGreat
end
section
set_option linter.unusedVariables false
set_option linter.unusedSimpArgs false
namespace Go.Proofs.YtmholgclgamnnaaGreat
open Go Eng
set_option maxRecDepth 100000
set_option exponentiation.threshold 2000
set_option maxHeartbeats 8000000
theorem subj {A : Ar} (hA : A = Ar.real) {X Y C Z : Int} {c : Nat} (hX : 0 ≤ X ∧ X < 18446744073709551616) (hY : 0 ≤ Y ∧ Y < 18446744073709551616) (hC : 0 ≤ C ∧ C ≤ 1) (hZ : 0 ≤ Z ∧ Z < 18446744073709551616) (h : Y + Z + C = X + 18446744073709551616 * c) :
    ∃ v : Int, (A.cmp .lss X Y = true → (1 : Int) = v) ∧ (A.cmp .lss X Y = false → (0 : Int) = v) ∧
      (A.cmp .lss (A.bin .sub .u64 X Y) C = true → (1 : Int) = c) ∧ (A.cmp .lss (A.bin .sub .u64 X Y) C = false → v = c) ∧
      A.bin .sub .u64 (A.bin .sub .u64 X Y) C = Z := by
  obtain ⟨x, rfl⟩ : ∃ x : Nat, X = x := ⟨X.toNat, by omega⟩
  obtain ⟨y, rfl⟩ : ∃ x : Nat, Y = x := ⟨Y.toNat, by omega⟩
  obtain ⟨k, rfl⟩ : ∃ x : Nat, C = x := ⟨C.toNat, by omega⟩
  obtain ⟨p, hp⟩ : ∃ p, p = (x + 18446744073709551616 - y) % 18446744073709551616 := ⟨_, rfl⟩
  have e1 : A.bin .sub .u64 (x : Int) (y : Int) = (p : Int) := by rw [hA, hp]; exact u_sub x y (by omega)
  have e2 : A.bin .sub .u64 (p : Int) (k : Int) = (((p + 18446744073709551616 - k) % 18446744073709551616 : Nat) : Int) := by rw [hA]; exact u_sub p k (by omega)
  have e3 : (((p + 18446744073709551616 - k) % 18446744073709551616 : Nat) : Int) = Z := by omega
  rw [e1, e2, e3, i_lt hA, i_lt hA]
  refine ⟨if (x : Int) < y then 1 else 0, fun e => ?_, fun e => ?_, fun e => ?_, fun e => ?_, rfl⟩
  · rw [if_pos (of_decide_eq_true e)]
  · rw [if_neg (of_decide_eq_false e)]
  · have := of_decide_eq_true e; omega
  · have := of_decide_eq_false e; split <;> omega
theorem rSub4 {lim : Lim} (hl : lim = limR) (a b d k : Nat) (ha : a < 2 ^ 256) (hb : b < 2 ^ 256) (hd : d + b = a + 2 ^ 256 * k) (hk : d < 2 ^ 256) :
    Sp 199 [.lst false 4 (ws4 lim a), .lst false 4 (ws4 lim b)] (.tup [.new false 4 1 (ws4 lim d), .s .u64 k]) := by
  obtain ⟨C, hC⟩ : ∃ C : Nat → Nat, C = carr b d := ⟨_, rfl⟩
  have hC0 : C 0 = 0 := by rw [hC]; unfold carr; simp [Nat.mod_one]
  have hCn : C 4 = k := by rw [hC]; unfold carr; rw [Nat.mod_eq_of_lt hb, Nat.mod_eq_of_lt hk]; omega
  have hC1 : ∀ i, C i ≤ 1 := fun i => by rw [hC]; exact carr_le b d i
  have hst : ∀ i, i < 4 → lim b i + lim d i + C i = lim a i + 18446744073709551616 * C (i + 1) := by
    intro i hi
    have := carr_step b d i
    rw [hl, hC, this]
    congr 1
    rw [← limR_low (n := 4) hi, show (b + d) % 2 ^ (64 * 4) = a by omega]
  have le := fun x i => lim_range hl x i
  have h00 : lim b 0 + lim d 0 + 0 = lim a 0 + 18446744073709551616 * (C 1 : Nat) := by
    have := hst 0 (by decide)
    rw [hC0] at this
    exact this
  clear hC
  refine mk Tryz.func199 rfl rfl L0 RJ (by decide +kernel) ?_
  intro A S hA hS
  unfold bodyOf Tryz.f199
  cbv
  obtain ⟨v0, p0, q0, r0, s0, e0⟩ := subj hA (le a 0) (le b 0) (C := 0) (c := C 1) (by omega) (le d 0) h00
  obtain ⟨v1, p1, q1, r1, s1, e1⟩ := subj hA (le a 1) (le b 1) (C := (C 1 : Nat)) (c := C 2) (by have := hC1 1; omega) (le d 1) (hst 1 (by decide))
  obtain ⟨v2, p2, q2, r2, s2, e2⟩ := subj hA (le a 2) (le b 2) (C := (C 2 : Nat)) (c := C 3) (by have := hC1 2; omega) (le d 2) (hst 2 (by decide))
  obtain ⟨v3, p3, q3, r3, s3, e3⟩ := subj hA (le a 3) (le b 3) (C := (C 3 : Nat)) (c := C 4) (by have := hC1 3; omega) (le d 3) (hst 3 (by decide))
  refine AJ.mk v0 p0 q0 ?_
  cbv
  refine AJ.mk ((C 1 : Nat) : Int) r0 s0 ?_
  cbv
  refine AJ.mk v1 p1 q1 ?_
  cbv
  refine AJ.mk ((C 2 : Nat) : Int) r1 s1 ?_
  cbv
  refine AJ.mk v2 p2 q2 ?_
  cbv
  refine AJ.mk ((C 3 : Nat) : Int) r2 s2 ?_
  cbv
  refine AJ.mk v3 p3 q3 ?_
  cbv
  refine AJ.mk ((C 4 : Nat) : Int) r3 s3 ?_
  cbv
  exact ⟨⟨e0, e1, e2, e3⟩, congrArg Int.ofNat hCn⟩
theorem less_top4 {lim : Lim} (hl : lim = limR) {a b : Nat} (ha : a < 2 ^ 256) (hb : b < 2 ^ 256) (k : Nat) (hk : k < 4) (he : ∀ i, k < i → i < 4 → lim a i = lim b i) (hn : lim a k ≠ lim b k) : lim a k < lim b k ↔ a < b := by
  have sa := split4 hl a ha
  have sb := split4 hl b hb
  have a0 := lim_range hl a 0
  have b0 := lim_range hl b 0
  have a1 := lim_range hl a 1
  have b1 := lim_range hl b 1
  have a2 := lim_range hl a 2
  have b2 := lim_range hl b 2
  have a3 := lim_range hl a 3
  have b3 := lim_range hl b 3
  have hh : ∀ x y : Nat, (x : Int) < y ↔ x < y := fun x y => Int.ofNat_lt
  rw [← hh a b, sa, sb]
  clear sa sb hh ha hb
  rcases (by omega : k = 0 ∨ k = 1 ∨ k = 2 ∨ k = 3) with rfl | rfl | rfl | rfl
  all_goals
    try rw [he 1 (by decide) (by decide)]
    try rw [he 2 (by decide) (by decide)]
    try rw [he 3 (by decide) (by decide)]
    omega
theorem rLess4 {lim : Lim} (hl : lim = limR) (a b : Nat) (ha : a < 2 ^ 256) (hb : b < 2 ^ 256) (t : Bool) (ht : t = decide (a < b)) :
    Sp 86 [.lst false 4 (ws4 lim a), .lst false 4 (ws4 lim b)] (.sb t) := by
  have top := less_top4 hl ha hb
  have inj := lim_inj4 hl ha hb
  refine mk Tryz.func86 rfl rfl L0 RJ (by decide +kernel) ?_
  intro A S hA hS
  unfold bodyOf Tryz.f86
  cbv
  have n0 : A.cmp .neq (lim a 0) (lim b 0) = !decide (lim a 0 = lim b 0) := i_ne hA
  have l0 : A.cmp .lss (lim a 0) (lim b 0) = decide (lim a 0 < lim b 0) := i_lt hA
  have n1 : A.cmp .neq (lim a 1) (lim b 1) = !decide (lim a 1 = lim b 1) := i_ne hA
  have l1 : A.cmp .lss (lim a 1) (lim b 1) = decide (lim a 1 < lim b 1) := i_lt hA
  have n2 : A.cmp .neq (lim a 2) (lim b 2) = !decide (lim a 2 = lim b 2) := i_ne hA
  have l2 : A.cmp .lss (lim a 2) (lim b 2) = decide (lim a 2 < lim b 2) := i_lt hA
  have n3 : A.cmp .neq (lim a 3) (lim b 3) = !decide (lim a 3 = lim b 3) := i_ne hA
  have l3 : A.cmp .lss (lim a 3) (lim b 3) = decide (lim a 3 < lim b 3) := i_lt hA
  by_cases h3 : lim a 3 = lim b 3
  rotate_left
  · rw [decide_eq_false h3] at n3
    refine ABr.t n3 ?_
    cbv
    refine l3.trans (ht ▸ ?_)
    refine decide_eq_decide.2 (top 3 (by decide) (fun i h1 h2 => ?_) h3)
    rcases (by omega : i = 0 ∨ i = 1 ∨ i = 2 ∨ i = 3) with rfl | rfl | rfl | rfl
    all_goals first | assumption | (exfalso; omega)
  rw [decide_eq_true h3] at n3
  refine ABr.f n3 ?_
  cbv
  by_cases h2 : lim a 2 = lim b 2
  rotate_left
  · rw [decide_eq_false h2] at n2
    refine ABr.t n2 ?_
    cbv
    refine l2.trans (ht ▸ ?_)
    refine decide_eq_decide.2 (top 2 (by decide) (fun i h1 h2 => ?_) h2)
    rcases (by omega : i = 0 ∨ i = 1 ∨ i = 2 ∨ i = 3) with rfl | rfl | rfl | rfl
    all_goals first | assumption | (exfalso; omega)
  rw [decide_eq_true h2] at n2
  refine ABr.f n2 ?_
  cbv
  by_cases h1 : lim a 1 = lim b 1
  rotate_left
  · rw [decide_eq_false h1] at n1
    refine ABr.t n1 ?_
    cbv
    refine l1.trans (ht ▸ ?_)
    refine decide_eq_decide.2 (top 1 (by decide) (fun i h1 h2 => ?_) h1)
    rcases (by omega : i = 0 ∨ i = 1 ∨ i = 2 ∨ i = 3) with rfl | rfl | rfl | rfl
    all_goals first | assumption | (exfalso; omega)
  rw [decide_eq_true h1] at n1
  refine ABr.f n1 ?_
  cbv
  by_cases h0 : lim a 0 = lim b 0
  rotate_left
  · rw [decide_eq_false h0] at n0
    refine ABr.t n0 ?_
    cbv
    refine l0.trans (ht ▸ ?_)
    refine decide_eq_decide.2 (top 0 (by decide) (fun i h1 h2 => ?_) h0)
    rcases (by omega : i = 0 ∨ i = 1 ∨ i = 2 ∨ i = 3) with rfl | rfl | rfl | rfl
    all_goals first | assumption | (exfalso; omega)
  rw [decide_eq_true h0] at n0
  refine ABr.f n0 ?_
  cbv
  rw [ht, decide_eq_false (by rw [inj ⟨h0, h1, h2, h3⟩]; exact Nat.lt_irrefl _)]
theorem rAdd6 {lim : Lim} (hl : lim = limR) (a b s c : Nat) (ha : a < 2 ^ 384) (hb : b < 2 ^ 384) (hs : s = (a + b) % 2 ^ 384) (hc : c = (a + b) / 2 ^ 384) :
    Sp 53 [.lst false 6 (ws6 lim a), .lst false 6 (ws6 lim b)] (.tup [.new false 6 1 (ws6 lim s), .s .u64 c]) := by
  obtain ⟨C, hC⟩ : ∃ C : Nat → Nat, C = carr a b := ⟨_, rfl⟩
  have hC0 : C 0 = 0 := by rw [hC]; unfold carr; simp [Nat.mod_one]
  have hCn : C 6 = c := by rw [hC, hc]; unfold carr; rw [Nat.mod_eq_of_lt ha, Nat.mod_eq_of_lt hb]
  have hC1 : ∀ i, C i ≤ 1 := fun i => by rw [hC]; exact carr_le a b i
  have hst : ∀ i, i < 6 → lim a i + lim b i + C i = lim s i + 18446744073709551616 * C (i + 1) := by
    intro i hi
    have := carr_step a b i
    rw [hl, hC, hs]
    rw [this]
    congr 1
    exact (limR_low (n := 6) hi).symm
  have le := fun x i => lim_range hl x i
  have h00 : lim a 0 + lim b 0 + 0 = lim s 0 + 18446744073709551616 * (C 1 : Nat) := by
    have := hst 0 (by decide)
    rw [hC0] at this
    exact this
  clear hC hs hc
  refine mk Tryz.func53 rfl rfl L0 RJ (by decide +kernel) ?_
  intro A S hA hS
  unfold bodyOf Tryz.f53
  cbv
  obtain ⟨v0, p0, q0, r0, s0, e0⟩ := addj hA (le a 0) (le b 0) (C := 0) (c := C 1) (by omega) (le s 0) h00
  obtain ⟨v1, p1, q1, r1, s1, e1⟩ := addj hA (le a 1) (le b 1) (C := (C 1 : Nat)) (c := C 2) (by have := hC1 1; omega) (le s 1) (hst 1 (by decide))
  obtain ⟨v2, p2, q2, r2, s2, e2⟩ := addj hA (le a 2) (le b 2) (C := (C 2 : Nat)) (c := C 3) (by have := hC1 2; omega) (le s 2) (hst 2 (by decide))
  obtain ⟨v3, p3, q3, r3, s3, e3⟩ := addj hA (le a 3) (le b 3) (C := (C 3 : Nat)) (c := C 4) (by have := hC1 3; omega) (le s 3) (hst 3 (by decide))
  obtain ⟨v4, p4, q4, r4, s4, e4⟩ := addj hA (le a 4) (le b 4) (C := (C 4 : Nat)) (c := C 5) (by have := hC1 4; omega) (le s 4) (hst 4 (by decide))
  obtain ⟨v5, p5, q5, r5, s5, e5⟩ := addj hA (le a 5) (le b 5) (C := (C 5 : Nat)) (c := C 6) (by have := hC1 5; omega) (le s 5) (hst 5 (by decide))
  refine AJ.mk v0 p0 q0 ?_
  cbv
  refine AJ.mk ((C 1 : Nat) : Int) r0 s0 ?_
  cbv
  refine AJ.mk v1 p1 q1 ?_
  cbv
  refine AJ.mk ((C 2 : Nat) : Int) r1 s1 ?_
  cbv
  refine AJ.mk v2 p2 q2 ?_
  cbv
  refine AJ.mk ((C 3 : Nat) : Int) r2 s2 ?_
  cbv
  refine AJ.mk v3 p3 q3 ?_
  cbv
  refine AJ.mk ((C 4 : Nat) : Int) r3 s3 ?_
  cbv
  refine AJ.mk v4 p4 q4 ?_
  cbv
  refine AJ.mk ((C 5 : Nat) : Int) r4 s4 ?_
  cbv
  refine AJ.mk v5 p5 q5 ?_
  cbv
  refine AJ.mk ((C 6 : Nat) : Int) r5 s5 ?_
  cbv
  exact ⟨⟨e0, e1, e2, e3, e4, e5⟩, congrArg Int.ofNat hCn⟩
theorem rSub6 {lim : Lim} (hl : lim = limR) (a b d k : Nat) (ha : a < 2 ^ 384) (hb : b < 2 ^ 384) (hd : d + b = a + 2 ^ 384 * k) (hk : d < 2 ^ 384) :
    Sp 199 [.lst false 6 (ws6 lim a), .lst false 6 (ws6 lim b)] (.tup [.new false 6 1 (ws6 lim d), .s .u64 k]) := by
  obtain ⟨C, hC⟩ : ∃ C : Nat → Nat, C = carr b d := ⟨_, rfl⟩
  have hC0 : C 0 = 0 := by rw [hC]; unfold carr; simp [Nat.mod_one]
  have hCn : C 6 = k := by rw [hC]; unfold carr; rw [Nat.mod_eq_of_lt hb, Nat.mod_eq_of_lt hk]; omega
  have hC1 : ∀ i, C i ≤ 1 := fun i => by rw [hC]; exact carr_le b d i
  have hst : ∀ i, i < 6 → lim b i + lim d i + C i = lim a i + 18446744073709551616 * C (i + 1) := by
    intro i hi
    have := carr_step b d i
    rw [hl, hC, this]
    congr 1
    rw [← limR_low (n := 6) hi, show (b + d) % 2 ^ (64 * 6) = a by omega]
  have le := fun x i => lim_range hl x i
  have h00 : lim b 0 + lim d 0 + 0 = lim a 0 + 18446744073709551616 * (C 1 : Nat) := by
    have := hst 0 (by decide)
    rw [hC0] at this
    exact this
  clear hC
  refine mk Tryz.func199 rfl rfl L0 RJ (by decide +kernel) ?_
  intro A S hA hS
  unfold bodyOf Tryz.f199
  cbv
  obtain ⟨v0, p0, q0, r0, s0, e0⟩ := subj hA (le a 0) (le b 0) (C := 0) (c := C 1) (by omega) (le d 0) h00
  obtain ⟨v1, p1, q1, r1, s1, e1⟩ := subj hA (le a 1) (le b 1) (C := (C 1 : Nat)) (c := C 2) (by have := hC1 1; omega) (le d 1) (hst 1 (by decide))
  obtain ⟨v2, p2, q2, r2, s2, e2⟩ := subj hA (le a 2) (le b 2) (C := (C 2 : Nat)) (c := C 3) (by have := hC1 2; omega) (le d 2) (hst 2 (by decide))
  obtain ⟨v3, p3, q3, r3, s3, e3⟩ := subj hA (le a 3) (le b 3) (C := (C 3 : Nat)) (c := C 4) (by have := hC1 3; omega) (le d 3) (hst 3 (by decide))
  obtain ⟨v4, p4, q4, r4, s4, e4⟩ := subj hA (le a 4) (le b 4) (C := (C 4 : Nat)) (c := C 5) (by have := hC1 4; omega) (le d 4) (hst 4 (by decide))
  obtain ⟨v5, p5, q5, r5, s5, e5⟩ := subj hA (le a 5) (le b 5) (C := (C 5 : Nat)) (c := C 6) (by have := hC1 5; omega) (le d 5) (hst 5 (by decide))
  refine AJ.mk v0 p0 q0 ?_
  cbv
  refine AJ.mk ((C 1 : Nat) : Int) r0 s0 ?_
  cbv
  refine AJ.mk v1 p1 q1 ?_
  cbv
  refine AJ.mk ((C 2 : Nat) : Int) r1 s1 ?_
  cbv
  refine AJ.mk v2 p2 q2 ?_
  cbv
  refine AJ.mk ((C 3 : Nat) : Int) r2 s2 ?_
  cbv
  refine AJ.mk v3 p3 q3 ?_
  cbv
  refine AJ.mk ((C 4 : Nat) : Int) r3 s3 ?_
  cbv
  refine AJ.mk v4 p4 q4 ?_
  cbv
  refine AJ.mk ((C 5 : Nat) : Int) r4 s4 ?_
  cbv
  refine AJ.mk v5 p5 q5 ?_
  cbv
  refine AJ.mk ((C 6 : Nat) : Int) r5 s5 ?_
  cbv
  exact ⟨⟨e0, e1, e2, e3, e4, e5⟩, congrArg Int.ofNat hCn⟩
theorem less_top6 {lim : Lim} (hl : lim = limR) {a b : Nat} (ha : a < 2 ^ 384) (hb : b < 2 ^ 384) (k : Nat) (hk : k < 6) (he : ∀ i, k < i → i < 6 → lim a i = lim b i) (hn : lim a k ≠ lim b k) : lim a k < lim b k ↔ a < b := by
  have sa := split6 hl a ha
  have sb := split6 hl b hb
  have a0 := lim_range hl a 0
  have b0 := lim_range hl b 0
  have a1 := lim_range hl a 1
  have b1 := lim_range hl b 1
  have a2 := lim_range hl a 2
  have b2 := lim_range hl b 2
  have a3 := lim_range hl a 3
  have b3 := lim_range hl b 3
  have a4 := lim_range hl a 4
  have b4 := lim_range hl b 4
  have a5 := lim_range hl a 5
  have b5 := lim_range hl b 5
  have hh : ∀ x y : Nat, (x : Int) < y ↔ x < y := fun x y => Int.ofNat_lt
  rw [← hh a b, sa, sb]
  clear sa sb hh ha hb
  rcases (by omega : k = 0 ∨ k = 1 ∨ k = 2 ∨ k = 3 ∨ k = 4 ∨ k = 5) with rfl | rfl | rfl | rfl | rfl | rfl
  all_goals
    try rw [he 1 (by decide) (by decide)]
    try rw [he 2 (by decide) (by decide)]
    try rw [he 3 (by decide) (by decide)]
    try rw [he 4 (by decide) (by decide)]
    try rw [he 5 (by decide) (by decide)]
    omega
theorem rLess6 {lim : Lim} (hl : lim = limR) (a b : Nat) (ha : a < 2 ^ 384) (hb : b < 2 ^ 384) (t : Bool) (ht : t = decide (a < b)) :
    Sp 86 [.lst false 6 (ws6 lim a), .lst false 6 (ws6 lim b)] (.sb t) := by
  have top := less_top6 hl ha hb
  have inj := lim_inj6 hl ha hb
  refine mk Tryz.func86 rfl rfl L0 RJ (by decide +kernel) ?_
  intro A S hA hS
  unfold bodyOf Tryz.f86
  cbv
  have n0 : A.cmp .neq (lim a 0) (lim b 0) = !decide (lim a 0 = lim b 0) := i_ne hA
  have l0 : A.cmp .lss (lim a 0) (lim b 0) = decide (lim a 0 < lim b 0) := i_lt hA
  have n1 : A.cmp .neq (lim a 1) (lim b 1) = !decide (lim a 1 = lim b 1) := i_ne hA
  have l1 : A.cmp .lss (lim a 1) (lim b 1) = decide (lim a 1 < lim b 1) := i_lt hA
  have n2 : A.cmp .neq (lim a 2) (lim b 2) = !decide (lim a 2 = lim b 2) := i_ne hA
  have l2 : A.cmp .lss (lim a 2) (lim b 2) = decide (lim a 2 < lim b 2) := i_lt hA
  have n3 : A.cmp .neq (lim a 3) (lim b 3) = !decide (lim a 3 = lim b 3) := i_ne hA
  have l3 : A.cmp .lss (lim a 3) (lim b 3) = decide (lim a 3 < lim b 3) := i_lt hA
  have n4 : A.cmp .neq (lim a 4) (lim b 4) = !decide (lim a 4 = lim b 4) := i_ne hA
  have l4 : A.cmp .lss (lim a 4) (lim b 4) = decide (lim a 4 < lim b 4) := i_lt hA
  have n5 : A.cmp .neq (lim a 5) (lim b 5) = !decide (lim a 5 = lim b 5) := i_ne hA
  have l5 : A.cmp .lss (lim a 5) (lim b 5) = decide (lim a 5 < lim b 5) := i_lt hA
  by_cases h5 : lim a 5 = lim b 5
  rotate_left
  · rw [decide_eq_false h5] at n5
    refine ABr.t n5 ?_
    cbv
    refine l5.trans (ht ▸ ?_)
    refine decide_eq_decide.2 (top 5 (by decide) (fun i h1 h2 => ?_) h5)
    rcases (by omega : i = 0 ∨ i = 1 ∨ i = 2 ∨ i = 3 ∨ i = 4 ∨ i = 5) with rfl | rfl | rfl | rfl | rfl | rfl
    all_goals first | assumption | (exfalso; omega)
  rw [decide_eq_true h5] at n5
  refine ABr.f n5 ?_
  cbv
  by_cases h4 : lim a 4 = lim b 4
  rotate_left
  · rw [decide_eq_false h4] at n4
    refine ABr.t n4 ?_
    cbv
    refine l4.trans (ht ▸ ?_)
    refine decide_eq_decide.2 (top 4 (by decide) (fun i h1 h2 => ?_) h4)
    rcases (by omega : i = 0 ∨ i = 1 ∨ i = 2 ∨ i = 3 ∨ i = 4 ∨ i = 5) with rfl | rfl | rfl | rfl | rfl | rfl
    all_goals first | assumption | (exfalso; omega)
  rw [decide_eq_true h4] at n4
  refine ABr.f n4 ?_
  cbv
  by_cases h3 : lim a 3 = lim b 3
  rotate_left
  · rw [decide_eq_false h3] at n3
    refine ABr.t n3 ?_
    cbv
    refine l3.trans (ht ▸ ?_)
    refine decide_eq_decide.2 (top 3 (by decide) (fun i h1 h2 => ?_) h3)
    rcases (by omega : i = 0 ∨ i = 1 ∨ i = 2 ∨ i = 3 ∨ i = 4 ∨ i = 5) with rfl | rfl | rfl | rfl | rfl | rfl
    all_goals first | assumption | (exfalso; omega)
  rw [decide_eq_true h3] at n3
  refine ABr.f n3 ?_
  cbv
  by_cases h2 : lim a 2 = lim b 2
  rotate_left
  · rw [decide_eq_false h2] at n2
    refine ABr.t n2 ?_
    cbv
    refine l2.trans (ht ▸ ?_)
    refine decide_eq_decide.2 (top 2 (by decide) (fun i h1 h2 => ?_) h2)
    rcases (by omega : i = 0 ∨ i = 1 ∨ i = 2 ∨ i = 3 ∨ i = 4 ∨ i = 5) with rfl | rfl | rfl | rfl | rfl | rfl
    all_goals first | assumption | (exfalso; omega)
  rw [decide_eq_true h2] at n2
  refine ABr.f n2 ?_
  cbv
  by_cases h1 : lim a 1 = lim b 1
  rotate_left
  · rw [decide_eq_false h1] at n1
    refine ABr.t n1 ?_
    cbv
    refine l1.trans (ht ▸ ?_)
    refine decide_eq_decide.2 (top 1 (by decide) (fun i h1 h2 => ?_) h1)
    rcases (by omega : i = 0 ∨ i = 1 ∨ i = 2 ∨ i = 3 ∨ i = 4 ∨ i = 5) with rfl | rfl | rfl | rfl | rfl | rfl
    all_goals first | assumption | (exfalso; omega)
  rw [decide_eq_true h1] at n1
  refine ABr.f n1 ?_
  cbv
  by_cases h0 : lim a 0 = lim b 0
  rotate_left
  · rw [decide_eq_false h0] at n0
    refine ABr.t n0 ?_
    cbv
    refine l0.trans (ht ▸ ?_)
    refine decide_eq_decide.2 (top 0 (by decide) (fun i h1 h2 => ?_) h0)
    rcases (by omega : i = 0 ∨ i = 1 ∨ i = 2 ∨ i = 3 ∨ i = 4 ∨ i = 5) with rfl | rfl | rfl | rfl | rfl | rfl
    all_goals first | assumption | (exfalso; omega)
  rw [decide_eq_true h0] at n0
  refine ABr.f n0 ?_
  cbv
  rw [ht, decide_eq_false (by rw [inj ⟨h0, h1, h2, h3, h4, h5⟩]; exact Nat.lt_irrefl _)]
end Go.Proofs.YtmholgclgamnnaaGreat
end
