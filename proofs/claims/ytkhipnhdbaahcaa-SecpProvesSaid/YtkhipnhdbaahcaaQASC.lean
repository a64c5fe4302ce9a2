import Derived.Test.YtkhipnhdbaahcaaQAGF
import Derived.Test.YtkhipnhdbaahcaaQAP
import Derived.Test.YtkhipnhdbaahcaaQAGA
set_option linter.unusedVariables false
set_option linter.unusedSimpArgs false
set_option linter.unusedSectionVars false
set_option maxRecDepth 100000
set_option exponentiation.threshold 2000
set_option maxHeartbeats 4000000
section
namespace Gp
open Cv
def sj {α : Type} (O : Ops α) (l : α) (p : Jac α) : Jac α := ⟨O.mul (O.mul l l) p.x, O.mul (O.mul (O.mul l l) l) p.y, O.mul l p.z⟩
def mix {α : Type} (O : Ops α) (p : Jac α) (qx qy : α) : Jac α :=
 let pz := O.mul p.z p.z
 let qz := O.mul O.one O.one
 let u := O.mul p.x qz
 let v := O.mul qx pz
 let s := O.mul (O.mul p.y qz) O.one
 let t := O.mul (O.mul qy pz) p.z
 let h := O.sub v u
 let r := O.sub t s
 let hh := O.mul h h
 let hhh := O.mul hh h
 let w := O.mul u hh
 let x := O.sub (O.sub (O.mul r r) hhh) (O.add w w)
 ⟨x, O.sub (O.mul r (O.sub w x)) (O.mul s hhh), O.mul (O.mul p.z O.one) h⟩
def dbE {α : Type} (O : Ops α) (p : Jac α) : Jac α :=
 let a := O.mul p.x p.x
 let b := O.mul p.y p.y
 let s := O.mul p.x b
 let s := O.add s s
 let s := O.add s s
 let e := O.add (O.add a a) a
 let c := O.mul b b
 let c := O.add c c
 let c := O.add c c
 let c := O.add c c
 let x := O.sub (O.mul e e) (O.add s s)
 let z := O.mul p.y p.z
 ⟨x, O.sub (O.mul e (O.sub s x)) c, O.add z z⟩
def eJ : Ops E := ⟨.a, .s, .m, fun x => x, .s .o .o, .o⟩
def jE : Jac E := ⟨w1, w2, w3⟩
def l3 : E := .m (.m w0 w0) w0
def l4 : E := .m (.m w0 w0) (.m w0 w0)
theorem chk_m1 : (E.s (mix eJ (sj eJ w0 jE) w4 w5).x (sj eJ l3 (mix eJ jE w4 w5)).x).chk = true := by decide +kernel
theorem chk_m2 : (E.s (mix eJ (sj eJ w0 jE) w4 w5).y (sj eJ l3 (mix eJ jE w4 w5)).y).chk = true := by decide +kernel
theorem chk_m3 : (E.s (mix eJ (sj eJ w0 jE) w4 w5).z (sj eJ l3 (mix eJ jE w4 w5)).z).chk = true := by decide +kernel
theorem chk_e1 : (E.s (dbE eJ (sj eJ w0 jE)).x (sj eJ l4 (dbE eJ jE)).x).chk = true := by decide +kernel
theorem chk_e2 : (E.s (dbE eJ (sj eJ w0 jE)).y (sj eJ l4 (dbE eJ jE)).y).chk = true := by decide +kernel
theorem chk_e3 : (E.s (dbE eJ (sj eJ w0 jE)).z (sj eJ l4 (dbE eJ jE)).z).chk = true := by decide +kernel
theorem chk_u : (E.s (.m (sj eJ w0 jE).x (.m .o .o)) (.m (.m jE.x (.m .o .o)) (.m w0 w0))).chk = true := by decide +kernel
theorem chk_v : (E.s (.m w4 (.m (sj eJ w0 jE).z (sj eJ w0 jE).z)) (.m (.m w4 (.m jE.z jE.z)) (.m w0 w0))).chk = true := by decide +kernel
theorem chk_s : (E.s (.m (.m (sj eJ w0 jE).y (.m .o .o)) .o) (.m (.m (.m jE.y (.m .o .o)) .o) (.m (.m w0 w0) w0))).chk = true := by decide +kernel
theorem chk_t : (E.s (.m (.m w5 (.m (sj eJ w0 jE).z (sj eJ w0 jE).z)) (sj eJ w0 jE).z) (.m (.m (.m w5 (.m jE.z jE.z)) jE.z) (.m (.m w0 w0) w0))).chk = true := by decide +kernel
theorem chk_i1 : (E.s (.m (.m (.m w0 w0) w1) (.m w2 w2)) (.m w1 (.m (.m w0 w2) (.m w0 w2)))).chk = true := by decide +kernel
theorem chk_i2 : (E.s (.m (.m (.m (.m w0 w0) w0) w1) (.m w2 (.m w2 w2))) (.m w1 (.m (.m w0 w2) (.m (.m w0 w2) (.m w0 w2))))).chk = true := by decide +kernel
theorem chk_i3 : (E.s (.m (.m w1 (.m w2 w2)) w2) (.m w1 (.m w2 (.m w2 w2)))).chk = true := by decide +kernel
theorem chk_i4 : (E.s (.m (.m w0 w0) (.m w1 (.m w2 w2))) (.m w1 (.m (.m w0 w2) (.m w0 w2)))).chk = true := by decide +kernel
theorem chk_i5 : (E.s (.m (.m (.m w0 w0) w0) (.m (.m w1 (.m w2 w2)) w2)) (.m w1 (.m (.m w0 w2) (.m (.m w0 w2) (.m w0 w2))))).chk = true := by decide +kernel
section
variable {α : Type} [DecidableEq α] {O : Ops α} (F : Fd O)
include F
theorem mix_sj (l : α) (p : Jac α) (x y : α) : mix O (sj O l p) x y = sj O (O.mul (O.mul l l) l) (mix O p x y) := by
 obtain ⟨px, py, pz⟩ := p
 have h1 := F.eq_of_sub (van0 F.cr chk_m1 l px py pz x y O.zero O.zero)
 have h2 := F.eq_of_sub (van0 F.cr chk_m2 l px py pz x y O.zero O.zero)
 have h3 := F.eq_of_sub (van0 F.cr chk_m3 l px py pz x y O.zero O.zero)
 exact (Jac.mk.injEq ..).mpr ⟨h1, h2, h3⟩
theorem dbl_sj (l : α) (p : Jac α) : dbl O (sj O l p) = sj O (O.mul (O.mul l l) (O.mul l l)) (dbl O p) := by
 obtain ⟨px, py, pz⟩ := p
 have h1 := F.eq_of_sub (van0 F.cr chk_e1 l px py pz O.zero O.zero O.zero O.zero)
 have h2 := F.eq_of_sub (van0 F.cr chk_e2 l px py pz O.zero O.zero O.zero O.zero)
 have h3 := F.eq_of_sub (van0 F.cr chk_e3 l px py pz O.zero O.zero O.zero O.zero)
 exact (Jac.mk.injEq ..).mpr ⟨h1, h2, h3⟩
theorem sj_one (p : Jac α) : sj O O.one p = p := by
 obtain ⟨px, py, pz⟩ := p
 simp only [sj, F.one_mul]
theorem sj_inf (l : α) : sj O l (inf O) = inf O := by
 simp only [sj, inf, F.mul_zero]
theorem down_sj {l : α} (hl : l ≠ O.zero) (p : Jac α) : down O (sj O l p) = down O p := by
 obtain ⟨x, y, z⟩ := p
 unfold down sj
 dsimp only
 by_cases hz : z = O.zero
 . rw [if_pos (by rw [hz, F.mul_zero]), if_pos hz]
 . have hlz := F.mne hl hz
   rw [if_neg hlz, if_neg hz]
   have e1 : O.mul (O.mul l (O.inv (O.mul l z))) z = O.mul (O.inv z) z := by
     rw [F.mul_assoc, F.mul_comm (O.inv (O.mul l z)) z, ← F.mul_assoc, F.inv _ hlz, F.mul_comm, F.inv _ hz]
   have e2 : O.mul l (O.inv (O.mul l z)) = O.inv z := F.cancel hz e1
   generalize O.inv (O.mul l z) = j at *
   have h1 := F.eq_of_sub (van0 F.cr chk_i1 l x j O.zero O.zero O.zero O.zero O.zero)
   have h2 := F.eq_of_sub (van0 F.cr chk_i2 l y j O.zero O.zero O.zero O.zero O.zero)
   have h3 := F.eq_of_sub (van0 F.cr chk_i3 l (O.mul (O.mul (O.mul l l) l) y) j O.zero O.zero O.zero O.zero O.zero)
   have h4 := F.eq_of_sub (van0 F.cr chk_i3 l y (O.inv z) O.zero O.zero O.zero O.zero O.zero)
   have h1' : O.mul (O.mul (O.mul l l) x) (O.mul j j) = O.mul x (O.mul (O.mul l j) (O.mul l j)) := h1
   have h2' : O.mul (O.mul (O.mul (O.mul l l) l) y) (O.mul j (O.mul j j)) = O.mul y (O.mul (O.mul l j) (O.mul (O.mul l j) (O.mul l j))) := h2
   have h3' : O.mul (O.mul (O.mul (O.mul (O.mul l l) l) y) (O.mul j j)) j = O.mul (O.mul (O.mul (O.mul l l) l) y) (O.mul j (O.mul j j)) := h3
   have h4' : O.mul (O.mul y (O.mul (O.inv z) (O.inv z))) (O.inv z) = O.mul y (O.mul (O.inv z) (O.mul (O.inv z) (O.inv z))) := h4
   rw [h1', h3', h2', e2, h4']
theorem up_down {p : Jac α} (hz : p.z ≠ O.zero) : p = sj O p.z (up O (down O p)) := by
 obtain ⟨x, y, z⟩ := p
 dsimp only at hz
 unfold down
 rw [if_neg hz]
 have hi := F.inv z hz
 generalize O.inv z = i at *
 have h1 : O.mul (O.mul z z) (O.mul x (O.mul i i)) = O.mul x (O.mul (O.mul z i) (O.mul z i)) := F.eq_of_sub (van0 F.cr chk_i4 z x i O.zero O.zero O.zero O.zero O.zero)
 have h2 : O.mul (O.mul (O.mul z z) z) (O.mul (O.mul y (O.mul i i)) i) = O.mul y (O.mul (O.mul z i) (O.mul (O.mul z i) (O.mul z i))) := F.eq_of_sub (van0 F.cr chk_i5 z y i O.zero O.zero O.zero O.zero O.zero)
 rw [hi, F.one_mul, F.mul_one] at h1
 rw [hi, F.one_mul, F.one_mul, F.mul_one] at h2
 show _ = (⟨O.mul (O.mul z z) (O.mul x (O.mul i i)), O.mul (O.mul (O.mul z z) z) (O.mul (O.mul y (O.mul i i)) i), O.mul z O.one⟩ : Jac α)
 rw [h1, h2, F.mul_one]
theorem plus_sj {l : α} (hl : l ≠ O.zero) (p : Jac α) (x y : α) : ∃ m, m ≠ O.zero ∧ plus O (sj O l p) ⟨x, y, O.one⟩ = sj O m (plus O p ⟨x, y, O.one⟩) := by
 have hm := mix_sj F l p x y
 have hd := dbl_sj F l p
 by_cases hz : p.z = O.zero
 . refine ⟨O.one, F.ne, ?_⟩
   have hz' : (sj O l p).z = O.zero := by show O.mul l p.z = _; rw [hz, F.mul_zero]
   unfold plus
   rw [if_pos hz', if_pos hz, sj_one F]
 . have hz' : (sj O l p).z ≠ O.zero := F.mne hl hz
   obtain ⟨px, py, pz⟩ := p
   have hu : O.mul (sj O l ⟨px, py, pz⟩).x (O.mul O.one O.one) = O.mul (O.mul px (O.mul O.one O.one)) (O.mul l l) := F.eq_of_sub (van0 F.cr chk_u l px py pz x y O.zero O.zero)
   have hv : O.mul x (O.mul (sj O l ⟨px, py, pz⟩).z (sj O l ⟨px, py, pz⟩).z) = O.mul (O.mul x (O.mul pz pz)) (O.mul l l) := F.eq_of_sub (van0 F.cr chk_v l px py pz x y O.zero O.zero)
   have hs : O.mul (O.mul (sj O l ⟨px, py, pz⟩).y (O.mul O.one O.one)) O.one = O.mul (O.mul (O.mul py (O.mul O.one O.one)) O.one) (O.mul (O.mul l l) l) := F.eq_of_sub (van0 F.cr chk_s l px py pz x y O.zero O.zero)
   have ht : O.mul (O.mul y (O.mul (sj O l ⟨px, py, pz⟩).z (sj O l ⟨px, py, pz⟩).z)) (sj O l ⟨px, py, pz⟩).z = O.mul (O.mul (O.mul y (O.mul pz pz)) pz) (O.mul (O.mul l l) l) := F.eq_of_sub (van0 F.cr chk_t l px py pz x y O.zero O.zero)
   have l2 := F.mne hl hl
   have l3' := F.mne l2 hl
   unfold plus
   dsimp only at *
   rw [if_neg hz', if_neg hz, if_neg F.ne, if_neg F.ne]
   by_cases h1 : O.mul px (O.mul O.one O.one) = O.mul x (O.mul pz pz)
   . rw [if_pos (by rw [hu, hv, h1]), if_pos h1]
     by_cases h2 : O.mul (O.mul py (O.mul O.one O.one)) O.one = O.mul (O.mul y (O.mul pz pz)) pz
     . rw [if_pos (by rw [hs, ht, h2]), if_pos h2]
       exact ⟨_, F.mne l2 l2, hd⟩
     . rw [if_neg (fun e => h2 (F.cancel l3' (by rw [← hs, ← ht, e]))), if_neg h2]
       exact ⟨O.one, F.ne, (sj_inf F _).symm⟩
   . rw [if_neg (fun e => h1 (F.cancel l2 (by rw [← hu, ← hv, e]))), if_neg h1]
     exact ⟨_, l3', hm⟩
end
def mn {α : Type} [DecidableEq α] (O : Ops α) (P : Pt α) : Nat → Pt α
 | 0 => none
 | k + 1 => sumR O (mn O P k) P
section
variable {α : Type} [DecidableEq α] {O : Ops α} (F : Fd O) (L : Laws O) {b : α} (N : No2 O b) (hA : ∀ P Q : Pt α, onC O b P → onC O b Q → down O (plus O (up O P) (up O Q)) = sumR O P Q)
include F L N hA
theorem dbl_sum (p : Jac α) (hp : onC O b (down O p)) : down O (dbl O p) = sumR O (down O p) (down O p) := by
 by_cases hz : p.z = O.zero
 . have h1 : down O p = none := if_pos hz
   rw [h1]
   exact if_pos (dbl_inf L (.inl hz))
 . have e := up_down F hz
   obtain ⟨q, hq⟩ : ∃ q, q = down O p := ⟨_, rfl⟩
   rw [← hq] at e hp
   have h2 : down O (dbl O p) = down O (dbl O (up O q)) := by rw [e, dbl_sj F, down_sj F (F.mne (F.mne hz hz) (F.mne hz hz))]
   rw [h2, ← hq, ← hA q q hp hp]
   obtain _ | ⟨x, y⟩ := q
   . have : down O p = none := hq.symm
     unfold down at this
     rw [if_neg hz] at this
     cases this
   . unfold plus up
     dsimp only
     rw [if_neg F.ne, if_neg F.ne, if_pos rfl, if_pos rfl]
theorem plus_sum (p : Jac α) (x y : α) (hp : onC O b (down O p)) (hq : onC O b (some (x, y))) : down O (plus O p ⟨x, y, O.one⟩) = sumR O (down O p) (some (x, y)) := by
 by_cases hz : p.z = O.zero
 . have h1 : down O p = none := if_pos hz
   have h2 := hA none (some (x, y)) trivial hq
   rw [h1, ← h2]
   unfold plus
   rw [if_pos hz, if_pos (show (up O (none : Pt α)).z = O.zero from rfl)]
   rfl
 . have e := up_down F hz
   obtain ⟨q, hq'⟩ : ∃ q, q = down O p := ⟨_, rfl⟩
   rw [← hq'] at e hp
   obtain ⟨m, hm, h⟩ := plus_sj F hz (up O q) x y
   rw [← e] at h
   rw [h, down_sj F hm, ← hq']
   exact hA q (some (x, y)) hp hq
theorem mn_on {P : Pt α} (hP : onC O b P) : ∀ k, onC O b (mn O P k)
 | 0 => trivial
 | k + 1 => sum_on F N (mn_on hP k) hP
theorem mn_add {P : Pt α} (hP : onC O b P) (k : Nat) : ∀ l, sumR O (mn O P k) (mn O P l) = mn O P (k + l)
 | 0 => by show sumR O (mn O P k) none = mn O P k; cases mn O P k <;> rfl
 | l + 1 => by
   show sumR O (mn O P k) (sumR O (mn O P l) P) = sumR O (mn O P (k + l)) P
   rw [← mn_add hP k l, sum_assoc F N (mn_on F L N hA hP k) (mn_on F L N hA hP l) hP]
theorem tm_mn {x y : α} (hP : onC O b (some (x, y))) {k n : Nat} (hk : k < 2 ^ n) : ∀ i, i ≤ n → down O (tm O ⟨x, y, O.one⟩ k n i) = mn O (some (x, y)) (k / 2 ^ (n - i))
 | 0, _ => by
   rw [Nat.sub_zero, Nat.div_eq_of_lt hk]
   exact if_pos rfl
 | i + 1, hi => by
   have ih := tm_mn hP hk i (by omega)
   obtain ⟨j, hj⟩ : ∃ j, n = i + 1 + j := ⟨n - (i + 1), by omega⟩
   have e1 : n - (i + 1) = j := by omega
   have e2 : n - 1 - i = j := by omega
   have e3 : n - i = j + 1 := by omega
   have e4 : k / 2 ^ (j + 1) = k / 2 ^ j / 2 := by rw [Nat.pow_succ, Nat.div_div_eq_div_mul]
   rw [e3, e4] at ih
   have hon := mn_on F L N hA hP (k / 2 ^ j / 2)
   have hd := dbl_sum F L N hA (tm O ⟨x, y, O.one⟩ k n i) (by rw [ih]; exact hon)
   rw [ih, mn_add F L N hA hP] at hd
   rw [e1, tm, e2]
   by_cases hb : k / 2 ^ j % 2 = 1
   . rw [if_pos hb, plus_sum F L N hA _ _ _ (by rw [hd]; exact mn_on F L N hA hP _) hP, hd]
     show mn O (some (x, y)) (k / 2 ^ j / 2 + k / 2 ^ j / 2 + 1) = _
     congr 1
     omega
   . rw [if_neg hb, hd]
     congr 1
     omega
end
end Gp
end
section
namespace Cv
open NT
variable {p : Nat} [NeZero p]
theorem val_one : ((1 : Fin p)).val = 1 % p := rfl
theorem val_zero : ((0 : Fin p)).val = 0 := Nat.zero_mod p
def inv1 (a : Fin p) : Fin p := ⟨a.val ^ (p - 2) % p, Nat.mod_lt _ (Nat.pos_of_ne_zero (NeZero.ne p))⟩
theorem inv1_ok (hp : Pr p) (h2 : 2 < p) (a : Fin p) (h : a ≠ 0) : a * inv1 a = 1 := by
 have h0 : a.val ≠ 0 := fun e => h (Fin.ext (by rw [e]; rfl))
 have hd : ¬ p ∣ a.val := fun h => by have := Nat.le_of_dvd (Nat.pos_of_ne_zero h0) h; have := a.isLt; omega
 have hf := fermat hp hd
 refine Fin.ext ?_
 rw [Fin.val_mul, val_one]
 show a.val * (a.val ^ (p - 2) % p) % p = _
 rw [Nat.mul_mod_mod, Nat.mul_comm, ← Nat.pow_succ, show (p - 2).succ = p - 1 by omega, hf, Nat.mod_eq_of_lt (by omega)]
end Cv
end
section
namespace Gp
open Cv NT
section
variable {p : Nat} [NeZero p]
theorem one_ne0 (h2 : 2 < p) : (1 : Fin p) ≠ 0 := fun h => by
 have := congrArg Fin.val h
 rw [val_one, val_zero, Nat.mod_eq_of_lt (by omega)] at this
 omega
theorem two_ne0 (h2 : 2 < p) : (1 : Fin p) + 1 ≠ 0 := fun h => by
 have := congrArg Fin.val h
 rw [Fin.val_add, val_one, val_zero, Nat.mod_eq_of_lt (show 1 < p by omega), Nat.mod_eq_of_lt (show 1 + 1 < p by omega)] at this
 omega
theorem fd1 (hp : Pr p) (h2 : 2 < p) : Fd (ops1 (inv1 (p := p))) where
 cr :=
   { add_comm := fun a b => show a + b = b + a by grind
     add_assoc := fun a b c => show a + b + c = a + (b + c) by grind
     zero_add := fun a => show 0 + a = a by grind
     sub_add := fun a b => show a - b + b = a by grind
     mul_comm := fun a b => show a * b = b * a by grind
     mul_assoc := fun a b c => show a * b * c = a * (b * c) by grind
     one_mul := fun a => show 1 * a = a by grind
     mul_add := fun a b c => show a * (b + c) = a * b + a * c by grind }
 inv := fun a h => inv1_ok hp h2 a h
 ne := one_ne0 h2
 two := two_ne0 h2
theorem no_cube (hp : Pr p) {f : Nat} {c : Fin p} (hc : c ≠ 0) (h3 : p % 3 = 1) (hf : (p - 1) / 3 < 2 ^ f) (h : pm p f c.val ((p - 1) / 3) ≠ 1) (x : Fin p) : x * x * x ≠ c := fun e => by
 rw [pm_eq p f _ _ hf] at h
 refine h ?_
 have hv : c.val = x.val ^ 3 % p := by
   rw [← e, Fin.val_mul, Fin.val_mul, Nat.mod_mul_mod]
   congr 1
   rw [Nat.pow_succ, Nat.pow_two]
 have hx : ¬ p ∣ x.val := fun hd => hc (by
   have := Nat.eq_zero_of_dvd_of_lt hd x.isLt
   refine Fin.ext ?_
   rw [hv, this, val_zero]
   exact Nat.zero_mod p)
 rw [hv, ← Nat.pow_mod, ← Nat.pow_mul, show 3 * ((p - 1) / 3) = p - 1 by omega]
 exact fermat hp hx
theorem no2_1 (hp : Pr p) {f : Nat} {b : Fin p} (hc : 0 - b ≠ 0) (h3 : p % 3 = 1) (hf : (p - 1) / 3 < 2 ^ f) (h : pm p f (0 - b).val ((p - 1) / 3) ≠ 1) : No2 (ops1 (inv1 (p := p))) b := fun x e => by
 have e : x * x * x + b = 0 := e
 exact no_cube hp hc h3 hf h x (by grind)
end
end Gp
end
section
namespace Gp
open Cv NT
theorem pigeon : ∀ (m n : Nat) (f : Nat → Nat), (∀ i, i < n → f i < m) → (∀ i j, i < n → j < n → f i = f j → i = j) → n ≤ m
 | 0, 0, _, _, _ => Nat.le_refl _
 | 0, n + 1, f, h, _ => absurd (h 0 (by omega)) (Nat.not_lt_zero _)
 | m + 1, 0, _, _, _ => Nat.zero_le _
 | m + 1, n + 1, f, h, inj => by
   by_cases hm : ∃ i, i < n + 1 ∧ f i = m
   . obtain ⟨i0, hi0, hf⟩ := hm
     have := pigeon m n (fun j => f (if j = i0 then n else j)) (fun j hj => by
       have h1 := h (if j = i0 then n else j) (by split <;> omega)
       have h2 : f (if j = i0 then n else j) ≠ m := fun e => by
         have := inj _ _ (by split <;> omega) hi0 (e.trans hf.symm)
         split at this <;> omega
       show f (if j = i0 then n else j) < m
       omega) (fun i j hi hj e => by
       have := inj _ _ (by split <;> omega) (by split <;> omega) e
       split at this <;> split at this <;> omega)
     omega
   . have := pigeon m (n + 1) f (fun i hi => by
       have h1 := h i hi
       have h2 : f i ≠ m := fun e => hm ⟨i, hi, e⟩
       omega) inj
     omega
section
variable {α : Type} [DecidableEq α] {O : Ops α} (F : Fd O) {b : α} (N : No2 O b)
include F N
theorem sum_none (P : Pt α) : sumR O P none = P := by cases P <;> rfl
theorem none_sum (P : Pt α) : sumR O none P = P := by cases P <;> rfl
theorem neg_sum {P : Pt α} (hP : onC O b P) : sumR O (ngp O P) P = none := by
 rw [sum_comm F N (onC_ng F hP) hP]; exact sum_neg F P
theorem sum_cancel {P Q R : Pt α} (hP : onC O b P) (hQ : onC O b Q) (hR : onC O b R) (h : sumR O P Q = sumR O P R) : Q = R := by
 have h := congrArg (sumR O (ngp O P)) h
 rw [← sum_assoc F N (onC_ng F hP) hP hQ, ← sum_assoc F N (onC_ng F hP) hP hR, neg_sum F N hP] at h
 rwa [none_sum F N, none_sum F N] at h
theorem mon {P : Pt α} (hP : onC O b P) : ∀ k, onC O b (mn O P k)
 | 0 => trivial
 | k + 1 => sum_on F N (mon hP k) hP
theorem madd {P : Pt α} (hP : onC O b P) (k : Nat) : ∀ l, sumR O (mn O P k) (mn O P l) = mn O P (k + l)
 | 0 => sum_none F N _
 | l + 1 => by
   show sumR O (mn O P k) (sumR O (mn O P l) P) = sumR O (mn O P (k + l)) P
   rw [← sum_assoc F N (mon F N hP k) (mon F N hP l) hP, madd hP k l]
theorem mn_mul {P : Pt α} (hP : onC O b P) (k : Nat) : ∀ l, mn O (mn O P k) l = mn O P (k * l)
 | 0 => rfl
 | l + 1 => by
   show sumR O (mn O (mn O P k) l) (mn O P k) = _
   rw [mn_mul hP k l, madd F N hP, Nat.mul_succ]
theorem mn_none : ∀ l, mn O (none : Pt α) l = none
 | 0 => rfl
 | l + 1 => by show sumR O (mn O none l) none = none; rw [mn_none l]; rfl
theorem mn_one (P : Pt α) : mn O P 1 = P := by show sumR O none P = P; exact none_sum F N P
theorem two_tor {Q : Pt α} (hQ : onC O b Q) (h : sumR O Q Q = none) : Q = none := by
 have e : Q = ngp O Q := by
   have h1 := sum_assoc F N hQ hQ (onC_ng F hQ)
   rw [h, none_sum F N, sum_neg F, sum_none F N] at h1
   exact h1.symm
 obtain _ | ⟨x, y⟩ := Q
 . rfl
 . exfalso
   have hy : y = O.sub O.zero y := congrArg (fun q : Pt α => match q with | some (_, y) => y | none => y) e
   have h2 := F.add_neg y
   rw [← hy] at h2
   exact F.twice_ne (y_ne F N hQ) h2
variable {G : Pt α} (hG : onC O b G) {n : Nat} (hn : Pr n) (h0 : mn O G n = none) (hG0 : G ≠ none)
include hG hn h0 hG0
theorem mn_mod (k : Nat) : mn O G (k % n) = mn O G k := by
 have h := madd F N hG (n * (k / n)) (k % n)
 rw [Nat.div_add_mod, ← mn_mul F N hG, h0, mn_none F N, none_sum F N] at h
 exact h
theorem mn_inj {i j : Nat} (hi : i < n) (hj : j < n) (h : mn O G i = mn O G j) : i = j := by
 have key : ∀ i j, i < j → j < n → mn O G i = mn O G j → False := fun i j hij hj h => by
   have hd : mn O G (j - i) = none := by
     have h1 := madd F N hG i (j - i)
     rw [show i + (j - i) = j by omega, ← h] at h1
     exact sum_cancel F N (mon F N hG i) (mon F N hG _) trivial (h1.trans (sum_none F N _).symm)
   have hf := fermat hn (a := j - i) (fun hd => by have := Nat.le_of_dvd (by omega) hd; omega)
   have h2 : mn O G ((j - i) * (j - i) ^ (n - 2)) = none := by rw [← mn_mul F N hG, hd, mn_none F N]
   have hn2 := hn.1
   have h3 := mn_mod F N hG hn h0 hG0 ((j - i) * (j - i) ^ (n - 2))
   rw [h2, Nat.mul_comm, ← Nat.pow_succ, show (n - 2).succ = n - 1 by omega, hf, mn_one F N] at h3
   exact hG0 h3
 rcases Nat.lt_trichotomy i j with h1 | h1 | h1
 . exact (key i j h1 hj h).elim
 . exact h1
 . exact (key j i h1 hi h.symm).elim
theorem half_in (hodd : n % 2 = 1) {P : Pt α} (hP : onC O b P) {k : Nat} (h : sumR O P P = mn O G k) : ∃ l, P = mn O G l := by
 obtain ⟨m, hm⟩ : ∃ m, (k + 2 * m) % n = 0 := by
   have hk := Nat.mod_lt k (show 0 < n by omega)
   have e := Nat.div_add_mod k n
   by_cases hp : k % n % 2 = 0
   . exact ⟨n - k % n / 2, by
       have : k + 2 * (n - k % n / 2) = n * (k / n + 2) := by rw [Nat.mul_add]; omega
       rw [this, Nat.mul_mod_right]⟩
   . exact ⟨n - (k % n + n) / 2, by
       have : k + 2 * (n - (k % n + n) / 2) = n * (k / n + 1) := by rw [Nat.mul_add]; omega
       rw [this, Nat.mul_mod_right]⟩
 have hM := mon F N hG m
 have hQ := sum_on F N hP hM
 have e : sumR O (sumR O P (mn O G m)) (sumR O P (mn O G m)) = none := by
   rw [sum_assoc F N hP hM hQ, sum_comm F N hP hM, ← sum_assoc F N hM hM hP, madd F N hG, sum_comm F N (mon F N hG _) hP, ← sum_assoc F N hP hP (mon F N hG _), h, madd F N hG, ← mn_mod F N hG hn h0 hG0, show k + (m + m) = k + 2 * m by omega, hm]
   rfl
 have hz := two_tor F N hQ e
 have hl := mn_mod F N hG hn h0 hG0 (m + (n - m % n))
 refine ⟨n - m % n, ?_⟩
 have h1 : sumR O (mn O G m) (mn O G (n - m % n)) = none := by
   rw [madd F N hG, ← hl]
   have hk := Nat.mod_lt m (show 0 < n by omega)
   have e := Nat.div_add_mod m n
   rw [show m + (n - m % n) = n * (m / n + 1) by rw [Nat.mul_add]; omega, Nat.mul_mod_right]
   rfl
 rw [sum_comm F N hP hM] at hz
 exact sum_cancel F N hM hP (mon F N hG _) (hz.trans h1.symm)
end
section
variable {p : Nat} [NeZero p]
def cod : Pt (Fin p) → Nat
 | none => 2 * p
 | some (x, y) => 2 * x.val + (if 2 * y.val < p then 0 else 1)
theorem cod_lt (P : Pt (Fin p)) : cod P < 2 * p + 1 := by
 obtain _ | ⟨x, y⟩ := P
 . exact Nat.lt_succ_self _
 . have := x.isLt
   show 2 * x.val + (if 2 * y.val < p then 0 else 1) < _
   split <;> omega
theorem cod_inj (hp : Pr p) (h2 : 2 < p) (ho : p % 2 = 1) {b : Fin p} {P Q : Pt (Fin p)} (hP : onC (ops1 inv1) b P) (hQ : onC (ops1 inv1) b Q) (h : cod P = cod Q) : P = Q := by
 have F := fd1 hp h2
 obtain _ | ⟨x, y⟩ := P <;> obtain _ | ⟨u, v⟩ := Q
 . rfl
 . have := u.isLt
   have h : 2 * p = 2 * u.val + (if 2 * v.val < p then 0 else 1) := h
   split at h <;> omega
 . have := x.isLt
   have h : 2 * x.val + (if 2 * y.val < p then 0 else 1) = 2 * p := h
   split at h <;> omega
 . have h : 2 * x.val + (if 2 * y.val < p then 0 else 1) = 2 * u.val + (if 2 * v.val < p then 0 else 1) := h
   have hx : x = u := Fin.ext (by split at h <;> split at h <;> omega)
   subst hx
   have hP : y * y = x * x * x + b := hP
   have hQ : v * v = x * x * x + b := hQ
   have e : (y - v) * (y + v) = 0 := by grind
   rcases F.dom (a := y - v) (b := y + v) e with e | e
   . have e : y - v = 0 := e
     have : y = v := by grind
     rw [this]
   . have e : y + v = 0 := e
     by_cases h0 : y = 0
     . have : v = 0 := by grind
       rw [h0, this]
     . exfalso
       have hv : v = 0 - y := by grind
       have hy0 : y.val ≠ 0 := fun e => h0 (Fin.ext e)
       have hyl := y.isLt
       have hvv : v.val = p - y.val := by
         have e1 : (0 - y).val = (p - y.val) % p := by rw [Fin.sub_def]; rfl
         rw [hv, e1, Nat.mod_eq_of_lt (by omega)]
       rw [hvv] at h
       split at h <;> split at h <;> omega
theorem order_all (hp : Pr p) (h2 : 2 < p) (ho : p % 2 = 1) {b : Fin p} (N : No2 (ops1 (inv1 (p := p))) b) {G : Pt (Fin p)} (hG : onC (ops1 inv1) b G) {n : Nat} (hn : Pr n) (hodd : n % 2 = 1) (h0 : mn (ops1 inv1) G n = none) (hG0 : G ≠ none)
   (h3 : 2 * p + 1 < 3 * n) {P : Pt (Fin p)} (hP : onC (ops1 inv1) b P) : ∃ k, P = mn (ops1 inv1) G k := by
 have F := fd1 hp h2
 refine Classical.byContradiction fun hno => ?_
 have on := fun {Q : Pt (Fin p)} (h : onC (ops1 inv1) b Q) k => mon F N h k
 have hn0 : 0 < n := by omega
 have key : ∀ q q' r r', q < q' → q' < 3 → r < n → r' < n → sumR (ops1 inv1) (mn (ops1 inv1) P q) (mn (ops1 inv1) G r) = sumR (ops1 inv1) (mn (ops1 inv1) P q') (mn (ops1 inv1) G r') → False := fun q q' r r' hq hq' hr hr' e => by
   have e1 : mn (ops1 inv1) G r = sumR (ops1 inv1) (mn (ops1 inv1) P (q' - q)) (mn (ops1 inv1) G r') := by
     rw [show mn (ops1 inv1) P q' = sumR (ops1 inv1) (mn (ops1 inv1) P q) (mn (ops1 inv1) P (q' - q)) by rw [madd F N hP]; congr 1; omega, sum_assoc F N (on hP _) (on hP _) (on hG _)] at e
     exact sum_cancel F N (on hP _) (on hG _) (sum_on F N (on hP _) (on hG _)) e
   have e2 : mn (ops1 inv1) P (q' - q) = mn (ops1 inv1) G (r + (n - r')) := by
     have h1 : sumR (ops1 inv1) (mn (ops1 inv1) G r') (mn (ops1 inv1) G (n - r')) = none := by rw [madd F N hG, show r' + (n - r') = n by omega, h0]
     rw [← madd F N hG, e1, sum_assoc F N (on hP _) (on hG _) (on hG _), h1, sum_none F N]
   rcases (by omega : q' - q = 1 ∨ q' - q = 2) with hd | hd
   . rw [hd, mn_one F N] at e2; exact hno ⟨_, e2⟩
   . rw [hd] at e2
     have e3 : sumR (ops1 inv1) P P = mn (ops1 inv1) G (r + (n - r')) := by
       rw [← e2]
       show _ = sumR _ (sumR _ none P) P
       rw [none_sum F N]
     exact hno (half_in F N hG hn h0 hG0 hodd hP e3)
 have := pigeon (2 * p + 1) (3 * n) (fun i => cod (sumR (ops1 inv1) (mn (ops1 inv1) P (i / n)) (mn (ops1 inv1) G (i % n)))) (fun i _ => cod_lt _) (fun i j hi hj e => by
   have e := cod_inj hp h2 ho (sum_on F N (on hP _) (on hG _)) (sum_on F N (on hP _) (on hG _)) e
   have hi3 : i / n < 3 := (Nat.div_lt_iff_lt_mul hn0).2 hi
   have hj3 : j / n < 3 := (Nat.div_lt_iff_lt_mul hn0).2 hj
   have hir := Nat.mod_lt i hn0
   have hjr := Nat.mod_lt j hn0
   rcases Nat.lt_trichotomy (i / n) (j / n) with h | h | h
   . exact (key _ _ _ _ h hj3 hir hjr e).elim
   . rw [h] at e
     have e := sum_cancel F N (on hP _) (on hG _) (on hG _) e
     have e := mn_inj F N hG hn h0 hG0 hir hjr e
     have h4 := Nat.div_add_mod i n
     have h5 := Nat.div_add_mod j n
     rw [h, e, h5] at h4
     exact h4.symm
   . exact (key _ _ _ _ h hi3 hjr hir e.symm).elim)
 omega
end
end Gp
end
section
namespace Sk
open Cv NT Gp
abbrev pS : Nat := 115792089237316195423570985008687907853269984665640564039457584007908834671663
abbrev nS : Nat := 115792089237316195423570985008687907852837564279074904382605163141518161494337
instance : NeZero pS := ⟨by decide⟩
instance : NeZero nS := ⟨by decide⟩
def fs (n : Nat) : Fin pS := ⟨n % pS, Nat.mod_lt _ (by decide)⟩
abbrev O := ops1 (inv1 (p := pS))
theorem pPr : Pr pS := prime_secpP
theorem nPr : Pr nS := prime_secpN
theorem F : Fd O := fd1 pPr (by decide)
theorem one_ne : (1 : Fin pS) ≠ 0 := one_ne0 (by decide)
theorem L : Laws O := laws1 _ one_ne
theorem no2 : No2 O (fs 7) := no2_1 (f := 256) pPr (by decide +kernel) (by decide +kernel) (by decide +kernel) (by decide +kernel)
theorem hA : ∀ P Q : Pt (Fin pS), onC O (fs 7) P → onC O (fs 7) Q → down O (plus O (up O P) (up O Q)) = sumR O P Q := add1 inv1 one_ne (fun a h => inv1_ok pPr (by decide) a h) (fs 7)
def gx : Nat := 0x79be667ef9dcbbac55a06295ce870b07029bfcdb2dce28d959f2815b16f81798
def gy : Nat := 0x483ada7726a3c4655da4fbfc0e1108a8fd17b448a68554199c47d08ffb10d4b8
def G : Pt (Fin pS) := some (fs gx, fs gy)
theorem onG : onC O (fs 7) G := by show fs gy * fs gy = fs gx * fs gx * fs gx + fs 7; decide +kernel
theorem nz : (tm O ⟨fs gx, fs gy, O.one⟩ nS 256 256).z = O.zero := by decide +kernel
theorem nG : mn O G nS = none := by
 have h := tm_mn F L no2 hA onG (k := nS) (n := 256) (by decide) 256 (Nat.le_refl _)
 rw [Nat.sub_self, Nat.pow_zero, Nat.div_one] at h
 have e : down O (tm O ⟨fs gx, fs gy, O.one⟩ nS 256 256) = none := by
   have := nz
   generalize tm O ⟨fs gx, fs gy, O.one⟩ nS 256 256 = j at *
   unfold down
   rw [if_pos this]
 exact h.symm.trans e
theorem G_ne : G ≠ none := fun h => by cases h
theorem all {P : Pt (Fin pS)} (hP : onC O (fs 7) P) : ∃ k, P = mn O G k := order_all pPr (by decide) (by decide) no2 onG nPr (by decide) nG G_ne (by decide) hP
theorem kill {P : Pt (Fin pS)} (hP : onC O (fs 7) P) : mn O P nS = none := by
 obtain ⟨k, rfl⟩ := all hP
 rw [mn_mul F no2 onG, Nat.mul_comm, ← mn_mul F no2 onG, nG, mn_none F no2]
theorem on (P : Pt (Fin pS)) (hP : onC O (fs 7) P) (k : Nat) : onC O (fs 7) (mn O P k) := mon F no2 hP k
theorem modn {P : Pt (Fin pS)} (hP : onC O (fs 7) P) (hz : P ≠ none) (k : Nat) : mn O P (k % nS) = mn O P k := mn_mod F no2 hP nPr (kill hP) hz k
theorem inj {P : Pt (Fin pS)} (hP : onC O (fs 7) P) (hz : P ≠ none) {i j : Nat} (hi : i < nS) (hj : j < nS) (h : mn O P i = mn O P j) : i = j := mn_inj F no2 hP nPr (kill hP) hz hi hj h
end Sk
end
section
namespace Sk
open Cv NT Gp
def mF (a : Fin nS) : Pt (Fin pS) := mn O G a.val
def nf (k : Nat) : Fin nS := ⟨k % nS, Nat.mod_lt _ (by decide)⟩
theorem mF_on (a : Fin nS) : onC O (fs 7) (mF a) := on G onG _
theorem mF_nf (k : Nat) : mF (nf k) = mn O G k := modn onG G_ne k
theorem mF_add (a b : Fin nS) : sumR O (mF a) (mF b) = mF (a + b) := by
 unfold mF
 rw [madd F no2 onG, ← modn onG G_ne, Fin.val_add]
theorem mF_mul (a : Fin nS) (k : Nat) : mn O (mF a) k = mF (a * nf k) := by
 unfold mF
 rw [mn_mul F no2 onG, ← modn onG G_ne, Fin.val_mul]
 congr 1
 show a.val * k % nS = a.val * (k % nS) % nS
 rw [Nat.mul_mod_mod]
theorem mF_zero : mF 0 = none := rfl
theorem mF_inj {a b : Fin nS} (h : mF a = mF b) : a = b := Fin.ext (inj onG G_ne a.isLt b.isLt h)
theorem mF_all {P : Pt (Fin pS)} (hP : onC O (fs 7) P) : ∃ a, P = mF a := by
 obtain ⟨k, hk⟩ := all hP
 exact ⟨nf k, by rw [mF_nf]; exact hk⟩
theorem mF_neg (a : Fin nS) : ngp O (mF a) = mF (0 - a) := by
 have h := mF_add a (0 - a)
 have e : a + (0 - a) = 0 := by grind
 rw [e, mF_zero] at h
 have h2 := sum_neg F (mF a)
 exact (sum_cancel F no2 (mF_on a) (onC_ng F (mF_on a)) (mF_on _) (h2.trans h.symm))
theorem unit {a : Fin nS} (h : a ≠ 0) : ∃ i : Fin nS, a * i = 1 := ⟨inv1 a, inv1_ok nPr (by decide) a h⟩
theorem other {h h' r s d k i : Fin nS} (hs : s * k = h + r * d) (hi : r * i = 1) : (0 - h' * i) + k * (s * i) = d ↔ h' = h := by
 constructor
 . intro e; grind
 . intro e; subst e; grind
theorem proves {h r s k i j d : Fin nS} (hd : d = (0 - h * i) + k * (s * i)) (hi : r * i = 1) (hj : s * j = 1) : h * j + d * (r * j) = k := by grind
theorem parity {h r s k i : Fin nS} (hi : r * i = 1) (hs : s ≠ 0) (hk : k ≠ 0) : (0 - h * i) + k * (s * i) ≠ (0 - h * i) + (0 - k) * (s * i) := fun e => by
 obtain ⟨j, hj⟩ := unit hs
 obtain ⟨l, hl⟩ := unit hk
 have h2 : (1 : Fin nS) + 1 = 0 := by grind
 exact absurd h2 (by decide)
end Sk
end
section
namespace Gp
open Cv
def mixG {α : Type} (O : Ops α) (p q : Jac α) : Jac α :=
 let pz := O.mul p.z p.z
 let qz := O.mul q.z q.z
 let u := O.mul p.x qz
 let v := O.mul q.x pz
 let s := O.mul (O.mul p.y qz) q.z
 let t := O.mul (O.mul q.y pz) p.z
 let h := O.sub v u
 let r := O.sub t s
 let hh := O.mul h h
 let hhh := O.mul hh h
 let w := O.mul u hh
 let x := O.sub (O.sub (O.mul r r) hhh) (O.add w w)
 ⟨x, O.sub (O.mul r (O.sub w x)) (O.mul s hhh), O.mul (O.mul p.z q.z) h⟩
def qE : Jac E := sj eJ w0 ⟨w4, w5, .o⟩
theorem chk_g1 : (E.s (mixG eJ jE qE).x (sj eJ l3 (mix eJ jE w4 w5)).x).chk = true := by decide +kernel
theorem chk_g2 : (E.s (mixG eJ jE qE).y (sj eJ l3 (mix eJ jE w4 w5)).y).chk = true := by decide +kernel
theorem chk_g3 : (E.s (mixG eJ jE qE).z (sj eJ l3 (mix eJ jE w4 w5)).z).chk = true := by decide +kernel
theorem chk_gu : (E.s (.m jE.x (.m qE.z qE.z)) (.m (.m jE.x (.m .o .o)) (.m w0 w0))).chk = true := by decide +kernel
theorem chk_gv : (E.s (.m qE.x (.m jE.z jE.z)) (.m (.m w4 (.m jE.z jE.z)) (.m w0 w0))).chk = true := by decide +kernel
theorem chk_gs : (E.s (.m (.m jE.y (.m qE.z qE.z)) qE.z) (.m (.m (.m jE.y (.m .o .o)) .o) (.m (.m w0 w0) w0))).chk = true := by decide +kernel
theorem chk_gt : (E.s (.m (.m qE.y (.m jE.z jE.z)) jE.z) (.m (.m (.m w5 (.m jE.z jE.z)) jE.z) (.m (.m w0 w0) w0))).chk = true := by decide +kernel
section
variable {α : Type} [DecidableEq α] {O : Ops α} (F : Fd O)
include F
theorem plus_sj2 {l : α} (hl : l ≠ O.zero) (p : Jac α) (x y : α) : ∃ m, m ≠ O.zero ∧ plus O p (sj O l ⟨x, y, O.one⟩) = sj O m (plus O p ⟨x, y, O.one⟩) := by
 obtain ⟨px, py, pz⟩ := p
 have hm : mixG O ⟨px, py, pz⟩ (sj O l ⟨x, y, O.one⟩) = sj O (O.mul (O.mul l l) l) (mix O ⟨px, py, pz⟩ x y) := by
   have h1 := F.eq_of_sub (van0 F.cr chk_g1 l px py pz x y O.zero O.zero)
   have h2 := F.eq_of_sub (van0 F.cr chk_g2 l px py pz x y O.zero O.zero)
   have h3 := F.eq_of_sub (van0 F.cr chk_g3 l px py pz x y O.zero O.zero)
   exact (Jac.mk.injEq ..).mpr ⟨h1, h2, h3⟩
 have hqz : (sj O l ⟨x, y, O.one⟩ : Jac α).z ≠ O.zero := F.mne hl F.ne
 by_cases hz : pz = O.zero
 . refine ⟨l, hl, ?_⟩
   unfold plus
   rw [if_pos hz, if_pos hz]
 . have hu : O.mul px (O.mul (sj O l ⟨x, y, O.one⟩ : Jac α).z (sj O l ⟨x, y, O.one⟩ : Jac α).z) = O.mul (O.mul px (O.mul O.one O.one)) (O.mul l l) := F.eq_of_sub (van0 F.cr chk_gu l px py pz x y O.zero O.zero)
   have hv : O.mul (sj O l ⟨x, y, O.one⟩ : Jac α).x (O.mul pz pz) = O.mul (O.mul x (O.mul pz pz)) (O.mul l l) := F.eq_of_sub (van0 F.cr chk_gv l px py pz x y O.zero O.zero)
   have hs : O.mul (O.mul py (O.mul (sj O l ⟨x, y, O.one⟩ : Jac α).z (sj O l ⟨x, y, O.one⟩ : Jac α).z)) (sj O l ⟨x, y, O.one⟩ : Jac α).z = O.mul (O.mul (O.mul py (O.mul O.one O.one)) O.one) (O.mul (O.mul l l) l) := F.eq_of_sub (van0 F.cr chk_gs l px py pz x y O.zero O.zero)
   have ht : O.mul (O.mul (sj O l ⟨x, y, O.one⟩ : Jac α).y (O.mul pz pz)) pz = O.mul (O.mul (O.mul y (O.mul pz pz)) pz) (O.mul (O.mul l l) l) := F.eq_of_sub (van0 F.cr chk_gt l px py pz x y O.zero O.zero)
   have l2 := F.mne hl hl
   have l3' := F.mne l2 hl
   generalize sj O l ⟨x, y, O.one⟩ = q at *
   unfold plus
   dsimp only at *
   rw [if_neg hz, if_neg hz, if_neg hqz, if_neg F.ne]
   by_cases h1 : O.mul px (O.mul O.one O.one) = O.mul x (O.mul pz pz)
   . rw [if_pos (by rw [hu, hv, h1]), if_pos h1]
     by_cases h2 : O.mul (O.mul py (O.mul O.one O.one)) O.one = O.mul (O.mul y (O.mul pz pz)) pz
     . rw [if_pos (by rw [hs, ht, h2]), if_pos h2]
       exact ⟨O.one, F.ne, (sj_one F _).symm⟩
     . rw [if_neg (fun e => h2 (F.cancel l3' (by rw [← hs, ← ht, e]))), if_neg h2]
       exact ⟨O.one, F.ne, (sj_inf F _).symm⟩
   . rw [if_neg (fun e => h1 (F.cancel l2 (by rw [← hu, ← hv, e]))), if_neg h1]
     exact ⟨_, l3', hm⟩
end
section
variable {α : Type} [DecidableEq α] {O : Ops α} (F : Fd O) (L : Laws O) {b : α} (N : No2 O b) (hA : ∀ P Q : Pt α, onC O b P → onC O b Q → down O (plus O (up O P) (up O Q)) = sumR O P Q)
include F L N hA
theorem plus_gen (p q : Jac α) (hp : onC O b (down O p)) (hq : onC O b (down O q)) : down O (plus O p q) = sumR O (down O p) (down O q) := by
 by_cases hz : q.z = O.zero
 . have e : down O q = none := by unfold down; rw [if_pos hz]
   rw [e]
   have e2 : sumR O (down O p) none = down O p := by cases down O p <;> rfl
   rw [e2]
   unfold plus
   by_cases hpz : p.z = O.zero
   . rw [if_pos hpz, e]; unfold down; rw [if_pos hpz]
   . rw [if_neg hpz, if_pos hz]
 . have hq2 := up_down F hz
   obtain ⟨x, y, e⟩ : ∃ x y, down O q = some (x, y) := by unfold down; rw [if_neg hz]; exact ⟨_, _, rfl⟩
   rw [e] at hq2 hq ⊢
   rw [hq2]
   obtain ⟨m, hm, e2⟩ := plus_sj2 F hz p x y
   show down O (plus O p (sj O q.z ⟨x, y, O.one⟩)) = _
   rw [e2, down_sj F hm]
   exact plus_sum F L N hA p x y hp hq
end
end Gp
end
section
namespace Gp
open Cv
def inf1 {α : Type} (O : Ops α) : Jac α := ⟨O.one, O.one, O.zero⟩
section
variable {α : Type} [DecidableEq α] {O : Ops α} (F : Fd O) (L : Laws O) {b : α} (N : No2 O b) (hA : ∀ P Q : Pt α, onC O b P → onC O b Q → down O (plus O (up O P) (up O Q)) = sumR O P Q)
include L in
include L in
include F N in
theorem sum4 {A B C D : Pt α} (hA : onC O b A) (hB : onC O b B) (hC : onC O b C) (hD : onC O b D) : sumR O (sumR O A B) (sumR O C D) = sumR O (sumR O A C) (sumR O B D) := by
 rw [sum_assoc F N hA hB (sum_on F N hC hD), ← sum_assoc F N hB hC hD, sum_comm F N hB hC, sum_assoc F N hC hB hD, ← sum_assoc F N hA hC (sum_on F N hB hD)]
include F L N hA
end
end Gp
end
section
namespace Gp
open Cv
def dbP {α : Type} [DecidableEq α] (O : Ops α) (p : Jac α) : Jac α := if p.z = O.zero then inf O else dbl O p
def adP {α : Type} [DecidableEq α] (O : Ops α) (p q : Jac α) : Jac α :=
 if p.z = O.zero then q else if q.z = O.zero then p else
 let pz := O.mul p.z p.z
 let qz := O.mul q.z q.z
 let u := O.mul p.x qz
 let v := O.mul q.x pz
 let s := O.mul p.y (O.mul qz q.z)
 let t := O.mul q.y (O.mul pz p.z)
 let h := O.sub v u
 let r := O.sub t s
 if h = O.zero then (if r = O.zero then dbP O p else inf O) else
 let h2 := O.mul h h
 let h3 := O.mul h2 h
 let uh := O.mul u h2
 let x := O.sub (O.sub (O.mul r r) h3) (O.add uh uh)
 ⟨x, O.sub (O.mul r (O.sub uh x)) (O.mul s h3), O.mul h (O.mul p.z q.z)⟩
def tmP {α : Type} [DecidableEq α] (O : Ops α) (p : Jac α) (k n : Nat) : Nat → Jac α
 | 0 => inf O
 | i + 1 => if k / 2 ^ (n - 1 - i) % 2 = 1 then adP O (dbP O (tmP O p k n i)) p else dbP O (tmP O p k n i)
section
variable {α : Type} [DecidableEq α] {O : Ops α} (F : Fd O) (L : Laws O) {b : α} (N : No2 O b) (hA : ∀ P Q : Pt α, onC O b P → onC O b Q → down O (plus O (up O P) (up O Q)) = sumR O P Q)
include L in
theorem down_dbP (p : Jac α) : down O (dbP O p) = down O (dbl O p) := by
 unfold dbP
 by_cases h : p.z = O.zero
 . rw [if_pos h]
   have := dbl_inf L (.inl h : p.z = O.zero ∨ p.y = O.zero)
   unfold down
   rw [if_pos this]
   exact if_pos rfl
 . rw [if_neg h]
include F in
theorem adP_eq (p q : Jac α) : adP O p q = plus O p q := by
 unfold adP plus
 by_cases h1 : p.z = O.zero
 . rw [if_pos h1, if_pos h1]
 rw [if_neg h1, if_neg h1]
 by_cases h2 : q.z = O.zero
 . rw [if_pos h2, if_pos h2]
 rw [if_neg h2, if_neg h2]
 dsimp only
 rw [← F.mul_assoc p.y, ← F.mul_assoc q.y]
 generalize O.mul p.x (O.mul q.z q.z) = u
 generalize O.mul q.x (O.mul p.z p.z) = v
 generalize O.mul (O.mul p.y (O.mul q.z q.z)) q.z = s
 generalize O.mul (O.mul q.y (O.mul p.z p.z)) p.z = t
 by_cases h3 : u = v
 . rw [if_pos (F.sub_of_eq h3.symm), if_pos h3]
   by_cases h4 : s = t
   . rw [if_pos (F.sub_of_eq h4.symm), if_pos h4]
     unfold dbP
     rw [if_neg h1]
   . rw [if_neg (fun e => h4 (F.eq_of_sub e).symm), if_neg h4]
 . rw [if_neg (fun e => h3 (F.eq_of_sub e).symm), if_neg h3, F.mul_comm (O.sub v u) (O.mul p.z q.z)]
include F L N hA
theorem tmP_mn {p : Jac α} (hp : onC O b (down O p)) {k n : Nat} (hk : k < 2 ^ n) : ∀ i, i ≤ n → down O (tmP O p k n i) = mn O (down O p) (k / 2 ^ (n - i))
 | 0, _ => by
   rw [Nat.sub_zero, Nat.div_eq_of_lt hk]
   exact if_pos rfl
 | i + 1, hi => by
   have ih := tmP_mn hp hk i (by omega)
   have on := fun k => mon F N hp k
   obtain ⟨u, hu⟩ : ∃ u, u = k / 2 ^ (n - (i + 1)) := ⟨_, rfl⟩
   have hu2 : k / 2 ^ (n - i) = u / 2 := by rw [hu, Nat.div_div_eq_div_mul, ← Nat.pow_succ]; congr 2; omega
   rw [hu2] at ih
   rw [← hu]
   unfold tmP
   rw [show n - 1 - i = n - (i + 1) by omega, ← hu]
   generalize tmP O p k n i = o at *
   have hoc : onC O b (down O o) := by rw [ih]; exact on _
   have h2 : down O (dbP O o) = mn O (down O p) (u / 2 + u / 2) := by rw [down_dbP L, dbl_sum F L N hA o hoc, ih, madd F N hp]
   by_cases h3 : u % 2 = 1
   . have eu : u = u / 2 + u / 2 + 1 := by omega
     rw [if_pos h3, adP_eq F, plus_gen F L N hA _ _ (by rw [h2]; exact on _) hp, h2]
     show mn O (down O p) (u / 2 + u / 2 + 1) = _
     rw [← eu]
   . have eu : u = u / 2 + u / 2 := by omega
     rw [if_neg h3, h2, ← eu]
end
end Gp
end
section
namespace Sk
open Cv NT Gp
end Sk
end
section
namespace Go.Proofs.Ytkhipnhdbaahcaa
open Go Eng
structure PrF (p : Nat) : Prop extends Mod 256 p where
 pr : NT.Pr p
 two : 2 < p
structure Kf (p : Nat) where
 O : Cv.Ops (Fin p)
 w : Fin p → Nat → Int
 v : Fin p → Nat → Int
section
variable {p : Nat}
def Ef (K : Kf p) (a : Fin p) : AVal := .agg [.s .u64 (K.w a 0), .s .u64 (K.w a 1), .s .u64 (K.w a 2), .s .u64 (K.w a 3)]
def Uf (K : Kf p) (a : Fin p) : AVal := .agg [.s .u64 (K.v a 0), .s .u64 (K.v a 1), .s .u64 (K.v a 2), .s .u64 (K.v a 3)]
def Jf (K : Kf p) (j : Cv.Jac (Fin p)) : AVal := .agg [.s .u64 (K.w j.x 0), .s .u64 (K.w j.x 1), .s .u64 (K.w j.x 2), .s .u64 (K.w j.x 3), .s .u64 (K.w j.y 0), .s .u64 (K.w j.y 1), .s .u64 (K.w j.y 2), .s .u64 (K.w j.y 3),
 .s .u64 (K.w j.z 0), .s .u64 (K.w j.z 1), .s .u64 (K.w j.z 2), .s .u64 (K.w j.z 3)]
structure OkF (K : Kf p) (r : List AVal) : Prop where
 add : ∀ a b, Sp 87 [.ref r 0, Ef K a, Ef K b] (Ef K (K.O.add a b))
 sub : ∀ a b, Sp 85 [.ref r 0, Ef K a, Ef K b] (Ef K (K.O.sub a b))
 mul : ∀ a b, Sp 48 [.ref r 0, Ef K a, Ef K b] (Ef K (K.O.mul a b))
 inv : ∀ a, Sp 43 [.ref r 0, Ef K a] (Ef K (K.O.inv a))
 neg : ∀ a, Sp 47 [.ref r 0, Ef K a] (Ef K (K.O.sub K.O.zero a))
 inn : ∀ a, Sp 44 [.ref r 0, Uf K a] (Ef K a)
 out : ∀ a, Sp 46 [.ref r 0, Ef K a] (Uf K a)
 zero : ∀ i, i < 4 → K.w K.O.zero i = 0
 zerov : ∀ i, i < 4 → K.v K.O.zero i = 0
 one : K.v K.O.one 0 = 1 ∧ ∀ i, i < 3 → K.v K.O.one (i + 1) = 0
 sim : ∀ d, simL (simD (d + 1)) r r
 inj : ∀ a b, K.w a 0 = K.w b 0 ∧ K.w a 1 = K.w b 1 ∧ K.w a 2 = K.w b 2 ∧ K.w a 3 = K.w b 3 → a = b
 injv : ∀ a b, K.v a 0 = K.v b 0 ∧ K.v a 1 = K.v b 1 ∧ K.v a 2 = K.v b 2 ∧ K.v a 3 = K.v b 3 → a = b
theorem eqs_decF {A : Ar} (hA : A = Ar.real) {l : List (AVal × AVal)} {p : Prop} [Decidable p] (h : l.all leafEq = true ↔ p) : A.eqs l = decide p := by
 rw [hA]
 show l.all leafEq = _
 by_cases hp : p
 . rw [decide_eq_true hp]; exact h.2 hp
 . rw [decide_eq_false hp]; exact Bool.eq_false_iff.2 fun e => hp (h.1 e)
theorem words_eq {w : Fin p → Nat → Int} (inj : ∀ a b, w a 0 = w b 0 ∧ w a 1 = w b 1 ∧ w a 2 = w b 2 ∧ w a 3 = w b 3 → a = b) {A : Ar} (hA : A = Ar.real) (a b : Fin p) :
   A.eqs [(.s .u64 (w a 0), .s .u64 (w b 0)), (.s .u64 (w a 1), .s .u64 (w b 1)), (.s .u64 (w a 2), .s .u64 (w b 2)), (.s .u64 (w a 3), .s .u64 (w b 3))] = decide (a = b) := by
 have h0 : ∀ x y : Int, leafEq (.s .u64 x, .s .u64 y) = (x == y) := fun x y => rfl
 refine eqs_decF hA ⟨fun h => inj a b ?_, fun h => ?_⟩
 . simpa only [List.all_cons, List.all_nil, h0, beq_iff_eq, Bool.and_eq_true, and_true] using h
 . subst h; simp only [List.all_cons, List.all_nil, h0, beq_iff_eq, Bool.and_eq_true, and_true, and_self]
theorem words_eqz {w : Fin p → Nat → Int} (inj : ∀ a b, w a 0 = w b 0 ∧ w a 1 = w b 1 ∧ w a 2 = w b 2 ∧ w a 3 = w b 3 → a = b) {o : Fin p} (z : ∀ i, i < 4 → w o i = 0) {A : Ar} (hA : A = Ar.real) (a : Fin p) :
   A.eqs [(.s .u64 (w a 0), .i .u64 0), (.s .u64 (w a 1), .i .u64 0), (.s .u64 (w a 2), .i .u64 0), (.s .u64 (w a 3), .i .u64 0)] = decide (a = o) := by
 have h0 : ∀ x : Int, leafEq (.s .u64 x, .i .u64 0) = (x == 0) := fun x => rfl
 refine eqs_decF hA ⟨fun h => inj a _ ?_, fun h => ?_⟩
 . have e := fun i (hi : i < 4) => (z i hi).symm
   simp only [List.all_cons, List.all_nil, h0, beq_iff_eq, Bool.and_eq_true, and_true] at h
   obtain ⟨h0, h1, h2, h3⟩ := h
   exact ⟨h0.trans (e 0 (by decide)), h1.trans (e 1 (by decide)), h2.trans (e 2 (by decide)), h3.trans (e 3 (by decide))⟩
 . subst h
   simp only [List.all_cons, List.all_nil, h0, beq_iff_eq, Bool.and_eq_true, and_true]
   exact ⟨z 0 (by decide), z 1 (by decide), z 2 (by decide), z 3 (by decide)⟩
variable [NeZero p]
theorem fin_subF (a c : Fin p) : (a.val + p - c.val) % p = (a - c).val := by
 rw [Fin.sub_def]
 show _ = (p - c.val + a.val) % p
 have := c.isLt
 congr 1
 omega
def Kof (H : H5) (p : Nat) [NeZero p] : Kf p := ⟨Cv.ops1 Cv.inv1, fun a i => H.lim (H.mf 256 p a.val) i, fun a i => H.lim a.val i⟩
theorem simRF (H : H5) (m : Nat) : ∀ d, simL (simD (d + 1)) (R4 H m) (R4 H m) := by
 intro d
 unfold R4 ring4
 simp [simL, simD, onlyIf]
theorem val_one {p : Nat} [NeZero p] (h : 1 < p) : (1 : Fin p).val = 1 := Nat.mod_eq_of_lt h
theorem okF {H : H5} (hH : H = H5.real) (hp : PrF p) : OkF (Kof H p) (R4 H p) where
 add := fun a c => by
   have h := AddS4 hH hp.toMod (a := a.val) (b := c.val)
   have e : H.add p a.val c.val = (a + c).val := by rw [hH]; exact (Fin.val_add a c).symm
   rw [e] at h; exact h
 sub := fun a c => by
   have h := SubS4 hH hp.toMod c.isLt (a := a.val) (b := c.val)
   have e : H.sub p a.val c.val = (a - c).val := by rw [hH]; exact fin_subF a c
   rw [e] at h; exact h
 mul := fun a c => by
   have h := MulS4 hH hp.toMod (a := a.val) (b := c.val)
   have e : H.mul p a.val c.val = (a * c).val := by rw [hH]; exact (Fin.val_mul a c).symm
   rw [e] at h; exact h
 inv := fun a => by
   have h := InvS4 hH hp.toMod a.isLt
   have e : H.pow p a.val (p - 2) = (Cv.inv1 a).val := by rw [hH]; rfl
   rw [e] at h; exact h
 neg := fun a => by
   have h := NegS4 hH hp.toMod a.isLt
   have e : H.sub p 0 a.val = (0 - a).val := by rw [hH]; exact fin_subF 0 a
   rw [e] at h; exact h
 inn := fun a => by
   have h := InS4 hH hp.toMod (Nat.lt_trans a.isLt hp.lt)
   have e : H.mod p a.val = a.val := by rw [hH]; exact Nat.mod_eq_of_lt a.isLt
   rw [e] at h; exact h
 out := fun a => OutS4 hH hp.toMod a.isLt
 zero := fun i _ => by
   show H.lim (H.mf 256 p ((0 : Fin p).val)) i = 0
   rw [hH, Cv.val_zero]
   show limR (0 * 2 ^ 256 % p) i = 0
   rw [Nat.zero_mul, Nat.zero_mod]
   unfold limR
   rw [Nat.zero_div]; rfl
 zerov := fun i _ => by
   show H.lim ((0 : Fin p).val) i = 0
   rw [hH, Cv.val_zero]
   show limR 0 i = 0
   unfold limR
   rw [Nat.zero_div]; rfl
 one := by
   show H.lim ((1 : Fin p).val) 0 = 1 ∧ ∀ i, i < 3 → H.lim ((1 : Fin p).val) (i + 1) = 0
   rw [hH, val_one hp.one]
   refine ⟨rfl, fun i hi => ?_⟩
   show ((1 / 2 ^ (64 * (i + 1)) % 2 ^ 64 : Nat) : Int) = 0
   rw [Nat.div_eq_of_lt (Nat.one_lt_two_pow (by omega))]; rfl
 sim := simRF H p
 inj := fun a c h => by
   have hl := H5.hlim hH
   have h1 : ∀ x : Fin p, H.mf 256 p x.val < 2 ^ 256 := fun x => by rw [hH]; exact Nat.lt_trans (mf_lt hp.pos) hp.lt
   have e := lim_inj4 hl (h1 a) (h1 c) h
   rw [hH] at e
   exact Fin.ext (mf_inj hp.odd a.isLt c.isLt e)
 injv := fun a c h => Fin.ext (lim_inj4 (H5.hlim hH) (Nat.lt_trans a.isLt hp.lt) (Nat.lt_trans c.isLt hp.lt) h)
end
theorem prP : PrF Sk.pS := ⟨⟨by decide, by decide, by decide⟩, Sk.pPr, by decide⟩
theorem prN : PrF Sk.nS := ⟨⟨by decide, by decide, by decide⟩, Sk.nPr, by decide⟩
def RDb : Nat → Md := fun r => match r with | 3 => .res [] | _ => .mid
def RAd : Nat → Md := fun r => match r with | 5 => .res [] | 6 => .res [] | 7 => .res [] | 8 => .res [] | _ => .mid
variable {p : Nat} [NeZero p]
theorem jnoneS {k : Kf p} {r : List AVal} (hK : OkF k r) (j : Cv.Jac (Fin p)) (t : Bool) (ht : t = decide (j.z = k.O.zero)) : Sp 110 [Jf k j, .ref r 0] (.sb t) := by
 obtain ⟨x, y, z⟩ := j
 have co := hK.out z
 refine mk Try.func110 rfl rfl L0 R1 (by decide +kernel) fun A S hA hS => ?_
 have e1 := (words_eqz hK.injv hK.zerov hA z).trans ht.symm
 unfold bodyOf Try.f110
 cbv
 refine aF hS co ?_
 cbv
 exact e1
theorem jdblS {k : Kf p} {r : List AVal} (hK : OkF k r) (j : Cv.Jac (Fin p)) : Sp 109 [Jf k j, .ref r 0] (Jf k (Gp.dbP k.O j)) := by
 have cn := fun t ht => jnoneS hK j t ht
 obtain ⟨px, py, pz⟩ := j
 unfold Gp.dbP
 dsimp only at cn ⊢
 by_cases h1 : pz = k.O.zero
 . rw [if_pos h1]
   have cn := cn true (decide_eq_true h1).symm
   have z := hK.zero
   refine mk Try.func109 rfl rfl L0 RDb (by decide +kernel) fun A S hA hS => ?_
   unfold bodyOf Try.f109
   cbv
   refine aF hS cn ?_
   cbv
   refine ABr.t rfl ?_
   cbv
   repeat' (first | exact (z _ (by decide)).symm | constructor)
 rw [if_neg h1]
 have cn := cn false (decide_eq_false h1).symm
 unfold Cv.dbl
 dsimp only
 obtain ⟨a, ha⟩ : ∃ q_, q_ = k.O.mul px px := ⟨_, rfl⟩
 have ca := hK.mul px px
 rw [← ha] at ca ⊢
 obtain ⟨bb, hbb⟩ : ∃ q_, q_ = k.O.mul py py := ⟨_, rfl⟩
 have cbb := hK.mul py py
 rw [← hbb] at cbb ⊢
 obtain ⟨s0, hs0⟩ : ∃ q_, q_ = k.O.mul px bb := ⟨_, rfl⟩
 have cs0 := hK.mul px bb
 rw [← hs0] at cs0 ⊢
 obtain ⟨s1, hs1⟩ : ∃ q_, q_ = k.O.add s0 s0 := ⟨_, rfl⟩
 have cs1 := hK.add s0 s0
 rw [← hs1] at cs1 ⊢
 obtain ⟨s2, hs2⟩ : ∃ q_, q_ = k.O.add s1 s1 := ⟨_, rfl⟩
 have cs2 := hK.add s1 s1
 rw [← hs2] at cs2 ⊢
 obtain ⟨aa, haa⟩ : ∃ q_, q_ = k.O.add a a := ⟨_, rfl⟩
 have caa := hK.add a a
 rw [← haa] at caa ⊢
 obtain ⟨e, he⟩ : ∃ q_, q_ = k.O.add aa a := ⟨_, rfl⟩
 have ce := hK.add aa a
 rw [← he] at ce ⊢
 obtain ⟨c0, hc0⟩ : ∃ q_, q_ = k.O.mul bb bb := ⟨_, rfl⟩
 have cc0 := hK.mul bb bb
 rw [← hc0] at cc0 ⊢
 obtain ⟨d1, hd1⟩ : ∃ q_, q_ = k.O.add c0 c0 := ⟨_, rfl⟩
 have cd1 := hK.add c0 c0
 rw [← hd1] at cd1 ⊢
 obtain ⟨d2, hd2⟩ : ∃ q_, q_ = k.O.add d1 d1 := ⟨_, rfl⟩
 have cd2 := hK.add d1 d1
 rw [← hd2] at cd2 ⊢
 obtain ⟨d3, hd3⟩ : ∃ q_, q_ = k.O.add d2 d2 := ⟨_, rfl⟩
 have cd3 := hK.add d2 d2
 rw [← hd3] at cd3 ⊢
 obtain ⟨ee, hee⟩ : ∃ q_, q_ = k.O.mul e e := ⟨_, rfl⟩
 have cee := hK.mul e e
 rw [← hee] at cee ⊢
 obtain ⟨ss, hss⟩ : ∃ q_, q_ = k.O.add s2 s2 := ⟨_, rfl⟩
 have css := hK.add s2 s2
 rw [← hss] at css ⊢
 obtain ⟨x, hx⟩ : ∃ q_, q_ = k.O.sub ee ss := ⟨_, rfl⟩
 have cx := hK.sub ee ss
 rw [← hx] at cx ⊢
 obtain ⟨z0, hz0⟩ : ∃ q_, q_ = k.O.mul py pz := ⟨_, rfl⟩
 have cz0 := hK.mul py pz
 rw [← hz0] at cz0 ⊢
 obtain ⟨d, hd⟩ : ∃ q_, q_ = k.O.sub s2 x := ⟨_, rfl⟩
 have cd := hK.sub s2 x
 rw [← hd] at cd ⊢
 obtain ⟨ed, hed⟩ : ∃ q_, q_ = k.O.mul e d := ⟨_, rfl⟩
 have ced := hK.mul e d
 rw [← hed] at ced ⊢
 obtain ⟨y, hy⟩ : ∃ q_, q_ = k.O.sub ed d3 := ⟨_, rfl⟩
 have cy := hK.sub ed d3
 rw [← hy] at cy ⊢
 obtain ⟨z, hz⟩ : ∃ q_, q_ = k.O.add z0 z0 := ⟨_, rfl⟩
 have cz := hK.add z0 z0
 rw [← hz] at cz ⊢
 refine mk Try.func109 rfl rfl L0 RDb (by decide +kernel) fun A S hA hS => ?_
 unfold bodyOf Try.f109
 cbv
 refine aF hS cn ?_
 cbv
 refine ABr.f rfl ?_
 cbv
 repeat ((first | refine ABr.t (by first | assumption | rfl) ?_ | refine ABr.f (by first | assumption | rfl) ?_ | refine aF hS ca ?_ | refine aF hS cbb ?_ | refine aF hS cc0 ?_ | refine aF hS cs0 ?_ | refine aF hS cs1 ?_ | refine aF hS cs2 ?_ | refine aF hS caa ?_ | refine aF hS ce ?_ | refine aF hS cee ?_ | refine aF hS css ?_ | refine aF hS cx ?_ | refine aF hS cd1 ?_ | refine aF hS cd2 ?_ | refine aF hS cd3 ?_ | refine aF hS cd ?_ | refine aF hS ced ?_ | refine aF hS cy ?_ | refine aF hS cz0 ?_ | refine aF hS cz ?_); cbv)
theorem jaddS {k : Kf p} {r : List AVal} (hK : OkF k r) (j q : Cv.Jac (Fin p)) : Sp 83 [Jf k j, .ref r 0, Jf k q] (Jf k (Gp.adP k.O j q)) := by
 have cn := fun t ht => jnoneS hK j t ht
 have cm := fun t ht => jnoneS hK q t ht
 have cdb := jdblS hK j
 obtain ⟨px, py, pz⟩ := j
 obtain ⟨qx, qy, qz⟩ := q
 unfold Gp.adP
 dsimp only at cn cm ⊢
 by_cases h1 : pz = k.O.zero
 . rw [if_pos h1]
   have cn := cn true (decide_eq_true h1).symm
   refine mk Try.func83 rfl rfl L0 RAd (by decide +kernel) fun A S hA hS => ?_
   unfold bodyOf Try.f83
   cbv
   refine aF hS cn ?_
   cbv
   refine ABr.t rfl ?_
   cbv
 rw [if_neg h1]
 have cn := cn false (decide_eq_false h1).symm
 by_cases h2 : qz = k.O.zero
 . rw [if_pos h2]
   have cm := cm true (decide_eq_true h2).symm
   refine mk Try.func83 rfl rfl L0 RAd (by decide +kernel) fun A S hA hS => ?_
   unfold bodyOf Try.f83
   cbv
   refine aF hS cn ?_
   cbv
   refine ABr.f rfl ?_
   cbv
   refine aF hS cm ?_
   cbv
   refine ABr.t rfl ?_
   cbv
 rw [if_neg h2]
 have cm := cm false (decide_eq_false h2).symm
 obtain ⟨pp, hpp⟩ : ∃ q_, q_ = k.O.mul pz pz := ⟨_, rfl⟩
 have cpp := hK.mul pz pz
 rw [← hpp] at cpp ⊢
 obtain ⟨qq, hqq⟩ : ∃ q_, q_ = k.O.mul qz qz := ⟨_, rfl⟩
 have cqq := hK.mul qz qz
 rw [← hqq] at cqq ⊢
 obtain ⟨u, hu⟩ : ∃ q_, q_ = k.O.mul px qq := ⟨_, rfl⟩
 have cu := hK.mul px qq
 rw [← hu] at cu ⊢
 obtain ⟨v, hv⟩ : ∃ q_, q_ = k.O.mul qx pp := ⟨_, rfl⟩
 have cv := hK.mul qx pp
 rw [← hv] at cv ⊢
 obtain ⟨s0, hs0⟩ : ∃ q_, q_ = k.O.mul qq qz := ⟨_, rfl⟩
 have cs0 := hK.mul qq qz
 rw [← hs0] at cs0 ⊢
 obtain ⟨s, hs⟩ : ∃ q_, q_ = k.O.mul py s0 := ⟨_, rfl⟩
 have cs := hK.mul py s0
 rw [← hs] at cs ⊢
 obtain ⟨t0, ht0⟩ : ∃ q_, q_ = k.O.mul pp pz := ⟨_, rfl⟩
 have ct0 := hK.mul pp pz
 rw [← ht0] at ct0 ⊢
 obtain ⟨t, ht⟩ : ∃ q_, q_ = k.O.mul qy t0 := ⟨_, rfl⟩
 have ct := hK.mul qy t0
 rw [← ht] at ct ⊢
 obtain ⟨h, hh⟩ : ∃ q_, q_ = k.O.sub v u := ⟨_, rfl⟩
 have ch := hK.sub v u
 rw [← hh] at ch ⊢
 obtain ⟨rr, hrr⟩ : ∃ q_, q_ = k.O.sub t s := ⟨_, rfl⟩
 have crr := hK.sub t s
 rw [← hrr] at crr ⊢
 have coh := hK.out h
 have cor := hK.out rr
 by_cases h3 : h = k.O.zero
 . rw [if_pos h3]
   by_cases h4 : rr = k.O.zero
   . rw [if_pos h4]
     refine mk Try.func83 rfl rfl L0 RAd (by decide +kernel) fun A S hA hS => ?_
     have e3 := (words_eqz hK.injv hK.zerov hA h).trans (decide_eq_true h3)
     have e4 := (words_eqz hK.injv hK.zerov hA rr).trans (decide_eq_true h4)
     generalize Gp.dbP k.O ⟨px, py, pz⟩ = d at *
     unfold bodyOf Try.f83
     cbv
     refine aF hS cn ?_
     cbv
     refine ABr.f rfl ?_
     cbv
     refine aF hS cm ?_
     cbv
     refine ABr.f rfl ?_
     cbv
     repeat ((first | refine ABr.t (by first | assumption | rfl) ?_ | refine ABr.f (by first | assumption | rfl) ?_ | refine aF hS cpp ?_ | refine aF hS cqq ?_ | refine aF hS cu ?_ | refine aF hS cv ?_ | refine aF hS cs0 ?_ | refine aF hS cs ?_ | refine aF hS ct0 ?_ | refine aF hS ct ?_ | refine aF hS ch ?_ | refine aF hS crr ?_ | refine aF hS coh ?_ | refine aF hS cor ?_ | refine aF hS cdb ?_); cbv)
   . rw [if_neg h4]
     refine mk Try.func83 rfl rfl L0 RAd (by decide +kernel) fun A S hA hS => ?_
     have e3 := (words_eqz hK.injv hK.zerov hA h).trans (decide_eq_true h3)
     have e4 := (words_eqz hK.injv hK.zerov hA rr).trans (decide_eq_false h4)
     have z := hK.zero
     unfold bodyOf Try.f83
     cbv
     refine aF hS cn ?_
     cbv
     refine ABr.f rfl ?_
     cbv
     refine aF hS cm ?_
     cbv
     refine ABr.f rfl ?_
     cbv
     repeat ((first | refine ABr.t (by first | assumption | rfl) ?_ | refine ABr.f (by first | assumption | rfl) ?_ | refine aF hS cpp ?_ | refine aF hS cqq ?_ | refine aF hS cu ?_ | refine aF hS cv ?_ | refine aF hS cs0 ?_ | refine aF hS cs ?_ | refine aF hS ct0 ?_ | refine aF hS ct ?_ | refine aF hS ch ?_ | refine aF hS crr ?_ | refine aF hS coh ?_ | refine aF hS cor ?_); cbv)
     repeat' (first | exact (z _ (by decide)).symm | constructor)
 rw [if_neg h3]
 obtain ⟨hh, hhh⟩ : ∃ q_, q_ = k.O.mul h h := ⟨_, rfl⟩
 have chh := hK.mul h h
 rw [← hhh] at chh ⊢
 obtain ⟨hhh, hhhh⟩ : ∃ q_, q_ = k.O.mul hh h := ⟨_, rfl⟩
 have chhh := hK.mul hh h
 rw [← hhhh] at chhh ⊢
 obtain ⟨w, hw⟩ : ∃ q_, q_ = k.O.mul u hh := ⟨_, rfl⟩
 have cw := hK.mul u hh
 rw [← hw] at cw ⊢
 obtain ⟨r2, hr2⟩ : ∃ q_, q_ = k.O.mul rr rr := ⟨_, rfl⟩
 have cr2 := hK.mul rr rr
 rw [← hr2] at cr2 ⊢
 obtain ⟨x0, hx0⟩ : ∃ q_, q_ = k.O.sub r2 hhh := ⟨_, rfl⟩
 have cx0 := hK.sub r2 hhh
 rw [← hx0] at cx0 ⊢
 obtain ⟨ww, hww⟩ : ∃ q_, q_ = k.O.add w w := ⟨_, rfl⟩
 have cww := hK.add w w
 rw [← hww] at cww ⊢
 obtain ⟨x, hx⟩ : ∃ q_, q_ = k.O.sub x0 ww := ⟨_, rfl⟩
 have cx := hK.sub x0 ww
 rw [← hx] at cx ⊢
 obtain ⟨wx, hwx⟩ : ∃ q_, q_ = k.O.sub w x := ⟨_, rfl⟩
 have cwx := hK.sub w x
 rw [← hwx] at cwx ⊢
 obtain ⟨rx, hrx⟩ : ∃ q_, q_ = k.O.mul rr wx := ⟨_, rfl⟩
 have crx := hK.mul rr wx
 rw [← hrx] at crx ⊢
 obtain ⟨sh, hsh⟩ : ∃ q_, q_ = k.O.mul s hhh := ⟨_, rfl⟩
 have csh := hK.mul s hhh
 rw [← hsh] at csh ⊢
 obtain ⟨y, hy⟩ : ∃ q_, q_ = k.O.sub rx sh := ⟨_, rfl⟩
 have cy := hK.sub rx sh
 rw [← hy] at cy ⊢
 obtain ⟨pq, hpq⟩ : ∃ q_, q_ = k.O.mul pz qz := ⟨_, rfl⟩
 have cpq := hK.mul pz qz
 rw [← hpq] at cpq ⊢
 obtain ⟨z, hz⟩ : ∃ q_, q_ = k.O.mul h pq := ⟨_, rfl⟩
 have cz := hK.mul h pq
 rw [← hz] at cz ⊢
 refine mk Try.func83 rfl rfl L0 RAd (by decide +kernel) fun A S hA hS => ?_
 have e3 := (words_eqz hK.injv hK.zerov hA h).trans (decide_eq_false h3)
 unfold bodyOf Try.f83
 cbv
 refine aF hS cn ?_
 cbv
 refine ABr.f rfl ?_
 cbv
 refine aF hS cm ?_
 cbv
 refine ABr.f rfl ?_
 cbv
 repeat ((first | refine ABr.t (by first | assumption | rfl) ?_ | refine ABr.f (by first | assumption | rfl) ?_ | refine aF hS cpp ?_ | refine aF hS cqq ?_ | refine aF hS cu ?_ | refine aF hS cv ?_ | refine aF hS cs0 ?_ | refine aF hS cs ?_ | refine aF hS ct0 ?_ | refine aF hS ct ?_ | refine aF hS ch ?_ | refine aF hS crr ?_ | refine aF hS coh ?_); cbv)
 repeat ((first | refine ABr.t (by first | assumption | rfl) ?_ | refine ABr.f (by first | assumption | rfl) ?_ | refine aF hS chh ?_ | refine aF hS chhh ?_ | refine aF hS cw ?_ | refine aF hS cr2 ?_ | refine aF hS cx0 ?_ | refine aF hS cww ?_ | refine aF hS cx ?_ | refine aF hS cwx ?_ | refine aF hS crx ?_ | refine aF hS csh ?_ | refine aF hS cy ?_ | refine aF hS cpq ?_ | refine aF hS cz ?_); cbv)
end Go.Proofs.Ytkhipnhdbaahcaa
end
