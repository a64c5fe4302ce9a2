import Derived.Test.YtkhipnhdbaahcaaGreatQBGL
import Derived.Test.YtkhipnhdbaahcaaGreatQBR
import Derived.Test.YtkhipnhdbaahcaaGreatQBCA
import Derived.Test.YtkhipnhdbaahcaaGreatQBF
section
set_option linter.unusedSectionVars false
set_option linter.unusedVariables false
set_option linter.unusedSimpArgs false
namespace Gp
open Cv
/-- The reference's triples at infinity are others. -/
def inf1 {α : Type} (O : Ops α) : Jac α := ⟨O.one, O.one, O.zero⟩
def twR {α : Type} [DecidableEq α] (O : Ops α) (p : Jac α) : Jac α := if p.z = O.zero ∨ p.y = O.zero then inf1 O else dbl O p
def plR {α : Type} [DecidableEq α] (O : Ops α) (p q : Jac α) : Jac α :=
  if p.z = O.zero then q else if q.z = O.zero then p else
  if O.mul p.x (O.mul q.z q.z) = O.mul q.x (O.mul p.z p.z) then
    (if O.mul (O.mul p.y (O.mul q.z q.z)) q.z = O.mul (O.mul q.y (O.mul p.z p.z)) p.z then twR O p else inf1 O) else mixG O p q
/-- a P + b Q, bit by bit. -/
def bo {α : Type} [DecidableEq α] (O : Ops α) (x y : Jac α) (a b n : Nat) : Nat → Jac α
  | 0 => inf1 O
  | i + 1 =>
    let o := twR O (bo O x y a b n i)
    if a / 2 ^ (n - 1 - i) % 2 = 1 then (if b / 2 ^ (n - 1 - i) % 2 = 1 then plR O o (plR O x y) else plR O o x)
    else if b / 2 ^ (n - 1 - i) % 2 = 1 then plR O o y else o
section
variable {α : Type} [DecidableEq α] {O : Ops α} (F : Fd O) (L : Laws O) {b : α} (N : No2 O b) (hA : ∀ P Q : Pt α, onC O b P → onC O b Q → down O (plus O (up O P) (up O Q)) = sumR O P Q)
theorem down_inf1 : down O (inf1 O) = none := if_pos rfl
include L in
theorem down_twR (p : Jac α) : down O (twR O p) = down O (dbl O p) := by
  unfold twR
  by_cases h : p.z = O.zero ∨ p.y = O.zero
  · rw [if_pos h, down_inf1]
    have := dbl_inf L h
    unfold down
    rw [if_pos this]
  · rw [if_neg h]
include L in
theorem down_plR (p q : Jac α) : down O (plR O p q) = down O (plus O p q) := by
  unfold plR plus
  by_cases h1 : p.z = O.zero
  · rw [if_pos h1, if_pos h1]
  rw [if_neg h1, if_neg h1]
  by_cases h2 : q.z = O.zero
  · rw [if_pos h2, if_pos h2]
  rw [if_neg h2, if_neg h2]
  dsimp only
  by_cases h3 : O.mul p.x (O.mul q.z q.z) = O.mul q.x (O.mul p.z p.z)
  · rw [if_pos h3, if_pos h3]
    by_cases h4 : O.mul (O.mul p.y (O.mul q.z q.z)) q.z = O.mul (O.mul q.y (O.mul p.z p.z)) p.z
    · rw [if_pos h4, if_pos h4]; exact down_twR L p
    · rw [if_neg h4, if_neg h4, down_inf1]
      exact (if_pos rfl : down O (inf O) = none).symm
  · rw [if_neg h3, if_neg h3]
    rfl
include F N in
theorem sum4 {A B C D : Pt α} (hA : onC O b A) (hB : onC O b B) (hC : onC O b C) (hD : onC O b D) : sumR O (sumR O A B) (sumR O C D) = sumR O (sumR O A C) (sumR O B D) := by
  rw [sum_assoc F N hA hB (sum_on F N hC hD), ← sum_assoc F N hB hC hD, sum_comm F N hB hC, sum_assoc F N hC hB hD, ← sum_assoc F N hA hC (sum_on F N hB hD)]
include F L N hA
theorem bo_sum {x y : Jac α} (hx : onC O b (down O x)) (hy : onC O b (down O y)) {a c n : Nat} (ha : a < 2 ^ n) (hc : c < 2 ^ n) : ∀ i, i ≤ n → down O (bo O x y a c n i) = sumR O (mn O (down O x) (a / 2 ^ (n - i))) (mn O (down O y) (c / 2 ^ (n - i)))
  | 0, _ => by
    rw [Nat.sub_zero, Nat.div_eq_of_lt ha, Nat.div_eq_of_lt hc]
    exact down_inf1
  | i + 1, hi => by
    have ih := bo_sum hx hy ha hc i (by omega)
    have on := fun {Q : Pt α} (h : onC O b Q) k => mon F N h k
    obtain ⟨u, hu⟩ : ∃ u, u = a / 2 ^ (n - (i + 1)) := ⟨_, rfl⟩
    obtain ⟨v, hv⟩ : ∃ v, v = c / 2 ^ (n - (i + 1)) := ⟨_, rfl⟩
    have hu2 : a / 2 ^ (n - i) = u / 2 := by rw [hu, Nat.div_div_eq_div_mul, ← Nat.pow_succ]; congr 2; omega
    have hv2 : c / 2 ^ (n - i) = v / 2 := by rw [hv, Nat.div_div_eq_div_mul, ← Nat.pow_succ]; congr 2; omega
    rw [hu2, hv2] at ih
    rw [← hu, ← hv]
    unfold bo
    rw [show n - 1 - i = n - (i + 1) by omega, ← hu, ← hv]
    dsimp only
    generalize bo O x y a c n i = o at *
    have hoc : onC O b (down O o) := by rw [ih]; exact sum_on F N (on hx _) (on hy _)
    have h2 : down O (twR O o) = sumR O (mn O (down O x) (u / 2 + u / 2)) (mn O (down O y) (v / 2 + v / 2)) := by
      rw [down_twR L, dbl_sum F L N hA o hoc, ih, sum4 F N (on hx _) (on hy _) (on hx _) (on hy _), madd F N hx, madd F N hy]
    have h2c : onC O b (down O (twR O o)) := by rw [h2]; exact sum_on F N (on hx _) (on hy _)
    have hxy : down O (plR O x y) = sumR O (down O x) (down O y) := by rw [down_plR L, plus_gen F L N hA x y hx hy]
    have hxyc : onC O b (down O (plR O x y)) := by rw [hxy]; exact sum_on F N hx hy
    have s1 : ∀ (Q : Pt α) k, mn O Q (k + 1) = sumR O (mn O Q k) Q := fun _ _ => rfl
    by_cases h3 : u % 2 = 1
    · have eu : u = u / 2 + u / 2 + 1 := by omega
      rw [if_pos h3]
      by_cases h4 : v % 2 = 1
      · have ev : v = v / 2 + v / 2 + 1 := by omega
        rw [if_pos h4, down_plR L, plus_gen F L N hA _ _ h2c hxyc, h2, hxy, sum4 F N (on hx _) (on hy _) hx hy, ← s1, ← s1, ← eu, ← ev]
      · have ev : v = v / 2 + v / 2 := by omega
        rw [if_neg h4, down_plR L, plus_gen F L N hA _ _ h2c hx, h2, sum_assoc F N (on hx _) (on hy _) hx, sum_comm F N (on hy _) hx, ← sum_assoc F N (on hx _) hx (on hy _), ← s1, ← eu, ← ev]
    · have eu : u = u / 2 + u / 2 := by omega
      rw [if_neg h3]
      by_cases h4 : v % 2 = 1
      · have ev : v = v / 2 + v / 2 + 1 := by omega
        rw [if_pos h4, down_plR L, plus_gen F L N hA _ _ h2c hy, h2, sum_assoc F N (on hx _) (on hy _) hy, ← s1, ← eu, ← ev]
      · have ev : v = v / 2 + v / 2 := by omega
        rw [if_neg h4, h2, ← eu, ← ev]
end
end Gp
end
section
set_option linter.unusedSectionVars false
set_option linter.unusedVariables false
set_option linter.unusedSimpArgs false
namespace Gp
open Cv
/-- secp's own doubling, sum and multiples. -/
def dbP {α : Type} [DecidableEq α] (O : Ops α) (p : Jac α) : Jac α := if p.z = O.zero then inf O else dbl O p
def adP {α : Type} [DecidableEq α] (O : Ops α) (p q : Jac α) : Jac α :=
  if p.z = O.zero then q else if q.z = O.zero then p else
  let pz := O.mul p.z p.z
  let qz := O.mul q.z q.z
  let u := O.mul p.x qz
  let v := O.mul q.x pz
  let s := O.mul p.y (O.mul qz q.z)
  let t := O.mul q.y (O.mul pz p.z)
  let h := O.sub v u
  let r := O.sub t s
  if h = O.zero then (if r = O.zero then dbP O p else inf O) else
  let h2 := O.mul h h
  let h3 := O.mul h2 h
  let uh := O.mul u h2
  let x := O.sub (O.sub (O.mul r r) h3) (O.add uh uh)
  ⟨x, O.sub (O.mul r (O.sub uh x)) (O.mul s h3), O.mul h (O.mul p.z q.z)⟩
def tmP {α : Type} [DecidableEq α] (O : Ops α) (p : Jac α) (k n : Nat) : Nat → Jac α
  | 0 => inf O
  | i + 1 => if k / 2 ^ (n - 1 - i) % 2 = 1 then adP O (dbP O (tmP O p k n i)) p else dbP O (tmP O p k n i)
section
variable {α : Type} [DecidableEq α] {O : Ops α} (F : Fd O) (L : Laws O) {b : α} (N : No2 O b) (hA : ∀ P Q : Pt α, onC O b P → onC O b Q → down O (plus O (up O P) (up O Q)) = sumR O P Q)
include L in
theorem down_dbP (p : Jac α) : down O (dbP O p) = down O (dbl O p) := by
  unfold dbP
  by_cases h : p.z = O.zero
  · rw [if_pos h]
    have := dbl_inf L (.inl h : p.z = O.zero ∨ p.y = O.zero)
    unfold down
    rw [if_pos this]
    exact if_pos rfl
  · rw [if_neg h]
include F in
theorem adP_eq (p q : Jac α) : adP O p q = plus O p q := by
  unfold adP plus
  by_cases h1 : p.z = O.zero
  · rw [if_pos h1, if_pos h1]
  rw [if_neg h1, if_neg h1]
  by_cases h2 : q.z = O.zero
  · rw [if_pos h2, if_pos h2]
  rw [if_neg h2, if_neg h2]
  dsimp only
  rw [← F.mul_assoc p.y, ← F.mul_assoc q.y]
  generalize O.mul p.x (O.mul q.z q.z) = u
  generalize O.mul q.x (O.mul p.z p.z) = v
  generalize O.mul (O.mul p.y (O.mul q.z q.z)) q.z = s
  generalize O.mul (O.mul q.y (O.mul p.z p.z)) p.z = t
  by_cases h3 : u = v
  · rw [if_pos (F.sub_of_eq h3.symm), if_pos h3]
    by_cases h4 : s = t
    · rw [if_pos (F.sub_of_eq h4.symm), if_pos h4]
      unfold dbP
      rw [if_neg h1]
    · rw [if_neg (fun e => h4 (F.eq_of_sub e).symm), if_neg h4]
  · rw [if_neg (fun e => h3 (F.eq_of_sub e).symm), if_neg h3, F.mul_comm (O.sub v u) (O.mul p.z q.z)]
include F L N hA
theorem tmP_mn {p : Jac α} (hp : onC O b (down O p)) {k n : Nat} (hk : k < 2 ^ n) : ∀ i, i ≤ n → down O (tmP O p k n i) = mn O (down O p) (k / 2 ^ (n - i))
  | 0, _ => by
    rw [Nat.sub_zero, Nat.div_eq_of_lt hk]
    exact if_pos rfl
  | i + 1, hi => by
    have ih := tmP_mn hp hk i (by omega)
    have on := fun k => mon F N hp k
    obtain ⟨u, hu⟩ : ∃ u, u = k / 2 ^ (n - (i + 1)) := ⟨_, rfl⟩
    have hu2 : k / 2 ^ (n - i) = u / 2 := by rw [hu, Nat.div_div_eq_div_mul, ← Nat.pow_succ]; congr 2; omega
    rw [hu2] at ih
    rw [← hu]
    unfold tmP
    rw [show n - 1 - i = n - (i + 1) by omega, ← hu]
    generalize tmP O p k n i = o at *
    have hoc : onC O b (down O o) := by rw [ih]; exact on _
    have h2 : down O (dbP O o) = mn O (down O p) (u / 2 + u / 2) := by rw [down_dbP L, dbl_sum F L N hA o hoc, ih, madd F N hp]
    by_cases h3 : u % 2 = 1
    · have eu : u = u / 2 + u / 2 + 1 := by omega
      rw [if_pos h3, adP_eq F, plus_gen F L N hA _ _ (by rw [h2]; exact on _) hp, h2]
      show mn O (down O p) (u / 2 + u / 2 + 1) = _
      rw [← eu]
    · have eu : u = u / 2 + u / 2 := by omega
      rw [if_neg h3, h2, ← eu]
end
end Gp
end
section
set_option linter.unusedVariables false
set_option linter.unusedSectionVars false
set_option linter.unusedSimpArgs false
namespace Go.Proofs.YtkhipnhdbaahcaaGreat
open Go Eng
set_option maxRecDepth 100000
set_option exponentiation.threshold 2000
set_option maxHeartbeats 4000000
/-- A prime as a modulus of 256 bits. -/
structure PrF (p : Nat) : Prop extends Mod 256 p where
  pr : NT.Pr p
  two : 2 < p
/-- A prime field's elements as cells: what a walk is not to open. -/
structure Kf (p : Nat) where
  O : Cv.Ops (Fin p)
  w : Fin p → Nat → Int
  v : Fin p → Nat → Int
section
variable {p : Nat}
def Ef (K : Kf p) (a : Fin p) : AVal := .agg [.s .u64 (K.w a 0), .s .u64 (K.w a 1), .s .u64 (K.w a 2), .s .u64 (K.w a 3)]
def Uf (K : Kf p) (a : Fin p) : AVal := .agg [.s .u64 (K.v a 0), .s .u64 (K.v a 1), .s .u64 (K.v a 2), .s .u64 (K.v a 3)]
def Jf (K : Kf p) (j : Cv.Jac (Fin p)) : AVal := .agg [.s .u64 (K.w j.x 0), .s .u64 (K.w j.x 1), .s .u64 (K.w j.x 2), .s .u64 (K.w j.x 3), .s .u64 (K.w j.y 0), .s .u64 (K.w j.y 1), .s .u64 (K.w j.y 2), .s .u64 (K.w j.y 3),
  .s .u64 (K.w j.z 0), .s .u64 (K.w j.z 1), .s .u64 (K.w j.z 2), .s .u64 (K.w j.z 3)]
structure OkF (K : Kf p) (r : List AVal) : Prop where
  add : ∀ a b, Sp 90 [.ref r 0, Ef K a, Ef K b] (Ef K (K.O.add a b))
  sub : ∀ a b, Sp 108 [.ref r 0, Ef K a, Ef K b] (Ef K (K.O.sub a b))
  mul : ∀ a b, Sp 57 [.ref r 0, Ef K a, Ef K b] (Ef K (K.O.mul a b))
  inv : ∀ a, Sp 83 [.ref r 0, Ef K a] (Ef K (K.O.inv a))
  neg : ∀ a, Sp 89 [.ref r 0, Ef K a] (Ef K (K.O.sub K.O.zero a))
  inn : ∀ a, Sp 52 [.ref r 0, Uf K a] (Ef K a)
  out : ∀ a, Sp 53 [.ref r 0, Ef K a] (Uf K a)
  zero : ∀ i, i < 4 → K.w K.O.zero i = 0
  zerov : ∀ i, i < 4 → K.v K.O.zero i = 0
  one : K.v K.O.one 0 = 1 ∧ ∀ i, i < 3 → K.v K.O.one (i + 1) = 0
  sim : ∀ d, simL (simD (d + 1)) r r
  inj : ∀ a b, K.w a 0 = K.w b 0 ∧ K.w a 1 = K.w b 1 ∧ K.w a 2 = K.w b 2 ∧ K.w a 3 = K.w b 3 → a = b
  injv : ∀ a b, K.v a 0 = K.v b 0 ∧ K.v a 1 = K.v b 1 ∧ K.v a 2 = K.v b 2 ∧ K.v a 3 = K.v b 3 → a = b
theorem eqs_decF {A : Ar} (hA : A = Ar.real) {l : List (AVal × AVal)} {p : Prop} [Decidable p] (h : l.all leafEq = true ↔ p) : A.eqs l = decide p := by
  rw [hA]
  show l.all leafEq = _
  by_cases hp : p
  · rw [decide_eq_true hp]; exact h.2 hp
  · rw [decide_eq_false hp]; exact Bool.eq_false_iff.2 fun e => hp (h.1 e)
theorem words_eq {w : Fin p → Nat → Int} (inj : ∀ a b, w a 0 = w b 0 ∧ w a 1 = w b 1 ∧ w a 2 = w b 2 ∧ w a 3 = w b 3 → a = b) {A : Ar} (hA : A = Ar.real) (a b : Fin p) :
    A.eqs [(.s .u64 (w a 0), .s .u64 (w b 0)), (.s .u64 (w a 1), .s .u64 (w b 1)), (.s .u64 (w a 2), .s .u64 (w b 2)), (.s .u64 (w a 3), .s .u64 (w b 3))] = decide (a = b) := by
  have h0 : ∀ x y : Int, leafEq (.s .u64 x, .s .u64 y) = (x == y) := fun x y => rfl
  refine eqs_decF hA ⟨fun h => inj a b ?_, fun h => ?_⟩
  · simpa only [List.all_cons, List.all_nil, h0, beq_iff_eq, Bool.and_eq_true, and_true] using h
  · subst h; simp only [List.all_cons, List.all_nil, h0, beq_iff_eq, Bool.and_eq_true, and_true, and_self]
theorem words_eqz {w : Fin p → Nat → Int} (inj : ∀ a b, w a 0 = w b 0 ∧ w a 1 = w b 1 ∧ w a 2 = w b 2 ∧ w a 3 = w b 3 → a = b) {o : Fin p} (z : ∀ i, i < 4 → w o i = 0) {A : Ar} (hA : A = Ar.real) (a : Fin p) :
    A.eqs [(.s .u64 (w a 0), .i .u64 0), (.s .u64 (w a 1), .i .u64 0), (.s .u64 (w a 2), .i .u64 0), (.s .u64 (w a 3), .i .u64 0)] = decide (a = o) := by
  have h0 : ∀ x : Int, leafEq (.s .u64 x, .i .u64 0) = (x == 0) := fun x => rfl
  refine eqs_decF hA ⟨fun h => inj a _ ?_, fun h => ?_⟩
  · have e := fun i (hi : i < 4) => (z i hi).symm
    simp only [List.all_cons, List.all_nil, h0, beq_iff_eq, Bool.and_eq_true, and_true] at h
    obtain ⟨h0, h1, h2, h3⟩ := h
    exact ⟨h0.trans (e 0 (by decide)), h1.trans (e 1 (by decide)), h2.trans (e 2 (by decide)), h3.trans (e 3 (by decide))⟩
  · subst h
    simp only [List.all_cons, List.all_nil, h0, beq_iff_eq, Bool.and_eq_true, and_true]
    exact ⟨z 0 (by decide), z 1 (by decide), z 2 (by decide), z 3 (by decide)⟩
variable [NeZero p]
theorem fin_subF (a c : Fin p) : (a.val + p - c.val) % p = (a - c).val := by
  rw [Fin.sub_def]
  show _ = (p - c.val + a.val) % p
  have := c.isLt
  congr 1
  omega
def Kof (H : H5) (p : Nat) [NeZero p] : Kf p := ⟨Cv.ops1 Cv.inv1, fun a i => H.lim (H.mf 256 p a.val) i, fun a i => H.lim a.val i⟩
theorem simRF (H : H5) (m : Nat) : ∀ d, simL (simD (d + 1)) (R4 H m) (R4 H m) := by
  intro d
  unfold R4 ring4
  simp [simL, simD, onlyIf]
theorem val_one {p : Nat} [NeZero p] (h : 1 < p) : (1 : Fin p).val = 1 := Nat.mod_eq_of_lt h
theorem okF {H : H5} (hH : H = H5.real) (hp : PrF p) : OkF (Kof H p) (R4 H p) where
  add := fun a c => by
    have h := AddS4 hH hp.toMod (a := a.val) (b := c.val)
    have e : H.add p a.val c.val = (a + c).val := by rw [hH]; exact (Fin.val_add a c).symm
    rw [e] at h; exact h
  sub := fun a c => by
    have h := SubS4 hH hp.toMod c.isLt (a := a.val) (b := c.val)
    have e : H.sub p a.val c.val = (a - c).val := by rw [hH]; exact fin_subF a c
    rw [e] at h; exact h
  mul := fun a c => by
    have h := MulS4 hH hp.toMod (a := a.val) (b := c.val)
    have e : H.mul p a.val c.val = (a * c).val := by rw [hH]; exact (Fin.val_mul a c).symm
    rw [e] at h; exact h
  inv := fun a => by
    have h := InvS4 hH hp.toMod a.isLt
    have e : H.pow p a.val (p - 2) = (Cv.inv1 a).val := by rw [hH]; rfl
    rw [e] at h; exact h
  neg := fun a => by
    have h := NegS4 hH hp.toMod a.isLt
    have e : H.sub p 0 a.val = (0 - a).val := by rw [hH]; exact fin_subF 0 a
    rw [e] at h; exact h
  inn := fun a => by
    have h := InS4 hH hp.toMod (Nat.lt_trans a.isLt hp.lt)
    have e : H.mod p a.val = a.val := by rw [hH]; exact Nat.mod_eq_of_lt a.isLt
    rw [e] at h; exact h
  out := fun a => OutS4 hH hp.toMod a.isLt
  zero := fun i _ => by
    show H.lim (H.mf 256 p ((0 : Fin p).val)) i = 0
    rw [hH, Cv.val_zero]
    show limR (0 * 2 ^ 256 % p) i = 0
    rw [Nat.zero_mul, Nat.zero_mod]
    unfold limR
    rw [Nat.zero_div]; rfl
  zerov := fun i _ => by
    show H.lim ((0 : Fin p).val) i = 0
    rw [hH, Cv.val_zero]
    show limR 0 i = 0
    unfold limR
    rw [Nat.zero_div]; rfl
  one := by
    show H.lim ((1 : Fin p).val) 0 = 1 ∧ ∀ i, i < 3 → H.lim ((1 : Fin p).val) (i + 1) = 0
    rw [hH, val_one hp.one]
    refine ⟨rfl, fun i hi => ?_⟩
    show ((1 / 2 ^ (64 * (i + 1)) % 2 ^ 64 : Nat) : Int) = 0
    rw [Nat.div_eq_of_lt (Nat.one_lt_two_pow (by omega))]; rfl
  sim := simRF H p
  inj := fun a c h => by
    have hl := H5.hlim hH
    have h1 : ∀ x : Fin p, H.mf 256 p x.val < 2 ^ 256 := fun x => by rw [hH]; exact Nat.lt_trans (mf_lt hp.pos) hp.lt
    have e := lim_inj4 hl (h1 a) (h1 c) h
    rw [hH] at e
    exact Fin.ext (mf_inj hp.odd a.isLt c.isLt e)
  injv := fun a c h => Fin.ext (lim_inj4 (H5.hlim hH) (Nat.lt_trans a.isLt hp.lt) (Nat.lt_trans c.isLt hp.lt) h)
end
theorem prP : PrF Sk.pS := ⟨⟨by decide, by decide, by decide⟩, Sk.pPr, by decide⟩
theorem prN : PrF Sk.nS := ⟨⟨by decide, by decide, by decide⟩, Sk.nPr, by decide⟩
end Go.Proofs.YtkhipnhdbaahcaaGreat
end
section
set_option linter.unusedVariables false
set_option linter.unusedSectionVars false
set_option linter.unusedSimpArgs false
namespace Go.Proofs.YtkhipnhdbaahcaaGreat
open Go Eng
set_option maxRecDepth 100000
set_option exponentiation.threshold 2000
set_option maxHeartbeats 4000000
def RDb : Nat → Md := fun r => match r with | 3 => .res [] | _ => .mid
def RAd : Nat → Md := fun r => match r with | 5 => .res [] | 6 => .res [] | 7 => .res [] | 8 => .res [] | _ => .mid
variable {p : Nat} [NeZero p]
theorem jnoneS {k : Kf p} {r : List AVal} (hK : OkF k r) (j : Cv.Jac (Fin p)) (t : Bool) (ht : t = decide (j.z = k.O.zero)) : Sp 107 [Jf k j, .ref r 0] (.sb t) := by
  obtain ⟨x, y, z⟩ := j
  have co := hK.out z
  refine mk Tryz.func107 rfl rfl L0 R1 (by decide +kernel) fun A S hA hS => ?_
  have e1 := (words_eqz hK.injv hK.zerov hA z).trans ht.symm
  unfold bodyOf Tryz.f107
  cbv
  refine ACall.mk _ (cf hS co) ?_
  cbv
  exact e1
theorem jdblS {k : Kf p} {r : List AVal} (hK : OkF k r) (j : Cv.Jac (Fin p)) : Sp 109 [Jf k j, .ref r 0] (Jf k (Gp.dbP k.O j)) := by
  have cn := fun t ht => jnoneS hK j t ht
  obtain ⟨px, py, pz⟩ := j
  unfold Gp.dbP
  dsimp only at cn ⊢
  by_cases h1 : pz = k.O.zero
  · rw [if_pos h1]
    have cn := cn true (decide_eq_true h1).symm
    have z := hK.zero
    refine mk Tryz.func109 rfl rfl L0 RDb (by decide +kernel) fun A S hA hS => ?_
    unfold bodyOf Tryz.f109
    cbv
    refine ACall.mk _ (cf hS cn) ?_
    cbv
    refine ABr.t rfl ?_
    cbv
    repeat' (first | exact (z _ (by decide)).symm | constructor)
  rw [if_neg h1]
  have cn := cn false (decide_eq_false h1).symm
  unfold Cv.dbl
  dsimp only
  obtain ⟨a, ha⟩ : ∃ q_, q_ = k.O.mul px px := ⟨_, rfl⟩
  have ca := hK.mul px px
  rw [← ha] at ca ⊢
  obtain ⟨bb, hbb⟩ : ∃ q_, q_ = k.O.mul py py := ⟨_, rfl⟩
  have cbb := hK.mul py py
  rw [← hbb] at cbb ⊢
  obtain ⟨s0, hs0⟩ : ∃ q_, q_ = k.O.mul px bb := ⟨_, rfl⟩
  have cs0 := hK.mul px bb
  rw [← hs0] at cs0 ⊢
  obtain ⟨s1, hs1⟩ : ∃ q_, q_ = k.O.add s0 s0 := ⟨_, rfl⟩
  have cs1 := hK.add s0 s0
  rw [← hs1] at cs1 ⊢
  obtain ⟨s2, hs2⟩ : ∃ q_, q_ = k.O.add s1 s1 := ⟨_, rfl⟩
  have cs2 := hK.add s1 s1
  rw [← hs2] at cs2 ⊢
  obtain ⟨aa, haa⟩ : ∃ q_, q_ = k.O.add a a := ⟨_, rfl⟩
  have caa := hK.add a a
  rw [← haa] at caa ⊢
  obtain ⟨e, he⟩ : ∃ q_, q_ = k.O.add aa a := ⟨_, rfl⟩
  have ce := hK.add aa a
  rw [← he] at ce ⊢
  obtain ⟨c0, hc0⟩ : ∃ q_, q_ = k.O.mul bb bb := ⟨_, rfl⟩
  have cc0 := hK.mul bb bb
  rw [← hc0] at cc0 ⊢
  obtain ⟨d1, hd1⟩ : ∃ q_, q_ = k.O.add c0 c0 := ⟨_, rfl⟩
  have cd1 := hK.add c0 c0
  rw [← hd1] at cd1 ⊢
  obtain ⟨d2, hd2⟩ : ∃ q_, q_ = k.O.add d1 d1 := ⟨_, rfl⟩
  have cd2 := hK.add d1 d1
  rw [← hd2] at cd2 ⊢
  obtain ⟨d3, hd3⟩ : ∃ q_, q_ = k.O.add d2 d2 := ⟨_, rfl⟩
  have cd3 := hK.add d2 d2
  rw [← hd3] at cd3 ⊢
  obtain ⟨ee, hee⟩ : ∃ q_, q_ = k.O.mul e e := ⟨_, rfl⟩
  have cee := hK.mul e e
  rw [← hee] at cee ⊢
  obtain ⟨ss, hss⟩ : ∃ q_, q_ = k.O.add s2 s2 := ⟨_, rfl⟩
  have css := hK.add s2 s2
  rw [← hss] at css ⊢
  obtain ⟨x, hx⟩ : ∃ q_, q_ = k.O.sub ee ss := ⟨_, rfl⟩
  have cx := hK.sub ee ss
  rw [← hx] at cx ⊢
  obtain ⟨z0, hz0⟩ : ∃ q_, q_ = k.O.mul py pz := ⟨_, rfl⟩
  have cz0 := hK.mul py pz
  rw [← hz0] at cz0 ⊢
  obtain ⟨d, hd⟩ : ∃ q_, q_ = k.O.sub s2 x := ⟨_, rfl⟩
  have cd := hK.sub s2 x
  rw [← hd] at cd ⊢
  obtain ⟨ed, hed⟩ : ∃ q_, q_ = k.O.mul e d := ⟨_, rfl⟩
  have ced := hK.mul e d
  rw [← hed] at ced ⊢
  obtain ⟨y, hy⟩ : ∃ q_, q_ = k.O.sub ed d3 := ⟨_, rfl⟩
  have cy := hK.sub ed d3
  rw [← hy] at cy ⊢
  obtain ⟨z, hz⟩ : ∃ q_, q_ = k.O.add z0 z0 := ⟨_, rfl⟩
  have cz := hK.add z0 z0
  rw [← hz] at cz ⊢
  refine mk Tryz.func109 rfl rfl L0 RDb (by decide +kernel) fun A S hA hS => ?_
  unfold bodyOf Tryz.f109
  cbv
  refine ACall.mk _ (cf hS cn) ?_
  cbv
  refine ABr.f rfl ?_
  cbv
  repeat (first
    | (refine ABr.t (by assumption) ?_; cbv)
    | (refine ABr.f (by assumption) ?_; cbv)
    | (refine ABr.t rfl ?_; cbv)
    | (refine ABr.f rfl ?_; cbv)
    | (refine ACall.mk _ (cf hS ca) ?_; cbv)
    | (refine ACall.mk _ (cf hS cbb) ?_; cbv)
    | (refine ACall.mk _ (cf hS cc0) ?_; cbv)
    | (refine ACall.mk _ (cf hS cs0) ?_; cbv)
    | (refine ACall.mk _ (cf hS cs1) ?_; cbv)
    | (refine ACall.mk _ (cf hS cs2) ?_; cbv)
    | (refine ACall.mk _ (cf hS caa) ?_; cbv)
    | (refine ACall.mk _ (cf hS ce) ?_; cbv)
    | (refine ACall.mk _ (cf hS cee) ?_; cbv)
    | (refine ACall.mk _ (cf hS css) ?_; cbv)
    | (refine ACall.mk _ (cf hS cx) ?_; cbv)
    | (refine ACall.mk _ (cf hS cd1) ?_; cbv)
    | (refine ACall.mk _ (cf hS cd2) ?_; cbv)
    | (refine ACall.mk _ (cf hS cd3) ?_; cbv)
    | (refine ACall.mk _ (cf hS cd) ?_; cbv)
    | (refine ACall.mk _ (cf hS ced) ?_; cbv)
    | (refine ACall.mk _ (cf hS cy) ?_; cbv)
    | (refine ACall.mk _ (cf hS cz0) ?_; cbv)
    | (refine ACall.mk _ (cf hS cz) ?_; cbv))
theorem jaddS {k : Kf p} {r : List AVal} (hK : OkF k r) (j q : Cv.Jac (Fin p)) : Sp 60 [Jf k j, .ref r 0, Jf k q] (Jf k (Gp.adP k.O j q)) := by
  have cn := fun t ht => jnoneS hK j t ht
  have cm := fun t ht => jnoneS hK q t ht
  have cdb := jdblS hK j
  obtain ⟨px, py, pz⟩ := j
  obtain ⟨qx, qy, qz⟩ := q
  unfold Gp.adP
  dsimp only at cn cm ⊢
  by_cases h1 : pz = k.O.zero
  · rw [if_pos h1]
    have cn := cn true (decide_eq_true h1).symm
    refine mk Tryz.func60 rfl rfl L0 RAd (by decide +kernel) fun A S hA hS => ?_
    unfold bodyOf Tryz.f60
    cbv
    refine ACall.mk _ (cf hS cn) ?_
    cbv
    refine ABr.t rfl ?_
    cbv
  rw [if_neg h1]
  have cn := cn false (decide_eq_false h1).symm
  by_cases h2 : qz = k.O.zero
  · rw [if_pos h2]
    have cm := cm true (decide_eq_true h2).symm
    refine mk Tryz.func60 rfl rfl L0 RAd (by decide +kernel) fun A S hA hS => ?_
    unfold bodyOf Tryz.f60
    cbv
    refine ACall.mk _ (cf hS cn) ?_
    cbv
    refine ABr.f rfl ?_
    cbv
    refine ACall.mk _ (cf hS cm) ?_
    cbv
    refine ABr.t rfl ?_
    cbv
  rw [if_neg h2]
  have cm := cm false (decide_eq_false h2).symm
  obtain ⟨pp, hpp⟩ : ∃ q_, q_ = k.O.mul pz pz := ⟨_, rfl⟩
  have cpp := hK.mul pz pz
  rw [← hpp] at cpp ⊢
  obtain ⟨qq, hqq⟩ : ∃ q_, q_ = k.O.mul qz qz := ⟨_, rfl⟩
  have cqq := hK.mul qz qz
  rw [← hqq] at cqq ⊢
  obtain ⟨u, hu⟩ : ∃ q_, q_ = k.O.mul px qq := ⟨_, rfl⟩
  have cu := hK.mul px qq
  rw [← hu] at cu ⊢
  obtain ⟨v, hv⟩ : ∃ q_, q_ = k.O.mul qx pp := ⟨_, rfl⟩
  have cv := hK.mul qx pp
  rw [← hv] at cv ⊢
  obtain ⟨s0, hs0⟩ : ∃ q_, q_ = k.O.mul qq qz := ⟨_, rfl⟩
  have cs0 := hK.mul qq qz
  rw [← hs0] at cs0 ⊢
  obtain ⟨s, hs⟩ : ∃ q_, q_ = k.O.mul py s0 := ⟨_, rfl⟩
  have cs := hK.mul py s0
  rw [← hs] at cs ⊢
  obtain ⟨t0, ht0⟩ : ∃ q_, q_ = k.O.mul pp pz := ⟨_, rfl⟩
  have ct0 := hK.mul pp pz
  rw [← ht0] at ct0 ⊢
  obtain ⟨t, ht⟩ : ∃ q_, q_ = k.O.mul qy t0 := ⟨_, rfl⟩
  have ct := hK.mul qy t0
  rw [← ht] at ct ⊢
  obtain ⟨h, hh⟩ : ∃ q_, q_ = k.O.sub v u := ⟨_, rfl⟩
  have ch := hK.sub v u
  rw [← hh] at ch ⊢
  obtain ⟨rr, hrr⟩ : ∃ q_, q_ = k.O.sub t s := ⟨_, rfl⟩
  have crr := hK.sub t s
  rw [← hrr] at crr ⊢
  have coh := hK.out h
  have cor := hK.out rr
  by_cases h3 : h = k.O.zero
  · rw [if_pos h3]
    by_cases h4 : rr = k.O.zero
    · rw [if_pos h4]
      refine mk Tryz.func60 rfl rfl L0 RAd (by decide +kernel) fun A S hA hS => ?_
      have e3 := (words_eqz hK.injv hK.zerov hA h).trans (decide_eq_true h3)
      have e4 := (words_eqz hK.injv hK.zerov hA rr).trans (decide_eq_true h4)
      generalize Gp.dbP k.O ⟨px, py, pz⟩ = d at *
      unfold bodyOf Tryz.f60
      cbv
      refine ACall.mk _ (cf hS cn) ?_
      cbv
      refine ABr.f rfl ?_
      cbv
      refine ACall.mk _ (cf hS cm) ?_
      cbv
      refine ABr.f rfl ?_
      cbv
      repeat (first
        | (refine ABr.t (by assumption) ?_; cbv)
        | (refine ABr.f (by assumption) ?_; cbv)
        | (refine ABr.t rfl ?_; cbv)
        | (refine ABr.f rfl ?_; cbv)
        | (refine ACall.mk _ (cf hS cpp) ?_; cbv)
        | (refine ACall.mk _ (cf hS cqq) ?_; cbv)
        | (refine ACall.mk _ (cf hS cu) ?_; cbv)
        | (refine ACall.mk _ (cf hS cv) ?_; cbv)
        | (refine ACall.mk _ (cf hS cs0) ?_; cbv)
        | (refine ACall.mk _ (cf hS cs) ?_; cbv)
        | (refine ACall.mk _ (cf hS ct0) ?_; cbv)
        | (refine ACall.mk _ (cf hS ct) ?_; cbv)
        | (refine ACall.mk _ (cf hS ch) ?_; cbv)
        | (refine ACall.mk _ (cf hS crr) ?_; cbv)
        | (refine ACall.mk _ (cf hS coh) ?_; cbv)
        | (refine ACall.mk _ (cf hS cor) ?_; cbv)
        | (refine ACall.mk _ (cf hS cdb) ?_; cbv))
    · rw [if_neg h4]
      refine mk Tryz.func60 rfl rfl L0 RAd (by decide +kernel) fun A S hA hS => ?_
      have e3 := (words_eqz hK.injv hK.zerov hA h).trans (decide_eq_true h3)
      have e4 := (words_eqz hK.injv hK.zerov hA rr).trans (decide_eq_false h4)
      have z := hK.zero
      unfold bodyOf Tryz.f60
      cbv
      refine ACall.mk _ (cf hS cn) ?_
      cbv
      refine ABr.f rfl ?_
      cbv
      refine ACall.mk _ (cf hS cm) ?_
      cbv
      refine ABr.f rfl ?_
      cbv
      repeat (first
        | (refine ABr.t (by assumption) ?_; cbv)
        | (refine ABr.f (by assumption) ?_; cbv)
        | (refine ABr.t rfl ?_; cbv)
        | (refine ABr.f rfl ?_; cbv)
        | (refine ACall.mk _ (cf hS cpp) ?_; cbv)
        | (refine ACall.mk _ (cf hS cqq) ?_; cbv)
        | (refine ACall.mk _ (cf hS cu) ?_; cbv)
        | (refine ACall.mk _ (cf hS cv) ?_; cbv)
        | (refine ACall.mk _ (cf hS cs0) ?_; cbv)
        | (refine ACall.mk _ (cf hS cs) ?_; cbv)
        | (refine ACall.mk _ (cf hS ct0) ?_; cbv)
        | (refine ACall.mk _ (cf hS ct) ?_; cbv)
        | (refine ACall.mk _ (cf hS ch) ?_; cbv)
        | (refine ACall.mk _ (cf hS crr) ?_; cbv)
        | (refine ACall.mk _ (cf hS coh) ?_; cbv)
        | (refine ACall.mk _ (cf hS cor) ?_; cbv))
      repeat' (first | exact (z _ (by decide)).symm | constructor)
  rw [if_neg h3]
  obtain ⟨hh, hhh⟩ : ∃ q_, q_ = k.O.mul h h := ⟨_, rfl⟩
  have chh := hK.mul h h
  rw [← hhh] at chh ⊢
  obtain ⟨hhh, hhhh⟩ : ∃ q_, q_ = k.O.mul hh h := ⟨_, rfl⟩
  have chhh := hK.mul hh h
  rw [← hhhh] at chhh ⊢
  obtain ⟨w, hw⟩ : ∃ q_, q_ = k.O.mul u hh := ⟨_, rfl⟩
  have cw := hK.mul u hh
  rw [← hw] at cw ⊢
  obtain ⟨r2, hr2⟩ : ∃ q_, q_ = k.O.mul rr rr := ⟨_, rfl⟩
  have cr2 := hK.mul rr rr
  rw [← hr2] at cr2 ⊢
  obtain ⟨x0, hx0⟩ : ∃ q_, q_ = k.O.sub r2 hhh := ⟨_, rfl⟩
  have cx0 := hK.sub r2 hhh
  rw [← hx0] at cx0 ⊢
  obtain ⟨ww, hww⟩ : ∃ q_, q_ = k.O.add w w := ⟨_, rfl⟩
  have cww := hK.add w w
  rw [← hww] at cww ⊢
  obtain ⟨x, hx⟩ : ∃ q_, q_ = k.O.sub x0 ww := ⟨_, rfl⟩
  have cx := hK.sub x0 ww
  rw [← hx] at cx ⊢
  obtain ⟨wx, hwx⟩ : ∃ q_, q_ = k.O.sub w x := ⟨_, rfl⟩
  have cwx := hK.sub w x
  rw [← hwx] at cwx ⊢
  obtain ⟨rx, hrx⟩ : ∃ q_, q_ = k.O.mul rr wx := ⟨_, rfl⟩
  have crx := hK.mul rr wx
  rw [← hrx] at crx ⊢
  obtain ⟨sh, hsh⟩ : ∃ q_, q_ = k.O.mul s hhh := ⟨_, rfl⟩
  have csh := hK.mul s hhh
  rw [← hsh] at csh ⊢
  obtain ⟨y, hy⟩ : ∃ q_, q_ = k.O.sub rx sh := ⟨_, rfl⟩
  have cy := hK.sub rx sh
  rw [← hy] at cy ⊢
  obtain ⟨pq, hpq⟩ : ∃ q_, q_ = k.O.mul pz qz := ⟨_, rfl⟩
  have cpq := hK.mul pz qz
  rw [← hpq] at cpq ⊢
  obtain ⟨z, hz⟩ : ∃ q_, q_ = k.O.mul h pq := ⟨_, rfl⟩
  have cz := hK.mul h pq
  rw [← hz] at cz ⊢
  refine mk Tryz.func60 rfl rfl L0 RAd (by decide +kernel) fun A S hA hS => ?_
  have e3 := (words_eqz hK.injv hK.zerov hA h).trans (decide_eq_false h3)
  unfold bodyOf Tryz.f60
  cbv
  refine ACall.mk _ (cf hS cn) ?_
  cbv
  refine ABr.f rfl ?_
  cbv
  refine ACall.mk _ (cf hS cm) ?_
  cbv
  refine ABr.f rfl ?_
  cbv
  repeat (first
    | (refine ABr.t (by assumption) ?_; cbv)
    | (refine ABr.f (by assumption) ?_; cbv)
    | (refine ABr.t rfl ?_; cbv)
    | (refine ABr.f rfl ?_; cbv)
    | (refine ACall.mk _ (cf hS cpp) ?_; cbv)
    | (refine ACall.mk _ (cf hS cqq) ?_; cbv)
    | (refine ACall.mk _ (cf hS cu) ?_; cbv)
    | (refine ACall.mk _ (cf hS cv) ?_; cbv)
    | (refine ACall.mk _ (cf hS cs0) ?_; cbv)
    | (refine ACall.mk _ (cf hS cs) ?_; cbv)
    | (refine ACall.mk _ (cf hS ct0) ?_; cbv)
    | (refine ACall.mk _ (cf hS ct) ?_; cbv)
    | (refine ACall.mk _ (cf hS ch) ?_; cbv)
    | (refine ACall.mk _ (cf hS crr) ?_; cbv)
    | (refine ACall.mk _ (cf hS coh) ?_; cbv))
  repeat (first
    | (refine ABr.t (by assumption) ?_; cbv)
    | (refine ABr.f (by assumption) ?_; cbv)
    | (refine ABr.t rfl ?_; cbv)
    | (refine ABr.f rfl ?_; cbv)
    | (refine ACall.mk _ (cf hS chh) ?_; cbv)
    | (refine ACall.mk _ (cf hS chhh) ?_; cbv)
    | (refine ACall.mk _ (cf hS cw) ?_; cbv)
    | (refine ACall.mk _ (cf hS cr2) ?_; cbv)
    | (refine ACall.mk _ (cf hS cx0) ?_; cbv)
    | (refine ACall.mk _ (cf hS cww) ?_; cbv)
    | (refine ACall.mk _ (cf hS cx) ?_; cbv)
    | (refine ACall.mk _ (cf hS cwx) ?_; cbv)
    | (refine ACall.mk _ (cf hS crx) ?_; cbv)
    | (refine ACall.mk _ (cf hS csh) ?_; cbv)
    | (refine ACall.mk _ (cf hS cy) ?_; cbv)
    | (refine ACall.mk _ (cf hS cpq) ?_; cbv)
    | (refine ACall.mk _ (cf hS cz) ?_; cbv))
end Go.Proofs.YtkhipnhdbaahcaaGreat
end
section
set_option linter.unusedVariables false
set_option linter.unusedSectionVars false
set_option linter.unusedSimpArgs false
namespace Go.Proofs.YtkhipnhdbaahcaaGreat
open Go Eng
set_option maxRecDepth 100000
set_option exponentiation.threshold 2000
set_option maxHeartbeats 4000000
variable {p : Nat} [NeZero p]
/-- A point as cells. -/
def Pf (k : Kf p) : Cv.Pt (Fin p) → AVal
  | none => .agg [.i .u64 0, .i .u64 0, .i .u64 0, .i .u64 0, .i .u64 0, .i .u64 0, .i .u64 0, .i .u64 0, .b true]
  | some (x, y) => .agg [.s .u64 (k.v x 0), .s .u64 (k.v x 1), .s .u64 (k.v x 2), .s .u64 (k.v x 3), .s .u64 (k.v y 0), .s .u64 (k.v y 1), .s .u64 (k.v y 2), .s .u64 (k.v y 3), .b false]
theorem infS {k : Kf p} : Sp 54 [] (Pf k none) := by
  refine mk Tryz.func54 rfl rfl L0 R1 (by decide +kernel) fun A S hA hS => ?_
  unfold bodyOf Tryz.f54
  cbv
theorem jacS {k : Kf p} {r : List AVal} (hK : OkF k r) (P : Cv.Pt (Fin p)) : Sp 59 [.ref r 0, Pf k P] (Jf k (Cv.up k.O P)) := by
  rcases P with _ | ⟨x, y⟩
  · have z := hK.zero
    refine mk Tryz.func59 rfl rfl L0 R1 (by decide +kernel) fun A S hA hS => ?_
    unfold bodyOf Tryz.f59
    cbv
    repeat' (first | exact (z _ (by decide)).symm | constructor)
  · have cx := hK.inn x
    have cy := hK.inn y
    have co := hK.inn k.O.one
    have e0 := hK.one.1
    have es := hK.one.2
    unfold Cv.up
    generalize k.O.one = o at *
    refine mk Tryz.func59 rfl rfl L0 R1 (by decide +kernel) fun A S hA hS => ?_
    unfold bodyOf Tryz.f59
    cbv
    refine ACall.mk _ (cf hS cx) ?_
    cbv
    refine ACall.mk _ (cf hS cy) ?_
    cbv
    refine ACall.mk _ (cg hS co ?_) ?_
    · cbv
      repeat' (first | exact e0.symm | exact (es _ (by decide)).symm | (have h := hK.sim 10; unfold simL at h; exact h) | exact trivial | constructor)
    cbv
theorem affS {k : Kf p} {r : List AVal} (hK : OkF k r) (L : Cv.Laws k.O) (j : Cv.Jac (Fin p)) : Sp 61 [Jf k j, .ref r 0] (Pf k (Cv.down k.O j)) := by
  have ci := infS (k := k)
  obtain ⟨px, py, pz⟩ := j
  have co := hK.out pz
  unfold Cv.down
  dsimp only
  by_cases h : pz = k.O.zero
  · rw [if_pos h]
    refine mk Tryz.func61 rfl rfl L0 R1 (by decide +kernel) fun A S hA hS => ?_
    have e1 := (words_eqz hK.inj hK.zero hA pz).trans (decide_eq_true h)
    unfold bodyOf Tryz.f61
    cbv
    repeat (first
      | (refine ABr.t (by assumption) ?_; cbv)
      | (refine ABr.f (by assumption) ?_; cbv)
      | (refine ABr.t rfl ?_; cbv)
      | (refine ABr.f rfl ?_; cbv)
      | (refine ACall.mk _ (cf hS ci) ?_; cbv))
  · rw [if_neg h, L.assoc py]
    obtain ⟨i_, hi_⟩ : ∃ q_, q_ = k.O.inv pz := ⟨_, rfl⟩
    have ci_ := hK.inv pz
    rw [← hi_] at ci_ ⊢
    obtain ⟨i2, hi2⟩ : ∃ q_, q_ = k.O.mul i_ i_ := ⟨_, rfl⟩
    have ci2 := hK.mul i_ i_
    rw [← hi2] at ci2 ⊢
    obtain ⟨x, hx⟩ : ∃ q_, q_ = k.O.mul px i2 := ⟨_, rfl⟩
    have cx := hK.mul px i2
    rw [← hx] at cx ⊢
    obtain ⟨i3, hi3⟩ : ∃ q_, q_ = k.O.mul i2 i_ := ⟨_, rfl⟩
    have ci3 := hK.mul i2 i_
    rw [← hi3] at ci3 ⊢
    obtain ⟨y, hy⟩ : ∃ q_, q_ = k.O.mul py i3 := ⟨_, rfl⟩
    have cy := hK.mul py i3
    rw [← hy] at cy ⊢
    have cox := hK.out x
    have coy := hK.out y
    refine mk Tryz.func61 rfl rfl L0 R1 (by decide +kernel) fun A S hA hS => ?_
    have e1 := (words_eqz hK.inj hK.zero hA pz).trans (decide_eq_false h)
    have e2 := (words_eqz hK.injv hK.zerov hA pz).trans (decide_eq_false h)
    unfold bodyOf Tryz.f61
    cbv
    repeat (first
      | (refine ABr.t (by assumption) ?_; cbv)
      | (refine ABr.f (by assumption) ?_; cbv)
      | (refine ABr.t rfl ?_; cbv)
      | (refine ABr.f rfl ?_; cbv)
      | (refine ACall.mk _ (cf hS co) ?_; cbv)
      | (refine ACall.mk _ (cf hS ci_) ?_; cbv)
      | (refine ACall.mk _ (cf hS ci2) ?_; cbv)
      | (refine ACall.mk _ (cf hS cx) ?_; cbv)
      | (refine ACall.mk _ (cf hS cox) ?_; cbv)
      | (refine ACall.mk _ (cf hS ci3) ?_; cbv)
      | (refine ACall.mk _ (cf hS cy) ?_; cbv)
      | (refine ACall.mk _ (cf hS coy) ?_; cbv))
end Go.Proofs.YtkhipnhdbaahcaaGreat
end
section
set_option linter.unusedVariables false
set_option linter.unusedSimpArgs false
namespace Go.Proofs.YtkhipnhdbaahcaaGreat
open Go Eng
set_option maxRecDepth 100000
set_option exponentiation.threshold 2000
set_option maxHeartbeats 4000000
theorem isNaNS (x : Int) : Sp 132 [.s .u64 x] (.b false) := by
  refine mk Tryz.func132 rfl rfl L0 R1 (by decide +kernel) fun A S hA hS => ?_
  have h : A.cmp .neq x x = false := by
    rw [hA]; show (x != x) = false; simp
  unfold bodyOf Tryz.f132
  cbv
  exact h
def sgn (x y : Int) : Int := if x < y then -1 else if y < x then 1 else 0
theorem compareS (x y r : Int) (hr : r = sgn x y) : Sp 97 [.s .u64 x, .s .u64 y] (.s .i64 r) := by
  have nx := isNaNS x
  have ny := isNaNS y
  unfold sgn at hr
  by_cases h1 : x < y
  · rw [if_pos h1] at hr
    subst hr
    refine mk Tryz.func97 rfl rfl L0 R1 (by decide +kernel) fun A S hA hS => ?_
    have e1 : A.cmp .lss x y = true := (i_lt hA).trans (decide_eq_true h1)
    unfold bodyOf Tryz.f97
    cbv
    refine ACall.mk _ (cf hS nx) ?_
    cbv
    refine ACall.mk _ (cf hS ny) ?_
    cbv
    refine ABr.t e1 ?_
    cbv
  rw [if_neg h1] at hr
  by_cases h2 : y < x
  · rw [if_pos h2] at hr
    subst hr
    refine mk Tryz.func97 rfl rfl L0 R1 (by decide +kernel) fun A S hA hS => ?_
    have e1 : A.cmp .lss x y = false := (i_lt hA).trans (decide_eq_false h1)
    have e2 : A.cmp .gtr x y = true := by rw [hA]; exact decide_eq_true h2
    unfold bodyOf Tryz.f97
    cbv
    refine ACall.mk _ (cf hS nx) ?_
    cbv
    refine ACall.mk _ (cf hS ny) ?_
    cbv
    refine ABr.f e1 ?_
    cbv
    refine ABr.t e2 ?_
    cbv
  · rw [if_neg h2] at hr
    subst hr
    refine mk Tryz.func97 rfl rfl L0 R1 (by decide +kernel) fun A S hA hS => ?_
    have e1 : A.cmp .lss x y = false := (i_lt hA).trans (decide_eq_false h1)
    have e2 : A.cmp .gtr x y = false := by rw [hA]; exact decide_eq_false h2
    unfold bodyOf Tryz.f97
    cbv
    refine ACall.mk _ (cf hS nx) ?_
    cbv
    refine ACall.mk _ (cf hS ny) ?_
    cbv
    refine ABr.f e1 ?_
    cbv
    refine ABr.f e2 ?_
    cbv
theorem orS (a b c d r : Int) (hr : r = if a ≠ 0 then a else if b ≠ 0 then b else if c ≠ 0 then c else d) : Sp 96 [.lst false 4 [.s .i64 a, .s .i64 b, .s .i64 c, .s .i64 d]] (.s .i64 r) := by
  by_cases ha : a ≠ 0
  · rw [if_pos ha] at hr
    rw [hr]
    refine mk Tryz.func96 rfl rfl L0 R1 (by decide +kernel) fun A S hA hS => ?_
    have ea : A.cmp .neq a 0 = true := by rw [hA]; exact bne_iff_ne.2 ha
    unfold bodyOf Tryz.f96
    cbv
    refine ABr.t ea ?_
    cbv
  rw [if_neg ha] at hr
  by_cases hb : b ≠ 0
  · rw [if_pos hb] at hr
    rw [hr]
    refine mk Tryz.func96 rfl rfl L0 R1 (by decide +kernel) fun A S hA hS => ?_
    have ea : A.cmp .neq a 0 = false := by rw [hA]; exact bne_eq_false_iff_eq.2 (Decidable.not_not.1 ha)
    have eb : A.cmp .neq b 0 = true := by rw [hA]; exact bne_iff_ne.2 hb
    unfold bodyOf Tryz.f96
    cbv
    refine ABr.f ea ?_
    cbv
    refine ABr.t eb ?_
    cbv
  rw [if_neg hb] at hr
  by_cases hc : c ≠ 0
  · rw [if_pos hc] at hr
    rw [hr]
    refine mk Tryz.func96 rfl rfl L0 R1 (by decide +kernel) fun A S hA hS => ?_
    have ea : A.cmp .neq a 0 = false := by rw [hA]; exact bne_eq_false_iff_eq.2 (Decidable.not_not.1 ha)
    have eb : A.cmp .neq b 0 = false := by rw [hA]; exact bne_eq_false_iff_eq.2 (Decidable.not_not.1 hb)
    have ec : A.cmp .neq c 0 = true := by rw [hA]; exact bne_iff_ne.2 hc
    unfold bodyOf Tryz.f96
    cbv
    refine ABr.f ea ?_
    cbv
    refine ABr.f eb ?_
    cbv
    refine ABr.t ec ?_
    cbv
  rw [if_neg hc] at hr
  by_cases hd : d ≠ 0
  · have hr : r = d := hr
    rw [hr]
    refine mk Tryz.func96 rfl rfl L0 R1 (by decide +kernel) fun A S hA hS => ?_
    have ea : A.cmp .neq a 0 = false := by rw [hA]; exact bne_eq_false_iff_eq.2 (Decidable.not_not.1 ha)
    have eb : A.cmp .neq b 0 = false := by rw [hA]; exact bne_eq_false_iff_eq.2 (Decidable.not_not.1 hb)
    have ec : A.cmp .neq c 0 = false := by rw [hA]; exact bne_eq_false_iff_eq.2 (Decidable.not_not.1 hc)
    have ed : A.cmp .neq d 0 = true := by rw [hA]; exact bne_iff_ne.2 hd
    unfold bodyOf Tryz.f96
    cbv
    refine ABr.f ea ?_
    cbv
    refine ABr.f eb ?_
    cbv
    refine ABr.f ec ?_
    cbv
    refine ABr.t ed ?_
    cbv
  have hr : r = d := hr
  rw [hr]
  refine mk Tryz.func96 rfl rfl L0 R1 (by decide +kernel) fun A S hA hS => ?_
  have ea : A.cmp .neq a 0 = false := by rw [hA]; exact bne_eq_false_iff_eq.2 (Decidable.not_not.1 ha)
  have eb : A.cmp .neq b 0 = false := by rw [hA]; exact bne_eq_false_iff_eq.2 (Decidable.not_not.1 hb)
  have ec : A.cmp .neq c 0 = false := by rw [hA]; exact bne_eq_false_iff_eq.2 (Decidable.not_not.1 hc)
  have ed : A.cmp .neq d 0 = false := by rw [hA]; exact bne_eq_false_iff_eq.2 (Decidable.not_not.1 hd)
  unfold bodyOf Tryz.f96
  cbv
  refine ABr.f ea ?_
  cbv
  refine ABr.f eb ?_
  cbv
  refine ABr.f ec ?_
  cbv
  refine ABr.f ed ?_
  cbv
  exact (Decidable.not_not.1 hd).symm
def cmpZ (x y : Nat) : Int := if x < y then -1 else if y < x then 1 else 0
theorem lexi {x0 x1 x2 x3 y0 y1 y2 y3 : Int} (hx0 : 0 ≤ x0 ∧ x0 < 18446744073709551616) (hx1 : 0 ≤ x1 ∧ x1 < 18446744073709551616) (hx2 : 0 ≤ x2 ∧ x2 < 18446744073709551616) (hx3 : 0 ≤ x3 ∧ x3 < 18446744073709551616) (hy0 : 0 ≤ y0 ∧ y0 < 18446744073709551616) (hy1 : 0 ≤ y1 ∧ y1 < 18446744073709551616) (hy2 : 0 ≤ y2 ∧ y2 < 18446744073709551616) (hy3 : 0 ≤ y3 ∧ y3 < 18446744073709551616)
    {x y : Nat} (hx : (x : Int) = x0 + 18446744073709551616 * (x1 + 18446744073709551616 * (x2 + 18446744073709551616 * x3))) (hy : (y : Int) = y0 + 18446744073709551616 * (y1 + 18446744073709551616 * (y2 + 18446744073709551616 * y3))) :
    cmpZ x y = if sgn x3 y3 ≠ 0 then sgn x3 y3 else if sgn x2 y2 ≠ 0 then sgn x2 y2 else if sgn x1 y1 ≠ 0 then sgn x1 y1 else sgn x0 y0 := by
  have key : ∀ u v : Int, (sgn u v = -1 ∧ u < v) ∨ (sgn u v = 1 ∧ v < u) ∨ (sgn u v = 0 ∧ u = v) := by
    intro u v
    unfold sgn
    by_cases h1 : u < v
    · rw [if_pos h1]; exact .inl ⟨rfl, h1⟩
    · rw [if_neg h1]
      by_cases h2 : v < u
      · rw [if_pos h2]; exact .inr (.inl ⟨rfl, h2⟩)
      · rw [if_neg h2]; exact .inr (.inr ⟨rfl, by omega⟩)
  have k3 := key x3 y3
  have k2 := key x2 y2
  have k1 := key x1 y1
  have k0 := key x0 y0
  generalize sgn x3 y3 = s3 at *
  generalize sgn x2 y2 = s2 at *
  generalize sgn x1 y1 = s1 at *
  generalize sgn x0 y0 = s0 at *
  unfold cmpZ
  have n1 : (-1 : Int) ≠ 0 := by decide
  have n2 : (1 : Int) ≠ 0 := by decide
  have nz : ¬ ((0 : Int) ≠ 0) := fun h => h rfl
  rcases k3 with ⟨rfl, h3⟩ | ⟨rfl, h3⟩ | ⟨rfl, h3⟩
  · rw [if_pos (by omega), if_pos n1]
  · rw [if_neg (by omega), if_pos (by omega), if_pos n2]
  rw [if_neg nz]
  rcases k2 with ⟨rfl, h2⟩ | ⟨rfl, h2⟩ | ⟨rfl, h2⟩
  · rw [if_pos (by omega), if_pos n1]
  · rw [if_neg (by omega), if_pos (by omega), if_pos n2]
  rw [if_neg nz]
  rcases k1 with ⟨rfl, h1⟩ | ⟨rfl, h1⟩ | ⟨rfl, h1⟩
  · rw [if_pos (by omega), if_pos n1]
  · rw [if_neg (by omega), if_pos (by omega), if_pos n2]
  rw [if_neg nz]
  rcases k0 with ⟨rfl, h0⟩ | ⟨rfl, h0⟩ | ⟨rfl, h0⟩
  · rw [if_pos (by omega)]
  · rw [if_neg (by omega), if_pos (by omega)]
  · rw [if_neg (by omega), if_neg (by omega)]
theorem cmpS {lim : Lim} (hl : lim = limR) (x y : Nat) (hx : x < 2 ^ 256) (hy : y < 2 ^ 256) : Sp 47 [u4 lim x, u4 lim y] (.s .i64 (cmpZ x y)) := by
  have rx := fun i => lim_range hl x i
  have ry := fun i => lim_range hl y i
  have hz := lexi (rx 0) (rx 1) (rx 2) (rx 3) (ry 0) (ry 1) (ry 2) (ry 3) (split4 hl x hx) (split4 hl y hy)
  generalize cmpZ x y = z at *
  obtain ⟨s, hs⟩ : ∃ s : Nat → Int, s = fun i => sgn (lim x i) (lim y i) := ⟨_, rfl⟩
  have c := fun i => compareS (lim x i) (lim y i) (s i) (by rw [hs])
  have c0 := c 0
  have c1 := c 1
  have c2 := c 2
  have c3 := c 3
  have co := orS (s 3) (s 2) (s 1) (s 0) z (by rw [hs]; exact hz)
  clear hs hz c
  refine mk Tryz.func47 rfl rfl L0 R2 (by decide +kernel) fun A S hA hS => ?_
  unfold bodyOf Tryz.f47
  cbv
  refine ACall.mk _ (cf hS c3) ?_
  cbv
  refine ACall.mk _ (cf hS c2) ?_
  cbv
  refine ACall.mk _ (cf hS c1) ?_
  cbv
  refine ACall.mk _ (cf hS c0) ?_
  cbv
  refine ACall.mk _ (cf hS co) ?_
  cbv
theorem borrowS {lim : Lim} (hl : lim = limR) (a b o k : Nat) (ha : a < 2 ^ 256) (hb : b < 2 ^ 256) (h : o + b = a + 2 ^ 256 * k) (ho : o < 2 ^ 256) (t : Bool) (ht : t = decide ((k : Int) ≠ 0)) :
    Sp 106 [u4 lim a, u4 lim b] (.tup [u4 lim o, .sb t]) := by
  have la := fun i => lim_range hl a i
  have lb := fun i => lim_range hl b i
  obtain ⟨o0, k1, e0, r0, q1⟩ := borrow (la 0) (lb 0) (z := 0) (by omega)
  obtain ⟨o1, k2, e1, r1, q2⟩ := borrow (la 1) (lb 1) q1
  obtain ⟨o2, k3, e2, r2, q3⟩ := borrow (la 2) (lb 2) q2
  obtain ⟨o3, k4, e3, r3, q4⟩ := borrow (la 3) (lb 3) q3
  have hs := dif4 (split4 hl a ha) (split4 hl b hb) h ho e0 e1 e2 e3 r0 r1 r2 r3
  have hf := lim_of4 hl ho r0 r1 r2 hs.1
  obtain ⟨f0, f1, f2, f3⟩ := hf
  have hk : decide (k4 ≠ 0) = t := by rw [ht, hs.2]
  refine mk Tryz.func106 rfl rfl L0 R0 (by decide +kernel) fun A S hA hS => ?_
  have hne : A.cmp .neq k4 0 = t := by
    rw [← hk, hA]
    show (k4 != 0) = _
    by_cases h : k4 = 0
    · subst h; rfl
    · rw [decide_eq_true h]; exact bne_iff_ne.2 h
  unfold bodyOf Tryz.f106
  cbv
  refine ACall.mk (.tup [.s .u64 o0, .s .u64 k1]) (cf hS (sub64S (.s _) (.s _) (.i _) (la 0) (lb 0) (by omega) _ _ e0 r0)) ?_
  cbv
  refine ACall.mk (.tup [.s .u64 o1, .s .u64 k2]) (cf hS (sub64S (.s _) (.s _) (.s _) (la 1) (lb 1) q1 _ _ e1 r1)) ?_
  cbv
  refine ACall.mk (.tup [.s .u64 o2, .s .u64 k3]) (cf hS (sub64S (.s _) (.s _) (.s _) (la 2) (lb 2) q2 _ _ e2 r2)) ?_
  cbv
  refine ACall.mk (.tup [.s .u64 o3, .s .u64 k4]) (cf hS (sub64S (.s _) (.s _) (.s _) (la 3) (lb 3) q3 _ _ e3 r3)) ?_
  cbv
  exact ⟨⟨f0.symm, f1.symm, f2.symm, f3.symm⟩, hne⟩
theorem subS {lim : Lim} (hl : lim = limR) (a b : Nat) (ha : a < 2 ^ 256) (hb : b ≤ a) : Sp 56 [u4 lim a, u4 lim b] (u4 lim (a - b)) := by
  have c := borrowS hl a b (a - b) 0 ha (by omega) (by omega) (by omega) false rfl
  generalize a - b = o at *
  refine mk Tryz.func56 rfl rfl L0 R0 (by decide +kernel) fun A S hA hS => ?_
  unfold bodyOf Tryz.f56
  cbv
  refine ACall.mk _ (cf hS c) ?_
  cbv
end Go.Proofs.YtkhipnhdbaahcaaGreat
end
