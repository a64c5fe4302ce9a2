import Derived.Test.YtkhipnhdbaahcaaGreatQBM
import Derived.KernelRfl
section
set_option linter.unusedVariables false
set_option linter.unusedSimpArgs false
namespace Go.Proofs.YtkhipnhdbaahcaaGreat
open Go Eng
set_option maxRecDepth 100000
set_option exponentiation.threshold 2000
/-- Loops of Make: the second one waits for an invariant. -/
def LMk : Nat → Nat := fun b => match b with | 0 => 20 | _ => 0
theorem newton_lt (m : Nat) : ∀ k, newton m k < 18446744073709551616
  | 0 => by show 1 < 18446744073709551616; decide
  | k + 1 => Nat.mod_lt _ (by omega)
theorem newton_bin {A : Ar} (hA : A = Ar.real) {lim : Lim} (hl : lim = limR) (m k : Nat) {x : Int} (hx : x = (newton m k : Nat)) : A.bin .mul .u64 x (A.bin .sub .u64 2 (A.bin .mul .u64 (lim m 0) x)) = (newton m (k + 1) : Nat) := by
  subst hx
  rw [lim_mod hl, hA]
  show rbin .mul .u64 (Int.ofNat (newton m k)) (rbin .sub .u64 (Int.ofNat 2) (rbin .mul .u64 (Int.ofNat (m % 18446744073709551616)) (Int.ofNat (newton m k)))) = _
  rw [u_mul, u_sub _ _ (by omega), u_mul]
  show ((newton m k * ((2 + 18446744073709551616 - m % 18446744073709551616 * newton m k % 18446744073709551616) % 18446744073709551616) % 18446744073709551616 : Nat) : Int) = ((newton m k * ((18446744073709551616 + 2 - m * newton m k % 18446744073709551616) % 18446744073709551616) % 18446744073709551616 : Nat) : Int)
  rw [Nat.mod_mul_mod, Nat.add_comm 2]
theorem neg_bin {A : Ar} (hA : A = Ar.real) {x : Int} {n : Nat} (hx : x = (n : Nat)) (hn : n < 18446744073709551616) : A.un .neg .u64 x = ((18446744073709551616 - n) % 18446744073709551616 : Nat) := by
  subst hx
  rw [hA]
  show IntKind.u64.wrap (0 - (n : Int)) = _
  rw [wrap_u64]
  omega
theorem leafEq_si (k k' : IntKind) (a b : Int) : leafEq (.s k a, .i k' b) = decide (a = b) := by
  show (a == b) = _
  by_cases h : a = b <;> simp [h]
theorem leafEq_ii (k k' : IntKind) (a b : Int) : leafEq (.i k a, .i k' b) = decide (a = b) := by
  show (a == b) = _
  by_cases h : a = b <;> simp [h]
theorem small4 {A : Ar} (hA : A = Ar.real) {lim : Lim} (hl : lim = limR) {m : Nat} (hm : m < 2 ^ 256) : A.eqs [(.i .u64 0, .i .u64 0), (.s .u64 (lim m 1), .i .u64 0), (.s .u64 (lim m 2), .i .u64 0), (.s .u64 (lim m 3), .i .u64 0)] = decide (m < 18446744073709551616) := by
  rw [eqs_real hA]
  simp only [List.all_cons, List.all_nil, leafEq_si, leafEq_ii, Bool.and_true]
  have e := split4 hl m hm
  have hr := fun i => lim_range hl m i
  have r0 := hr 0
  have r1 := hr 1
  have r2 := hr 2
  have r3 := hr 3
  clear hr
  by_cases h : m < 18446744073709551616
  · rw [decide_eq_true h]
    simp only [Bool.and_eq_true, decide_eq_true_eq]
    refine ⟨trivial, ?_, ?_, ?_⟩ <;> omega
  · rw [decide_eq_false h]
    refine Bool.eq_false_iff.2 fun h' => h ?_
    simp only [Bool.and_eq_true, decide_eq_true_eq] at h'
    omega
theorem MakeS4 {H : H5} (hH : H = H5.real) {m : Nat} (hR : Mod 256 m) : Sp 98 [u4 H.lim m] (.tup [.ref (R4 H m) 0, .i .i64 0]) := by
  have hl := H5.hlim hH
  have hlim := hR.lt
  obtain ⟨X, hX⟩ : ∃ X : Nat → Nat, X = fun i => 2 ^ i % m := ⟨_, rfl⟩
  obtain ⟨O, hO⟩ : ∃ O : Nat → Nat, O = fun i => if i ≤ 256 then 0 else 2 ^ 256 % m := ⟨_, rfl⟩
  have hX0 : X 0 = 1 := by rw [hX]; exact Nat.mod_eq_of_lt hR.one
  have hXs : ∀ i, X (i + 1) = (X i + X i) % m := by
    intro i; rw [hX]; show 2 ^ (i + 1) % m = (2 ^ i % m + 2 ^ i % m) % m
    rw [← Nat.add_mod, Nat.pow_succ, Nat.mul_two]
  have hXm : ∀ i, X i < m := by intro i; rw [hX]; exact Nat.mod_lt _ hR.pos
  have hO0 : O 0 = 0 := by rw [hO]; rfl
  have hOs : ∀ i, O (i + 1) = if i = 256 then X i else O i := by
    intro i; rw [hO, hX]
    show (if i + 1 ≤ 256 then 0 else 2 ^ 256 % m) = if i = 256 then 2 ^ i % m else if i ≤ 256 then 0 else 2 ^ 256 % m
    by_cases h : i = 256
    · subst h; rfl
    · rw [if_neg h]; by_cases h2 : i ≤ 256
      · rw [if_pos h2, if_pos (by omega)]
      · rw [if_neg h2, if_neg (by omega)]
  have hOe : O (2 * 256) = H.mf 256 m 1 := by rw [hO, hH]; show 2 ^ 256 % m = 1 * 2 ^ 256 % m; rw [Nat.one_mul]
  have hXe : X (2 * 256) = H.mf (2 * 256) m 1 := by rw [hX, hH]; show 2 ^ (2 * 256) % m = 1 * 2 ^ (2 * 256) % m; rw [Nat.one_mul]
  have hz : ∀ i, H.lim 0 i = 0 := by intro i; rw [hH]; show ((0 / 2 ^ (64 * i) % 2 ^ 64 : Nat) : Int) = 0; rw [Nat.zero_div]; rfl
  have h10 : H.lim 1 0 = 1 := by rw [hH]; rfl
  have h1s : ∀ i, i < 4 - 1 → H.lim 1 (i + 1) = 0 := by
    intro i hi; rw [hH]; show ((1 / 2 ^ (64 * (i + 1)) % 2 ^ 64 : Nat) : Int) = 0
    rw [Nat.div_eq_of_lt (Nat.one_lt_two_pow (by omega))]; rfl
  refine mk Tryz.func98 rfl rfl LMk R1 (by decide +kernel) fun A S hA hS => ?_
  have e1 : A.cmp .eql (A.bin .and .u64 (H.lim m 0) 1) 0 = false := (even_lim4 hA hl m).trans (decide_eq_false (by have := hR.odd; omega))
  have e2 := small4 hA hl hR.lt
  have e3 : m < 18446744073709551616 → A.cmp .lss (H.lim m 0) 3 = false := by
    intro h
    refine (i_lt hA).trans (decide_eq_false ?_)
    rw [lim_mod hl, Nat.mod_eq_of_lt h]
    have := hR.odd; have := hR.one
    omega
  have n1 := newton_bin hA hl m 0 (x := 1) rfl
  have n2 := newton_bin hA hl m 1 n1
  have n3 := newton_bin hA hl m 2 n2
  have n4 := newton_bin hA hl m 3 n3
  have n5 := newton_bin hA hl m 4 n4
  have n6 := newton_bin hA hl m 5 n5
  have hinv := (neg_bin hA n6 (newton_lt m 6)).trans (show (((18446744073709551616 - newton m 6) % 18446744073709551616 : Nat) : Int) = ((H.minv m : Nat) : Int) from by rw [hH]; rfl)
  clear n1 n2 n3 n4 n5 n6
  unfold bodyOf Tryz.f98
  cbv
  repeat (refine ABr.f e1 ?_; cbv)
  refine ACall.mk _ (cf hS none4S) ?_
  cbv
  repeat (refine ABr.f e1 ?_; cbv)
  have hcase : (A.eqs [(.i .u64 0, .i .u64 0), (.s .u64 (H.lim m 1), .i .u64 0), (.s .u64 (H.lim m 2), .i .u64 0), (.s .u64 (H.lim m 3), .i .u64 0)] = true ∧ A.cmp .lss (H.lim m 0) 3 = false) ∨ A.eqs [(.i .u64 0, .i .u64 0), (.s .u64 (H.lim m 1), .i .u64 0), (.s .u64 (H.lim m 2), .i .u64 0), (.s .u64 (H.lim m 3), .i .u64 0)] = false := by
    rw [e2]
    by_cases h : m < 18446744073709551616
    · exact .inl ⟨decide_eq_true h, e3 h⟩
    · exact .inr (decide_eq_false h)
  clear e2 e3
  rcases hcase with ⟨e2, e3⟩ | e2
  all_goals
    repeat (first | (refine ABr.f (by assumption) ?_; cbv) | (refine ABr.t (by assumption) ?_; cbv))
    refine .inv (α := Nat) (fun i => ⟨[.agg [.s .u64 (H.lim m 0), .s .u64 (H.lim m 1), .s .u64 (H.lim m 2), .s .u64 (H.lim m 3)], .own 0 0, .v (.pointer none), .i .i64 0, .own 1 0, .own 2 0, .any, .own 3 0, .any, .any, .any, .any, .any, .any, .any, .any, .any, .any, .any, .any, .any, .any, .any, .any, .any, .any, .any, .any, .any, .any, .any, .any, .any, .any, .any, .any, .any, .any, .any, .any, .any, .any, .any, .any, .any, .any, .i .i64 512, .s .i64 (i : Nat), .any, .any, .any, .any, .any, .any, .any, .any, .any, .any, .any, .any, .any, .any, .any, .any, .any, .any, .any, .any, .any, .any, .any, .any, .any, .any],
        [⟨true, true, [.s .u64 (H.lim m 0), .s .u64 (H.lim m 1), .s .u64 (H.lim m 2), .s .u64 (H.lim m 3)]⟩, ⟨true, true, [.any, .any, .any, .any]⟩, ⟨true, true, [.i .i64 1, .s .u64 (H.lim m 0), .s .u64 (H.lim m 1), .s .u64 (H.lim m 2), .s .u64 (H.lim m 3), .s .u64 (H.minv m : Nat), .i .i64 0, .s .u64 (H.lim (O i) 0), .s .u64 (H.lim (O i) 1), .s .u64 (H.lim (O i) 2), .s .u64 (H.lim (O i) 3), .i .u64 0, .i .u64 0, .i .u64 0, .i .u64 0]⟩, ⟨true, true, [.s .u64 (H.lim (X i) 0), .s .u64 (H.lim (X i) 1), .s .u64 (H.lim (X i) 2), .s .u64 (H.lim (X i) 3)]⟩]⟩) (fun i => i ≤ 2 * 256) (fun i => 2 * 256 - i) 0 ?_ (Nat.zero_le _) ?_
    · rw [hO0, hX0]
      cbv
      repeat' (first | exact hinv | exact (hz _).symm | exact h10.symm | exact (h1s _ (by omega)).symm | constructor)
    intro i hi
    have hxs := hXs i
    have hxm := hXm i
    have hos := hOs i
    have hxm2 := hXm (i + 1)
    by_cases hlt : i < 2 * 256
    · have hc : A.cmp .lss (i : Int) 512 = true := (i_lt hA).trans (decide_eq_true (by omega))
      have hadd : A.bin .add .i64 (i : Int) 1 = ((i + 1 : Nat) : Int) := e_add hA rfl rfl rfl (by omega)
      have hdec : 2 * 256 - (i + 1) < 2 * 256 - i := by omega
      have hev : (A.cmp .eql (i : Int) 256 = true ∧ O (i + 1) = X i) ∨ (A.cmp .eql (i : Int) 256 = false ∧ O (i + 1) = O i) := by
        rw [i_eq hA]
        by_cases h : i = 256
        · rw [if_pos h] at hos
          exact .inl ⟨decide_eq_true (by omega), hos⟩
        · rw [if_neg h] at hos
          exact .inr ⟨decide_eq_false (by omega), hos⟩
      have hend : ∃ j : Nat, j = i + 1 := ⟨_, rfl⟩
      obtain ⟨j, hj⟩ := hend
      rw [← hj] at hxs hxm2 hev hadd hdec
      generalize X i = x at hxs hxm hev ⊢
      generalize hxj : X j = y at hxs hxm2
      generalize hoj : O j = o' at hev
      generalize O i = o at hev ⊢
      cbv
      refine ABr.t hc ?_
      cbv
      rcases hev with ⟨hev, ho⟩ | ⟨hev, ho⟩
      · refine ABr.t hev ?_
        cbv
        refine ACall.mk _ (cg hS (addS4 hl hR (inv := H.minv m) 0 x 0 x x y hxm hxm hxs) ?_) ?_
        · cbv
          repeat' (first | exact (hz _).symm | constructor)
        cbv
        refine ⟨j, ?_, by omega, hdec⟩
        rw [hxj, hoj, ho]
        cbv
        repeat' (first | exact hadd | constructor)
      · refine ABr.f hev ?_
        cbv
        refine ACall.mk _ (cg hS (addS4 hl hR (inv := H.minv m) 0 o 0 x x y hxm hxm hxs) ?_) ?_
        · cbv
          repeat' (first | exact (hz _).symm | constructor)
        cbv
        refine ⟨j, ?_, by omega, hdec⟩
        rw [hxj, hoj, ho]
        cbv
        repeat' (first | exact hadd | constructor)
    · obtain rfl : i = 2 * 256 := by omega
      have hc : A.cmp .lss ((2 * 256 : Nat) : Int) 512 = false := (i_lt hA).trans (decide_eq_false (by omega))
      rw [hOe, hXe]
      cbv
      refine ABr.f hc ?_
      cbv
      refine ACall.mk _ (cf hS (prime4S hH m hlim)) ?_
      cbv
end Go.Proofs.YtkhipnhdbaahcaaGreat
end
section
set_option linter.unusedVariables false
set_option linter.unusedSimpArgs false
namespace NT
/-- A prime number. -/
def Pr (p : Nat) : Prop := 1 < p ∧ ∀ d, d ∣ p → d = 1 ∨ d = p
theorem bezout : ∀ (a b : Nat), ∃ x y : Int, ((Nat.gcd a b : Nat) : Int) = a * x + b * y := by
  intro a b
  induction a, b using Nat.gcd.induction with
  | H0 n => exact ⟨0, 1, by simp⟩
  | H1 m n hm ih =>
    obtain ⟨x, y, h⟩ := ih
    refine ⟨y - (n / m : Nat) * x, x, ?_⟩
    rw [Nat.gcd_rec, h]
    have e : ((n % m : Nat) : Int) = n - m * ((n / m : Nat) : Int) := by
      have := Nat.div_add_mod n m
      omega
    rw [e, Int.sub_mul, Int.mul_sub, Int.mul_assoc]
    omega
theorem inv_mod {a m : Nat} (h : Nat.Coprime a m) (hm : 1 < m) : ∃ x, x < m ∧ a * x % m = 1 := by
  obtain ⟨x, y, e⟩ := bezout a m
  rw [show Nat.gcd a m = 1 from h] at e
  have hm0 : (m : Int) ≠ 0 := by omega
  refine ⟨(x % m).toNat, ?_, ?_⟩
  · have := Int.emod_lt_of_pos x (show (0 : Int) < m by omega)
    have := Int.emod_nonneg x hm0
    omega
  · have h0 := Int.emod_nonneg x hm0
    have h1 : ((a * (x % m).toNat % m : Nat) : Int) = 1 := by
      rw [Int.natCast_emod, Int.natCast_mul, Int.toNat_of_nonneg h0, Int.mul_emod, Int.emod_emod, ← Int.mul_emod]
      have : (a : Int) * x = 1 + m * (-y) := by rw [Int.mul_neg]; omega
      rw [this, Int.add_mul_emod_self_left]
      exact Int.emod_eq_of_lt (by omega) (by omega)
    omega
theorem Pr.pos {p : Nat} (h : Pr p) : 0 < p := Nat.lt_trans Nat.zero_lt_one h.1
theorem Pr.coprime {p a : Nat} (h : Pr p) (ha : ¬ p ∣ a) : Nat.Coprime a p := by
  rcases h.2 (Nat.gcd a p) (Nat.gcd_dvd_right a p) with e | e
  · exact e
  · exact absurd (e ▸ Nat.gcd_dvd_left a p) ha
theorem Pr.dvd_mul {p a b : Nat} (h : Pr p) (hd : p ∣ a * b) : p ∣ a ∨ p ∣ b := by
  by_cases ha : p ∣ a
  · exact .inl ha
  · exact .inr ((h.coprime ha).symm.dvd_of_dvd_mul_left hd)
theorem Pr.dvd_pow {p a : Nat} (h : Pr p) : ∀ {k : Nat}, p ∣ a ^ k → p ∣ a
  | 0, hd => by have h1 := Nat.le_of_dvd (Nat.lt_of_lt_of_le Nat.zero_lt_one (Nat.le_of_eq (Nat.pow_zero a).symm)) hd; have h2 := h.1; rw [Nat.pow_zero] at h1; omega
  | k + 1, hd => by
    rw [Nat.pow_succ] at hd
    rcases h.dvd_mul hd with h1 | h1
    · exact Pr.dvd_pow h h1
    · exact h1
theorem cancel {a x y m : Nat} (h : Nat.Coprime a m) (e : a * x % m = a * y % m) : x % m = y % m := by
  rcases Nat.lt_or_ge 1 m with hm | hm
  · obtain ⟨z, _, hz⟩ := inv_mod h hm
    have h1 : ∀ x, x % m = z * (a * x % m) % m := by
      intro x
      rw [Nat.mul_mod_mod, ← Nat.mul_assoc, Nat.mul_comm z a, Nat.mul_mod, hz, Nat.one_mul, Nat.mod_mod]
    rw [h1 x, h1 y, e]
  · have : m = 0 ∨ m = 1 := by omega
    rcases this with rfl | rfl
    · have ha : a = 1 := by simpa [Nat.Coprime] using h
      subst ha
      simpa using e
    · omega
/-- Fermat. -/
theorem fermat {p a : Nat} (hp : Pr p) (ha : ¬ p ∣ a) : a ^ (p - 1) % p = 1 := by
  have h1 := hp.1
  have hc := hp.coprime ha
  let l := List.range' 1 (p - 1)
  have mem : ∀ x, x ∈ l ↔ 1 ≤ x ∧ x < p := by
    intro x
    simp only [l, List.mem_range'_1]
    omega
  have hnd : l.Nodup := List.nodup_range'
  have hnm : ∀ x, x ∈ l → ¬ p ∣ x := by
    intro x hx hd
    have := (mem x).1 hx
    have := Nat.le_of_dvd (by omega) hd
    omega
  have hinj : ∀ x ∈ l, ∀ y ∈ l, a * x % p = a * y % p → x = y := by
    intro x hx y hy e
    have := cancel hc e
    rwa [Nat.mod_eq_of_lt ((mem x).1 hx).2, Nat.mod_eq_of_lt ((mem y).1 hy).2] at this
  have hperm : (l.map (a * · % p)).Perm l := by
    refine (List.perm_ext_iff_of_nodup ?_ hnd).2 fun b => ?_
    · refine List.pairwise_map.2 ?_
      exact hnd.imp_of_mem fun {x y} hx hy hxy e => hxy (hinj x hx y hy e)
    · constructor
      · intro hb
        obtain ⟨x, hx, rfl⟩ := List.mem_map.1 hb
        refine (mem _).2 ⟨?_, Nat.mod_lt _ hp.pos⟩
        rcases Nat.eq_zero_or_pos (a * x % p) with h0 | h0
        · rcases hp.dvd_mul (Nat.dvd_of_mod_eq_zero h0) with h2 | h2
          · exact absurd h2 ha
          · exact absurd h2 (hnm x hx)
        · exact h0
      · intro hb
        obtain ⟨z, hz, hz1⟩ := inv_mod hc h1
        have hb' := (mem b).1 hb
        refine List.mem_map.2 ⟨z * b % p, (mem _).2 ⟨?_, Nat.mod_lt _ hp.pos⟩, ?_⟩
        · rcases Nat.eq_zero_or_pos (z * b % p) with h0 | h0
          · have : a * (z * b) % p = b := by rw [← Nat.mul_assoc, Nat.mul_mod, hz1, Nat.one_mul, Nat.mod_mod, Nat.mod_eq_of_lt hb'.2]
            rw [Nat.mul_mod, h0] at this
            simp at this
            omega
          · exact h0
        · show a * (z * b % p) % p = b
          rw [Nat.mul_mod_mod, ← Nat.mul_assoc, Nat.mul_mod, hz1, Nat.one_mul, Nat.mod_mod, Nat.mod_eq_of_lt hb'.2]
  have hprod : ∀ l : List Nat, (l.map (a * · % p)).prod % p = a ^ l.length * l.prod % p := by
    intro l
    induction l with
    | nil => simp
    | cons x l ih =>
      rw [List.map_cons, List.prod_cons, Nat.mul_mod, ih, List.length_cons, List.prod_cons, Nat.pow_succ, Nat.mod_mod, ← Nat.mul_mod]
      congr 1
      simp only [Nat.mul_assoc, Nat.mul_left_comm, Nat.mul_comm]
  have e := hprod l
  rw [hperm.prod_nat] at e
  have hcl : ∀ l : List Nat, (∀ x ∈ l, ¬ p ∣ x) → Nat.Coprime l.prod p := by
    intro l
    induction l with
    | nil => intro _; simp [Nat.Coprime]
    | cons x l ih =>
      intro h
      rw [List.prod_cons]
      exact Nat.Coprime.mul_left (hp.coprime (h x (by simp))) (ih fun y hy => h y (by simp [hy]))
  have e2 : l.prod * 1 % p = l.prod * a ^ l.length % p := by rw [Nat.mul_one, e, Nat.mul_comm]
  have := cancel (hcl l hnm) e2
  rw [Nat.mod_eq_of_lt h1] at this
  have hl : l.length = p - 1 := by simp [l]
  rw [← hl]
  exact this.symm
theorem pow_mul_mod {b m x : Nat} (h : b ^ x % m = 1 % m) (k : Nat) : b ^ (x * k) % m = 1 % m := by
  induction k with
  | zero => simp
  | succ k ih => rw [Nat.mul_succ, Nat.pow_add, Nat.mul_mod, ih, h, ← Nat.mul_mod, Nat.one_mul]
/-- Where two powers are 1, that to their greatest common divisor is. -/
theorem pow_gcd {b m : Nat} (hb : Nat.Coprime b m) (x y : Nat) : b ^ x % m = 1 % m → b ^ y % m = 1 % m → b ^ Nat.gcd x y % m = 1 % m := by
  induction x, y using Nat.gcd.induction with
  | H0 n => intro _ h; simpa using h
  | H1 x y hx ih =>
    intro h1 h2
    rw [Nat.gcd_rec]
    refine ih ?_ h1
    have h3 := pow_mul_mod h1 (y / x)
    have e : b ^ (x * (y / x)) * b ^ (y % x) % m = b ^ (x * (y / x)) * 1 % m := by
      rw [← Nat.pow_add, Nat.div_add_mod, Nat.mul_one, h2, h3]
    exact cancel (Nat.Coprime.pow_left _ hb) e
theorem dvd_pow_or {q g e : Nat} (hq : Pr q) (h : g ∣ q ^ (e + 1)) : g ∣ q ^ e ∨ g = q ^ (e + 1) := by
  obtain ⟨k, hk⟩ := h
  by_cases hd : q ∣ k
  · obtain ⟨j, rfl⟩ := hd
    left
    refine ⟨j, ?_⟩
    have : q * q ^ e = q * (g * j) := by rw [← Nat.pow_succ', hk, Nat.mul_left_comm]
    exact Nat.eq_of_mul_eq_mul_left hq.pos this
  · right
    have hc : Nat.Coprime k (q ^ (e + 1)) := Nat.Coprime.pow_right _ (hq.coprime hd)
    have : k = 1 := hc.eq_one_of_dvd ⟨g, by rw [hk, Nat.mul_comm]⟩
    rw [hk, this, Nat.mul_one]
/-- One prime power of a certificate divides p - 1 for each prime p that divides n. -/
theorem pock_part {n p q e a : Nat} (hn : 1 < n) (hq : Pr q) (hp : Pr p) (hpn : p ∣ n) (hd : q ^ (e + 1) ∣ n - 1) (h1 : a ^ (n - 1) % n = 1 % n) (h2 : Nat.gcd (a ^ ((n - 1) / q) % n + (n - 1)) n = 1) : q ^ (e + 1) ∣ p - 1 := by
  obtain ⟨k, hk⟩ := hd
  have hp1 := hp.1
  have red : ∀ x y, x % n = y % n → x % p = y % p := by
    intro x y h
    have := congrArg (· % p) h
    simpa [Nat.mod_mod_of_dvd _ hpn] using this
  have ha1 := red _ _ h1
  have hb1 : (a ^ k) ^ q ^ (e + 1) % p = 1 % p := by rw [← Nat.pow_mul, Nat.mul_comm, ← hk]; exact ha1
  have hpa : ¬ p ∣ a := by
    intro hd
    obtain ⟨j, hj⟩ : ∃ j, n - 1 = j + 1 := ⟨n - 2, by omega⟩
    rw [hj, Nat.pow_succ, Nat.mul_mod, Nat.mod_eq_zero_of_dvd hd, Nat.mul_zero, Nat.zero_mod, Nat.mod_eq_of_lt hp1] at ha1
    cases ha1
  have hca := hp.coprime hpa
  have hcb : Nat.Coprime (a ^ k) p := Nat.Coprime.pow_left _ hca
  have hf := fermat hp (a := a ^ k) (fun hd => hpa (hp.dvd_pow hd))
  have hg := pow_gcd hcb (q ^ (e + 1)) (p - 1) hb1 (by rw [hf, Nat.mod_eq_of_lt hp1])
  rcases dvd_pow_or hq (Nat.gcd_dvd_left (q ^ (e + 1)) (p - 1)) with h3 | h3
  · exfalso
    obtain ⟨j, hj⟩ := h3
    have h4 := pow_mul_mod hg j
    rw [← hj, ← Nat.pow_mul] at h4
    have h5 : (n - 1) / q = k * q ^ e := by
      rw [hk, Nat.pow_succ, Nat.mul_comm (q ^ e) q, Nat.mul_assoc, Nat.mul_div_cancel_left _ hq.pos, Nat.mul_comm]
    rw [← h5] at h4
    have h6 : p ∣ a ^ ((n - 1) / q) % n + (n - 1) := by
      refine Nat.dvd_of_mod_eq_zero ?_
      rw [Nat.add_mod, Nat.mod_mod_of_dvd _ hpn, h4, ← Nat.add_mod, show 1 + (n - 1) = n by omega]
      exact Nat.mod_eq_zero_of_dvd hpn
    have h7 : p ∣ 1 := h2 ▸ Nat.dvd_gcd h6 hpn
    have := Nat.le_of_dvd (by omega) h7
    omega
  · rw [← h3]; exact Nat.gcd_dvd_right _ _
/-- Powers modulo m, fast. -/
def pm (m : Nat) : Nat → Nat → Nat → Nat
  | 0, _, _ => 1 % m
  | f + 1, a, e => if e % 2 = 1 then a * pm m f (a * a % m) (e / 2) % m else pm m f (a * a % m) (e / 2)
theorem pm_eq (m : Nat) : ∀ (f a e : Nat), e < 2 ^ f → pm m f a e = a ^ e % m
  | 0, a, e, h => by
    have : e = 0 := by simpa using h
    subst this; rfl
  | f + 1, a, e, h => by
    have ih := pm_eq m f (a * a % m) (e / 2) (by rw [Nat.pow_succ] at h; omega)
    rw [pm, ih, ← Nat.pow_mod, ← Nat.pow_two, ← Nat.pow_mul]
    split
    · rename_i h1
      rw [Nat.mul_mod_mod, ← Nat.pow_succ']
      congr 2; omega
    · congr 2; omega
/-- A certificate's row: a prime, how often it divides beside once, a base. -/
def rowOk (n : Nat) (r : Nat × Nat × Nat) : Bool :=
  decide ((n - 1) % r.1 ^ (r.2.1 + 1) = 0) && decide (pm n 400 r.2.2 (n - 1) = 1) && decide (Nat.gcd (pm n 400 r.2.2 ((n - 1) / r.1) + (n - 1)) n = 1)
def prodOf : List (Nat × Nat × Nat) → Nat
  | [] => 1
  | r :: l => r.1 ^ (r.2.1 + 1) * prodOf l
/-- Each prime of the rest is another one. -/
def distinct : List (Nat × Nat × Nat) → Bool
  | [] => true
  | r :: l => (l.all fun s => decide (r.1 ≠ s.1)) && distinct l
def certOk (n : Nat) (l : List (Nat × Nat × Nat)) : Bool :=
  decide (1 < n) && decide (n < 2 ^ 400) && l.all (rowOk n) && distinct l && decide (n < (prodOf l + 1) * (prodOf l + 1))
theorem prod_dvd {x : Nat} : ∀ (l : List (Nat × Nat × Nat)), (∀ r ∈ l, Pr r.1) → distinct l = true → (∀ r ∈ l, r.1 ^ (r.2.1 + 1) ∣ x) → prodOf l ∣ x
  | [], _, _, _ => Nat.one_dvd x
  | r :: l, hp, hd, hx => by
    simp only [distinct, Bool.and_eq_true, List.all_eq_true, decide_eq_true_eq] at hd
    refine Nat.Coprime.mul_dvd_of_dvd_of_dvd ?_ (hx r (by simp)) (prod_dvd l (fun s hs => hp s (by simp [hs])) hd.2 fun s hs => hx s (by simp [hs]))
    have hr := hp r (by simp)
    have : ∀ (k : List (Nat × Nat × Nat)), (∀ s ∈ k, s ∈ l) → Nat.Coprime (r.1 ^ (r.2.1 + 1)) (prodOf k) := by
      intro k
      induction k with
      | nil => intro _; simp [prodOf]
      | cons s k ih =>
        intro hk
        have hsl := hk s (by simp)
        have hs := hp s (by simp [hsl])
        refine Nat.Coprime.mul_right ?_ (ih fun t ht => hk t (by simp [ht]))
        refine Nat.Coprime.pow _ _ (hs.coprime fun h => ?_)
        rcases hr.2 _ h with h1 | h1
        · have := hs.1; omega
        · exact hd.1 s hsl h1.symm
    exact this l fun s hs => hs
theorem cert {n : Nat} {l : List (Nat × Nat × Nat)} (h : certOk n l = true) (hl : ∀ r ∈ l, Pr r.1) : Pr n := by
  simp only [certOk, Bool.and_eq_true, decide_eq_true_eq, List.all_eq_true] at h
  obtain ⟨⟨⟨⟨hn, hb⟩, hr⟩, hd⟩, hF⟩ := h
  have key : ∀ p, Pr p → p ∣ n → prodOf l < p := by
    intro p hp hpn
    have h1 : prodOf l ∣ p - 1 := by
      refine prod_dvd l hl hd fun r hrl => ?_
      have hrow := hr r hrl
      simp only [rowOk, Bool.and_eq_true, decide_eq_true_eq] at hrow
      obtain ⟨⟨h1, h2⟩, h3⟩ := hrow
      have hq := hl r hrl
      have hdiv : (n - 1) / r.1 ≤ n - 1 := Nat.div_le_self _ _
      rw [pm_eq _ _ _ _ (by omega)] at h2 h3
      exact pock_part hn hq hp hpn (Nat.dvd_of_mod_eq_zero h1) (by rw [h2, Nat.mod_eq_of_lt hn]) h3
    have := Nat.le_of_dvd (by have := hp.1; omega) h1
    have := hp.1
    omega
  -- the least divisor beside 1
  have least : ∀ k, 1 < k → k ∣ n → (∃ p, Pr p ∧ p ∣ k) := by
    intro k
    induction k using Nat.strongRecOn with
    | ind k ih =>
      intro hk hkn
      by_cases hpr : ∀ d, d ∣ k → d = 1 ∨ d = k
      · exact ⟨k, ⟨hk, hpr⟩, Nat.dvd_refl k⟩
      · simp only [Classical.not_forall, not_or] at hpr
        obtain ⟨d, hdk, h1, h2⟩ := hpr
        have hle := Nat.le_of_dvd (by omega) hdk
        have h0 : d ≠ 0 := by rintro rfl; have := Nat.eq_zero_of_zero_dvd hdk; omega
        obtain ⟨p, hp, hpd⟩ := ih d (by omega) (by omega) (Nat.dvd_trans hdk hkn)
        exact ⟨p, hp, Nat.dvd_trans hpd hdk⟩
  refine ⟨hn, fun d hdn => ?_⟩
  obtain ⟨e, rfl⟩ := hdn
  by_cases h1 : d = 1
  · exact .inl h1
  · by_cases h2 : e = 1
    · exact .inr (by rw [h2, Nat.mul_one])
    · exfalso
      have hd0 : d ≠ 0 := by rintro rfl; simp at hn
      have he0 : e ≠ 0 := by rintro rfl; simp at hn
      obtain ⟨p, hp, hpd⟩ := least d (by omega) (Nat.dvd_mul_right d e)
      obtain ⟨q, hq, hqe⟩ := least e (by omega) (Nat.dvd_mul_left e d)
      have k1 := key p hp (Nat.dvd_trans hpd (Nat.dvd_mul_right d e))
      have k2 := key q hq (Nat.dvd_trans hqe (Nat.dvd_mul_left e d))
      have l1 := Nat.le_of_dvd (by omega) hpd
      have l2 := Nat.le_of_dvd (by omega) hqe
      have := Nat.mul_le_mul (show prodOf l + 1 ≤ d by omega) (show prodOf l + 1 ≤ e by omega)
      omega
/-- Small primes, by trying. -/
def smallOk (n : Nat) : Bool := decide (1 < n) && (List.range n).all fun d => decide (d < 2) || !decide (n % d = 0)
theorem small {n : Nat} (h : smallOk n = true) : Pr n := by
  simp only [smallOk, Bool.and_eq_true, decide_eq_true_eq, List.all_eq_true, List.mem_range, Bool.or_eq_true, Bool.not_eq_true', decide_eq_false_iff_not] at h
  refine ⟨h.1, fun d hd => ?_⟩
  have hle := Nat.le_of_dvd (by omega) hd
  have h0 : d ≠ 0 := by rintro rfl; have := Nat.eq_zero_of_zero_dvd hd; omega
  rcases Nat.lt_or_ge d n with h1 | h1
  · rcases h.2 d h1 with h2 | h2
    · left; omega
    · exact absurd (Nat.mod_eq_zero_of_dvd hd) h2
  · right; omega
end NT
end
section
set_option linter.unusedVariables false
set_option linter.unusedSimpArgs false
set_option linter.unusedSectionVars false
set_option maxRecDepth 100000
set_option exponentiation.threshold 2000
namespace NT
theorem pr_271 : Pr 271 := small (by kernel_rfl)
theorem pr1 : Pr 1627 := cert (l := [(271, 0, 2)]) (by kernel_rfl) (by
  intro r hr
  simp only [List.mem_cons, List.not_mem_nil, or_false] at hr
  rcases hr with rfl
  · exact pr_271)
theorem pr_83 : Pr 83 := small (by kernel_rfl)
theorem pr3 : Pr 2657 := cert (l := [(83, 0, 2)]) (by kernel_rfl) (by
  intro r hr
  simp only [List.mem_cons, List.not_mem_nil, or_false] at hr
  rcases hr with rfl
  · exact pr_83)
theorem pr_2 : Pr 2 := small (by kernel_rfl)
theorem pr_3 : Pr 3 := small (by kernel_rfl)
theorem pr_11 : Pr 11 := small (by kernel_rfl)
theorem pr7 : Pr 4423 := cert (l := [(2, 0, 3), (3, 0, 3), (11, 0, 2)]) (by kernel_rfl) (by
  intro r hr
  simp only [List.mem_cons, List.not_mem_nil, or_false] at hr
  rcases hr with rfl | rfl | rfl
  · exact pr_2
  · exact pr_3
  · exact pr_11)
theorem pr_5 : Pr 5 := small (by kernel_rfl)
theorem pr9 : Pr 41201 := cert (l := [(2, 3, 3), (5, 1, 3)]) (by kernel_rfl) (by
  intro r hr
  simp only [List.mem_cons, List.not_mem_nil, or_false] at hr
  rcases hr with rfl | rfl
  · exact pr_2
  · exact pr_5)
theorem pr_101 : Pr 101 := small (by kernel_rfl)
theorem pr11 : Pr 96557 := cert (l := [(2, 1, 2), (101, 0, 2)]) (by kernel_rfl) (by
  intro r hr
  simp only [List.mem_cons, List.not_mem_nil, or_false] at hr
  rcases hr with rfl | rfl
  · exact pr_2
  · exact pr_101)
theorem pr12 : Pr 255515944373312847190720520512484175977 := cert (l := [(1627, 0, 2), (2657, 0, 2), (4423, 0, 2), (41201, 0, 2), (96557, 0, 2)]) (by kernel_rfl) (by
  intro r hr
  simp only [List.mem_cons, List.not_mem_nil, or_false] at hr
  rcases hr with rfl | rfl | rfl | rfl | rfl
  · exact pr1
  · exact pr3
  · exact pr7
  · exact pr9
  · exact pr11)
theorem pr13 : Pr 205115282021455665897114700593932402728804164701536103180137503955397371 := cert (l := [(255515944373312847190720520512484175977, 0, 2)]) (by kernel_rfl) (by
  intro r hr
  simp only [List.mem_cons, List.not_mem_nil, or_false] at hr
  rcases hr with rfl
  · exact pr12)
theorem pr14 : Pr 115792089237316195423570985008687907853269984665640564039457584007908834671663 := cert (l := [(205115282021455665897114700593932402728804164701536103180137503955397371, 0, 2)]) (by kernel_rfl) (by
  intro r hr
  simp only [List.mem_cons, List.not_mem_nil, or_false] at hr
  rcases hr with rfl
  · exact pr13)
theorem prime_secpP : Pr 115792089237316195423570985008687907853269984665640564039457584007908834671663 := pr14
theorem pr_631 : Pr 631 := small (by kernel_rfl)
theorem pr16 : Pr 16699 := cert (l := [(3, 0, 3), (11, 1, 2)]) (by kernel_rfl) (by
  intro r hr
  simp only [List.mem_cons, List.not_mem_nil, or_false] at hr
  rcases hr with rfl | rfl
  · exact pr_3
  · exact pr_11)
theorem pr17 : Pr 2861 := cert (l := [(5, 0, 2), (11, 0, 2)]) (by kernel_rfl) (by
  intro r hr
  simp only [List.mem_cons, List.not_mem_nil, or_false] at hr
  rcases hr with rfl | rfl
  · exact pr_5
  · exact pr_11)
theorem pr18 : Pr 85831 := cert (l := [(2861, 0, 2)]) (by kernel_rfl) (by
  intro r hr
  simp only [List.mem_cons, List.not_mem_nil, or_false] at hr
  rcases hr with rfl
  · exact pr17)
theorem pr19 : Pr 107361793816595537 := cert (l := [(16699, 0, 2), (85831, 0, 2)]) (by kernel_rfl) (by
  intro r hr
  simp only [List.mem_cons, List.not_mem_nil, or_false] at hr
  rcases hr with rfl | rfl
  · exact pr16
  · exact pr18)
theorem pr_59 : Pr 59 := small (by kernel_rfl)
theorem pr21 : Pr 4051 := cert (l := [(3, 3, 3)]) (by kernel_rfl) (by
  intro r hr
  simp only [List.mem_cons, List.not_mem_nil, or_false] at hr
  rcases hr with rfl
  · exact pr_3)
theorem pr_7 : Pr 7 := small (by kernel_rfl)
theorem pr_19 : Pr 19 := small (by kernel_rfl)
theorem pr24 : Pr 120233 := cert (l := [(2, 2, 3), (7, 0, 3), (19, 0, 2)]) (by kernel_rfl) (by
  intro r hr
  simp only [List.mem_cons, List.not_mem_nil, or_false] at hr
  rcases hr with rfl | rfl | rfl
  · exact pr_2
  · exact pr_7
  · exact pr_19)
theorem pr25 : Pr 174723607534414371449 := cert (l := [(59, 0, 2), (4051, 0, 2), (120233, 0, 2)]) (by kernel_rfl) (by
  intro r hr
  simp only [List.mem_cons, List.not_mem_nil, or_false] at hr
  rcases hr with rfl | rfl | rfl
  · exact pr_59
  · exact pr21
  · exact pr24)
theorem pr26 : Pr 115792089237316195423570985008687907852837564279074904382605163141518161494337 := cert (l := [(631, 0, 2), (107361793816595537, 0, 2), (174723607534414371449, 0, 2)]) (by kernel_rfl) (by
  intro r hr
  simp only [List.mem_cons, List.not_mem_nil, or_false] at hr
  rcases hr with rfl | rfl | rfl
  · exact pr_631
  · exact pr19
  · exact pr25)
theorem prime_secpN : Pr 115792089237316195423570985008687907852837564279074904382605163141518161494337 := pr26
theorem pr27 : Pr 1853641 := cert (l := [(2, 2, 7), (3, 1, 2), (19, 0, 2)]) (by kernel_rfl) (by
  intro r hr
  simp only [List.mem_cons, List.not_mem_nil, or_false] at hr
  rcases hr with rfl | rfl | rfl
  · exact pr_2
  · exact pr_3
  · exact pr_19)
theorem pr_17 : Pr 17 := small (by kernel_rfl)
theorem pr_109 : Pr 109 := small (by kernel_rfl)
theorem pr30 : Pr 4562087 := cert (l := [(2, 0, 5), (17, 0, 2), (109, 0, 2)]) (by kernel_rfl) (by
  intro r hr
  simp only [List.mem_cons, List.not_mem_nil, or_false] at hr
  rcases hr with rfl | rfl | rfl
  · exact pr_2
  · exact pr_17
  · exact pr_109)
theorem pr31 : Pr 2221 := cert (l := [(2, 1, 2), (3, 0, 2), (5, 0, 2)]) (by kernel_rfl) (by
  intro r hr
  simp only [List.mem_cons, List.not_mem_nil, or_false] at hr
  rcases hr with rfl | rfl | rfl
  · exact pr_2
  · exact pr_3
  · exact pr_5)
theorem pr32 : Pr 13327 := cert (l := [(2221, 0, 2)]) (by kernel_rfl) (by
  intro r hr
  simp only [List.mem_cons, List.not_mem_nil, or_false] at hr
  rcases hr with rfl
  · exact pr31)
theorem pr33 : Pr 173171039 := cert (l := [(13327, 0, 2)]) (by kernel_rfl) (by
  intro r hr
  simp only [List.mem_cons, List.not_mem_nil, or_false] at hr
  rcases hr with rfl
  · exact pr32)
theorem pr34 : Pr 13427688667394608761327070753331941386769 := cert (l := [(1853641, 0, 2), (4562087, 0, 2), (173171039, 0, 2)]) (by kernel_rfl) (by
  intro r hr
  simp only [List.mem_cons, List.not_mem_nil, or_false] at hr
  rcases hr with rfl | rfl | rfl
  · exact pr27
  · exact pr30
  · exact pr33)
theorem pr35 : Pr 21888242871839275222246405745257275088696311157297823662689037894645226208583 := cert (l := [(13427688667394608761327070753331941386769, 0, 2)]) (by kernel_rfl) (by
  intro r hr
  simp only [List.mem_cons, List.not_mem_nil, or_false] at hr
  rcases hr with rfl
  · exact pr34)
theorem prime_bnP : Pr 21888242871839275222246405745257275088696311157297823662689037894645226208583 := pr35
theorem pr_13 : Pr 13 := small (by kernel_rfl)
theorem pr_29 : Pr 29 := small (by kernel_rfl)
theorem pr_983 : Pr 983 := small (by kernel_rfl)
theorem pr39 : Pr 5501 := cert (l := [(5, 2, 2)]) (by kernel_rfl) (by
  intro r hr
  simp only [List.mem_cons, List.not_mem_nil, or_false] at hr
  rcases hr with rfl
  · exact pr_5)
theorem pr40 : Pr 11003 := cert (l := [(5501, 0, 2)]) (by kernel_rfl) (by
  intro r hr
  simp only [List.mem_cons, List.not_mem_nil, or_false] at hr
  rcases hr with rfl
  · exact pr39)
theorem pr41 : Pr 237073 := cert (l := [(2, 3, 5), (3, 0, 3), (11, 0, 2)]) (by kernel_rfl) (by
  intro r hr
  simp only [List.mem_cons, List.not_mem_nil, or_false] at hr
  rcases hr with rfl | rfl | rfl
  · exact pr_2
  · exact pr_3
  · exact pr_11)
theorem pr42 : Pr 3691 := cert (l := [(2, 0, 2), (3, 1, 2), (5, 0, 2)]) (by kernel_rfl) (by
  intro r hr
  simp only [List.mem_cons, List.not_mem_nil, or_false] at hr
  rcases hr with rfl | rfl | rfl
  · exact pr_2
  · exact pr_3
  · exact pr_5)
theorem pr43 : Pr 405928799 := cert (l := [(11, 0, 2), (3691, 0, 2)]) (by kernel_rfl) (by
  intro r hr
  simp only [List.mem_cons, List.not_mem_nil, or_false] at hr
  rcases hr with rfl | rfl
  · exact pr_11
  · exact pr42)
theorem pr_661 : Pr 661 := small (by kernel_rfl)
theorem pr45 : Pr 12048837557 := cert (l := [(2, 1, 2), (7, 1, 2), (661, 0, 2)]) (by kernel_rfl) (by
  intro r hr
  simp only [List.mem_cons, List.not_mem_nil, or_false] at hr
  rcases hr with rfl | rfl | rfl
  · exact pr_2
  · exact pr_7
  · exact pr_661)
theorem pr46 : Pr 5156902474397 := cert (l := [(12048837557, 0, 2)]) (by kernel_rfl) (by
  intro r hr
  simp only [List.mem_cons, List.not_mem_nil, or_false] at hr
  rcases hr with rfl
  · exact pr45)
theorem pr47 : Pr 1670836401704629 := cert (l := [(5156902474397, 0, 2)]) (by kernel_rfl) (by
  intro r hr
  simp only [List.mem_cons, List.not_mem_nil, or_false] at hr
  rcases hr with rfl
  · exact pr46)
theorem pr48 : Pr 21888242871839275222246405745257275088548364400416034343698204186575808495617 := cert (l := [(13, 0, 5), (29, 0, 2), (983, 0, 2), (11003, 0, 2), (237073, 0, 2), (405928799, 0, 2), (1670836401704629, 0, 2)]) (by kernel_rfl) (by
  intro r hr
  simp only [List.mem_cons, List.not_mem_nil, or_false] at hr
  rcases hr with rfl | rfl | rfl | rfl | rfl | rfl | rfl
  · exact pr_13
  · exact pr_29
  · exact pr_983
  · exact pr40
  · exact pr41
  · exact pr43
  · exact pr47)
theorem prime_bnR : Pr 21888242871839275222246405745257275088548364400416034343698204186575808495617 := pr48
theorem pr49 : Pr 10177 := cert (l := [(2, 5, 5), (3, 0, 2)]) (by kernel_rfl) (by
  intro r hr
  simp only [List.mem_cons, List.not_mem_nil, or_false] at hr
  rcases hr with rfl | rfl
  · exact pr_2
  · exact pr_3)
theorem pr_523 : Pr 523 := small (by kernel_rfl)
theorem pr51 : Pr 20921 := cert (l := [(523, 0, 2)]) (by kernel_rfl) (by
  intro r hr
  simp only [List.mem_cons, List.not_mem_nil, or_false] at hr
  rcases hr with rfl
  · exact pr_523)
theorem pr52 : Pr 125527 := cert (l := [(20921, 0, 2)]) (by kernel_rfl) (by
  intro r hr
  simp only [List.mem_cons, List.not_mem_nil, or_false] at hr
  rcases hr with rfl
  · exact pr51)
theorem pr53 : Pr 47737 := cert (l := [(3, 2, 3), (13, 0, 2)]) (by kernel_rfl) (by
  intro r hr
  simp only [List.mem_cons, List.not_mem_nil, or_false] at hr
  rcases hr with rfl | rfl
  · exact pr_3
  · exact pr_13)
theorem pr54 : Pr 859267 := cert (l := [(47737, 0, 2)]) (by kernel_rfl) (by
  intro r hr
  simp only [List.mem_cons, List.not_mem_nil, or_false] at hr
  rcases hr with rfl
  · exact pr53)
theorem pr_73 : Pr 73 := small (by kernel_rfl)
theorem pr56 : Pr 1607 := cert (l := [(73, 0, 2)]) (by kernel_rfl) (by
  intro r hr
  simp only [List.mem_cons, List.not_mem_nil, or_false] at hr
  rcases hr with rfl
  · exact pr_73)
theorem pr57 : Pr 906349 := cert (l := [(1607, 0, 2)]) (by kernel_rfl) (by
  intro r hr
  simp only [List.mem_cons, List.not_mem_nil, or_false] at hr
  rcases hr with rfl
  · exact pr56)
theorem pr58 : Pr 52435875175126190479447740508185965837690552500527637822603658699938581184513 := cert (l := [(2, 31, 5), (11, 0, 2), (19, 0, 2), (10177, 0, 2), (125527, 0, 2), (859267, 0, 2), (906349, 1, 2)]) (by kernel_rfl) (by
  intro r hr
  simp only [List.mem_cons, List.not_mem_nil, or_false] at hr
  rcases hr with rfl | rfl | rfl | rfl | rfl | rfl | rfl
  · exact pr_2
  · exact pr_11
  · exact pr_19
  · exact pr49
  · exact pr52
  · exact pr54
  · exact pr57)
theorem prime_blsR : Pr 52435875175126190479447740508185965837690552500527637822603658699938581184513 := pr58
end NT
end
section
set_option linter.unusedVariables false
set_option linter.unusedSimpArgs false
namespace Go.Proofs.YtkhipnhdbaahcaaGreat
open Go Eng
set_option maxRecDepth 100000
set_option exponentiation.threshold 2000

def R34 : Nat → Md := fun r => match r with | 3 => .res [14] | 4 => .res [] | _ => .mid
theorem add_cancel {p q u m : Nat} (h : (p + u) % m = (q + u) % m) : p % m = q % m := by
  have h1 : ((p : Int) + u) % m = ((q : Int) + u) % m := by
    have := congrArg (fun n : Nat => (n : Int)) h
    simpa using this
  have h2 : (p : Int) % m = (q : Int) % m := by
    have := Int.emod_emod_of_dvd
    rw [Int.emod_eq_emod_iff_emod_sub_eq_zero] at h1 ⊢
    rwa [show (p : Int) + u - (q + u) = p - q by omega] at h1
  have h3 : ((p % m : Nat) : Int) = ((q % m : Nat) : Int) := by simpa using h2
  omega
/-- What holds in the search for an inverse. -/
structure GI (m a u v x y : Nat) : Prop where
  u0 : 0 < u
  v0 : 0 < v
  um : u ≤ m
  vm : v ≤ m
  xm : x < m
  ym : y < m
  ux : a * x % m = u % m
  vy : a * y % m = v % m
  co : Nat.Coprime u v
theorem hv_lt {m x : Nat} (hm : m % 2 = 1) (hx : x < m) : hv m x < m := by
  unfold hv
  split <;> omega
theorem hv_two {m x : Nat} (hm : m % 2 = 1) : 2 * hv m x % m = x % m := by
  unfold hv
  split
  · rw [show 2 * (x / 2) = x by omega]
  · rw [show 2 * ((x + m) / 2) = x + m by omega, Nat.add_mod_right]
theorem two_coprime {m : Nat} (hm : m % 2 = 1) : Nat.Coprime 2 m := by
  unfold Nat.Coprime
  rw [Nat.gcd_rec, hm]
  rfl
theorem half_step {m a u x : Nat} (hm : m % 2 = 1) (hu : u % 2 = 0) (h : a * x % m = u % m) : a * hv m x % m = u / 2 % m := by
  refine NT.cancel (two_coprime hm) ?_
  rw [Nat.mul_left_comm, Nat.mul_mod, hv_two hm, ← Nat.mul_mod, h, show 2 * (u / 2) = u by omega]
theorem sub_step {m a u v x y : Nat} (hx : x < m) (huv : u ≤ v) (h1 : a * x % m = u % m) (h2 : a * y % m = v % m) : a * ((y + m - x) % m) % m = (v - u) % m := by
  refine add_cancel (u := u) ?_
  rw [Nat.sub_add_cancel huv, Nat.add_mod, ← h1, ← Nat.add_mod, ← Nat.mul_add, Nat.mul_mod, Nat.mod_add_mod, Nat.sub_add_cancel (by omega), Nat.add_mod_right, ← Nat.mul_mod, h2]
theorem GI.start {m a : Nat} (hm : 1 < m) (ha : 0 < a) (ham : a < m) (hc : Nat.Coprime a m) : GI m a a m 1 0 :=
  ⟨ha, by omega, by omega, by omega, hm, by omega, by rw [Nat.mul_one], by simp, hc⟩
theorem GI.halfU {m a u v x y : Nat} (hm : m % 2 = 1) (h : GI m a u v x y) (hu : u % 2 = 0) : GI m a (u / 2) v (hv m x) y :=
  ⟨by have := h.u0; omega, h.v0, by have := h.um; omega, h.vm, hv_lt hm h.xm, h.ym, half_step hm hu h.ux, h.vy, Nat.Coprime.coprime_dvd_left ⟨2, by omega⟩ h.co⟩
theorem GI.halfV {m a u v x y : Nat} (hm : m % 2 = 1) (h : GI m a u v x y) (hv' : v % 2 = 0) : GI m a u (v / 2) x (hv m y) :=
  ⟨h.u0, by have := h.v0; omega, h.um, by have := h.vm; omega, h.xm, hv_lt hm h.ym, h.ux, half_step hm hv' h.vy, Nat.Coprime.coprime_dvd_right ⟨2, by omega⟩ h.co⟩
theorem GI.subV {m a u v x y : Nat} (h : GI m a u v x y) (huv : u < v) : GI m a u (v - u) x ((y + m - x) % m) :=
  ⟨h.u0, by omega, h.um, by have := h.vm; omega, h.xm, Nat.mod_lt _ (by have := h.xm; omega), h.ux, sub_step h.xm (by omega) h.ux h.vy, by
    have := h.co
    unfold Nat.Coprime at this ⊢
    rw [← this, ← Nat.gcd_sub_self_right (m := u) (n := v) (by omega)]⟩
theorem GI.subU {m a u v x y : Nat} (h : GI m a u v x y) (huv : v < u) : GI m a (u - v) v ((x + m - y) % m) y :=
  ⟨by omega, h.v0, by have := h.um; omega, h.vm, Nat.mod_lt _ (by have := h.xm; omega), h.ym, sub_step h.ym (by omega) h.vy h.ux, h.vy, by
    have := h.co
    unfold Nat.Coprime at this ⊢
    rw [← this, ← Nat.gcd_sub_self_left (m := v) (n := u) (by omega)]⟩
theorem GI.ne {m a u v x y : Nat} (h : GI m a u v x y) (hu : u ≠ 1 ∨ v ≠ 1) : u ≠ v := by
  rintro rfl
  have := h.co
  unfold Nat.Coprime at this
  rw [Nat.gcd_self] at this
  omega
theorem eqsOne4 {A : Ar} (hA : A = Ar.real) {lim : Lim} (hl : lim = limR) {u : Nat} (hu : u < 2 ^ 256) : A.eqs [(.s .u64 (lim u 0), .i .u64 1), (.s .u64 (lim u 1), .i .u64 0), (.s .u64 (lim u 2), .i .u64 0), (.s .u64 (lim u 3), .i .u64 0)] = decide (u = 1) := by
  rw [eqs_real hA]
  simp only [List.all_cons, List.all_nil, leafEq_si, Bool.and_true]
  have e := split4 hl u hu
  have hr := fun i => lim_range hl u i
  have r0 := hr 0
  have r1 := hr 1
  have r2 := hr 2
  have r3 := hr 3
  clear hr
  by_cases h : u = 1
  · rw [decide_eq_true h]
    simp only [Bool.and_eq_true, decide_eq_true_eq]
    refine ⟨?_, ?_, ?_, ?_⟩ <;> omega
  · rw [decide_eq_false h]
    refine Bool.eq_false_iff.2 fun h' => h ?_
    simp only [Bool.and_eq_true, decide_eq_true_eq] at h'
    omega
def gcdSt4 (H : H5) (m a u v x y : Nat) : St := ⟨[.ref (R4 H m) 0, .agg [.s .u64 (H.lim a 0), .s .u64 (H.lim a 1), .s .u64 (H.lim a 2), .s .u64 (H.lim a 3)], .tup [], .own 0 0, .own 1 0, .own 2 0, .own 3 0, .own 4 0, .own 5 0, .own 6 0, .any, .any, .any, .any, .any, .any, .any, .any, .any, .any, .any, .any, .any, .any, .any, .any, .any, .any, .any, .any, .any, .any, .any, .any, .any, .any, .any, .any, .any, .any, .any, .any, .any, .any, .any, .any, .any, .any, .any, .any, .any, .any, .any, .any, .any, .any, .any, .any, .any, .any, .any, .any, .any, .any, .any, .any, .any, .any, .any, .any, .any, .any],
  [⟨true, true, [.s .u64 (H.lim a 0), .s .u64 (H.lim a 1), .s .u64 (H.lim a 2), .s .u64 (H.lim a 3)]⟩, ⟨true, true, [.i .u64 0, .i .u64 0, .i .u64 0, .i .u64 0]⟩, ⟨true, true, [.i .u64 1, .i .u64 0, .i .u64 0, .i .u64 0]⟩, ⟨true, true, [.s .u64 (H.lim u 0), .s .u64 (H.lim u 1), .s .u64 (H.lim u 2), .s .u64 (H.lim u 3)]⟩, ⟨true, true, [.s .u64 (H.lim v 0), .s .u64 (H.lim v 1), .s .u64 (H.lim v 2), .s .u64 (H.lim v 3)]⟩,
   ⟨true, true, [.s .u64 (H.lim x 0), .s .u64 (H.lim x 1), .s .u64 (H.lim x 2), .s .u64 (H.lim x 3)]⟩, ⟨true, true, [.s .u64 (H.lim y 0), .s .u64 (H.lim y 1), .s .u64 (H.lim y 2), .s .u64 (H.lim y 3)]⟩]⟩
theorem gcdS4 {H : H5} (hH : H = H5.real) {m a z : Nat} (hR : Mod 256 m) (ha : 0 < a) (ham : a < m) (hc : Nat.Coprime a m) (hz : z < m) (haz : a * z % m = 1) :
    Sp 124 [.ref (R4 H m) 0, u4 H.lim a] (u4 H.lim z) := by
  have hl := H5.hlim hH
  have hlim := hR.lt
  have h1m := hR.one
  have hodd := hR.odd
  have uniq : ∀ w, w < m → a * w % m = 1 → w = z := by
    intro w hw h
    have := NT.cancel hc (h.trans haz.symm)
    rwa [Nat.mod_eq_of_lt hw, Nat.mod_eq_of_lt hz] at this
  have l0 : ∀ i, H.lim 0 i = 0 := by intro i; rw [hH]; show ((0 / 2 ^ (64 * i) % 2 ^ 64 : Nat) : Int) = 0; rw [Nat.zero_div]; rfl
  have l10 : H.lim 1 0 = 1 := by rw [hH]; rfl
  have l1s : ∀ i, i < 4 - 1 → H.lim 1 (i + 1) = 0 := by
    intro i hi; rw [hH]; show ((1 / 2 ^ (64 * (i + 1)) % 2 ^ 64 : Nat) : Int) = 0
    rw [Nat.div_eq_of_lt (Nat.one_lt_two_pow (by omega))]; rfl
  refine mk Tryz.func124 rfl rfl LN R34 (by decide +kernel) fun A S hA hS => ?_
  unfold bodyOf Tryz.f124
  cbv
  refine ACall.mk _ (cf hS none4S) ?_
  cbv
  refine .inv (α := Nat × Nat × Nat × Nat) (fun p => gcdSt4 H m a p.1 p.2.1 p.2.2.1 p.2.2.2) (fun p => GI m a p.1 p.2.1 p.2.2.1 p.2.2.2) (fun p => p.1 + p.2.1) (a, m, 1, 0) ?_ (GI.start h1m ha ham hc) ?_
  · cbv
    repeat' (first | exact (l0 _).symm | exact l10.symm | exact (l1s _ (by omega)).symm | constructor)
  rintro ⟨u, v, x, y⟩ hG
  dsimp only at hG ⊢
  have hun : u < 2 ^ 256 := Nat.lt_of_le_of_lt hG.um hlim
  have hvn : v < 2 ^ 256 := Nat.lt_of_le_of_lt hG.vm hlim
  have eu := eqsOne4 hA hl hun
  have ev' := eqsOne4 hA hl hvn
  by_cases hu1 : u = 1
  · obtain rfl : x = z := uniq x hG.xm (hG.ux.trans (by rw [hu1, Nat.mod_eq_of_lt h1m]))
    rw [decide_eq_true hu1] at eu
    have nu := (a_not hA (A.eqs [(.s .u64 (H.lim u 0), .i .u64 1), (.s .u64 (H.lim u 1), .i .u64 0), (.s .u64 (H.lim u 2), .i .u64 0), (.s .u64 (H.lim u 3), .i .u64 0)])).trans (by rw [eu]; rfl : _ = false)
    cbv
    repeat (first | (refine ABr.f (by assumption) ?_; cbv) | (refine ABr.t (by assumption) ?_; cbv))
  rw [decide_eq_false hu1] at eu
  have nu := (a_not hA (A.eqs [(.s .u64 (H.lim u 0), .i .u64 1), (.s .u64 (H.lim u 1), .i .u64 0), (.s .u64 (H.lim u 2), .i .u64 0), (.s .u64 (H.lim u 3), .i .u64 0)])).trans (by rw [eu]; rfl : _ = true)
  by_cases hv1 : v = 1
  · obtain rfl : y = z := uniq y hG.ym (hG.vy.trans (by rw [hv1, Nat.mod_eq_of_lt h1m]))
    rw [decide_eq_true hv1] at ev'
    have nv := (a_not hA (A.eqs [(.s .u64 (H.lim v 0), .i .u64 1), (.s .u64 (H.lim v 1), .i .u64 0), (.s .u64 (H.lim v 2), .i .u64 0), (.s .u64 (H.lim v 3), .i .u64 0)])).trans (by rw [ev']; rfl : _ = false)
    cbv
    repeat (first | (refine ABr.f (by assumption) ?_; cbv) | (refine ABr.t (by assumption) ?_; cbv))
  rw [decide_eq_false hv1] at ev'
  have nv := (a_not hA (A.eqs [(.s .u64 (H.lim v 0), .i .u64 1), (.s .u64 (H.lim v 1), .i .u64 0), (.s .u64 (H.lim v 2), .i .u64 0), (.s .u64 (H.lim v 3), .i .u64 0)])).trans (by rw [ev']; rfl : _ = true)
  have hstart : GI m a u v x y ∧ u ≤ u ∧ (u = u ∨ u % 2 = 0) := ⟨hG, Nat.le_refl _, .inl rfl⟩
  cbv
  repeat (first | (refine ABr.f (by assumption) ?_; cbv) | (refine ABr.t (by assumption) ?_; cbv))
  clear eu ev' nu nv
  refine .inv (α := Nat × Nat) (fun p => gcdSt4 H m a p.1 v p.2 y) (fun p => GI m a p.1 v p.2 y ∧ p.1 ≤ u ∧ (p.1 = u ∨ u % 2 = 0)) (fun p => p.1) (u, x) (by cbv) hstart ?_
  rintro ⟨u', x'⟩ ⟨hG', hle, hor⟩
  dsimp only at hG' hle hor ⊢
  have ee := even_lim4 hA hl u'
  by_cases he : u' % 2 = 0
  · rw [decide_eq_true he] at ee
    obtain ⟨u2, hu2⟩ : ∃ u2, u2 = u' / 2 := ⟨_, rfl⟩
    obtain ⟨x2, hx2⟩ : ∃ x2, x2 = hv m x' := ⟨_, rfl⟩
    have hP : GI m a u2 v x2 y ∧ u2 ≤ u ∧ (u2 = u ∨ u % 2 = 0) := by
      rw [hu2, hx2]
      exact ⟨hG'.halfU hodd he, by omega, by omega⟩
    have hμ : u2 < u' := by have := hG'.u0; omega
    have c1 := halfS4 hl (a := u') (top := 0) (h := u2) (Nat.lt_of_le_of_lt hG'.um hlim) (by omega) (by rw [hu2]; omega)
    have c2 := halvedS4 hl hR (inv := H.minv m) (H.fast4 m) (H.mf 256 m 1) (H.mf (2 * 256) m 1) x' x2 hG'.xm hx2
    cbv
    refine ABr.t ee ?_
    cbv
    refine ACall.mk _ (cg hS c1 (by cbv)) ?_
    cbv
    refine ACall.mk _ (cf hS c2) ?_
    cbv
    exact ⟨(u2, x2), by cbv, hP, hμ⟩
  rw [decide_eq_false he] at ee
  have hstart2 : GI m a u' v x' y ∧ v ≤ v ∧ (v = v ∨ v % 2 = 0) := ⟨hG', Nat.le_refl _, .inl rfl⟩
  cbv
  refine ABr.f ee ?_
  cbv
  clear ee
  refine .inv (α := Nat × Nat) (fun p => gcdSt4 H m a u' p.1 x' p.2) (fun p => GI m a u' p.1 x' p.2 ∧ p.1 ≤ v ∧ (p.1 = v ∨ v % 2 = 0)) (fun p => p.1) (v, y) (by cbv) hstart2 ?_
  rintro ⟨v', y'⟩ ⟨hG2, hle2, hor2⟩
  dsimp only at hG2 hle2 hor2 ⊢
  have ee := even_lim4 hA hl v'
  by_cases he2 : v' % 2 = 0
  · rw [decide_eq_true he2] at ee
    obtain ⟨v2, hv2⟩ : ∃ v2, v2 = v' / 2 := ⟨_, rfl⟩
    obtain ⟨y2, hy2⟩ : ∃ y2, y2 = hv m y' := ⟨_, rfl⟩
    have hP : GI m a u' v2 x' y2 ∧ v2 ≤ v ∧ (v2 = v ∨ v % 2 = 0) := by
      rw [hv2, hy2]
      exact ⟨hG2.halfV hodd he2, by omega, by omega⟩
    have hμ : v2 < v' := by have := hG2.v0; omega
    have c1 := halfS4 hl (a := v') (top := 0) (h := v2) (Nat.lt_of_le_of_lt hG2.vm hlim) (by omega) (by rw [hv2]; omega)
    have c2 := halvedS4 hl hR (inv := H.minv m) (H.fast4 m) (H.mf 256 m 1) (H.mf (2 * 256) m 1) y' y2 hG2.ym hy2
    cbv
    refine ABr.t ee ?_
    cbv
    refine ACall.mk _ (cg hS c1 (by cbv)) ?_
    cbv
    refine ACall.mk _ (cf hS c2) ?_
    cbv
    exact ⟨(v2, y2), by cbv, hP, hμ⟩
  rw [decide_eq_false he2] at ee
  have hne : u' ≠ v' := by
    refine hG2.ne ?_
    refine Classical.byContradiction fun h => ?_
    have e1 : u' = 1 := by omega
    have e2 : v' = 1 := by omega
    have := Nat.dvd_gcd (Nat.dvd_of_mod_eq_zero (show u % 2 = 0 by omega)) (Nat.dvd_of_mod_eq_zero (show v % 2 = 0 by omega))
    rw [show Nat.gcd u v = 1 from hG.co] at this
    have := Nat.le_of_dvd (by omega) this
    omega
  have hu'n : u' < 2 ^ 256 := Nat.lt_of_le_of_lt hG2.um hlim
  have hv'n : v' < 2 ^ 256 := Nat.lt_of_le_of_lt hG2.vm hlim
  by_cases hlt : u' < v'
  · obtain ⟨d, hd⟩ : ∃ d, d = v' - u' := ⟨_, rfl⟩
    obtain ⟨y2, hy2⟩ : ∃ y2, y2 = (y' + m - x') % m := ⟨_, rfl⟩
    have hP : GI m a u' d x' y2 := by rw [hd, hy2]; exact hG2.subV hlt
    have hμ : u' + d < u + v := by have := hG2.u0; omega
    have c1 := less4S hl u' v' hu'n hv'n true (decide_eq_true hlt).symm
    have c2 := minus4 hl v' u' d 0 hv'n hu'n (by omega) (by omega)
    have c3 := rlessS4 hl hR (inv := H.minv m) (H.fast4 m) (H.mf 256 m 1) (H.mf (2 * 256) m 1) y' x' y2 hG2.ym hG2.xm hy2
    cbv
    refine ABr.f ee ?_
    cbv
    refine ACall.mk _ (cf hS c1) ?_
    cbv
    refine ABr.t rfl ?_
    cbv
    refine ACall.mk _ (cf hS c2) ?_
    cbv
    refine ACall.mk _ (cf hS c3) ?_
    cbv
    exact ⟨(u', d, x', y2), by cbv, hP, hμ⟩
  · obtain ⟨d, hd⟩ : ∃ d, d = u' - v' := ⟨_, rfl⟩
    obtain ⟨x2, hx2⟩ : ∃ x2, x2 = (x' + m - y') % m := ⟨_, rfl⟩
    have hP : GI m a d v' x2 y' := by rw [hd, hx2]; exact hG2.subU (by omega)
    have hμ : d + v' < u + v := by have := hG2.v0; omega
    have c1 := less4S hl u' v' hu'n hv'n false (decide_eq_false hlt).symm
    have c2 := minus4 hl u' v' d 0 hu'n hv'n (by omega) (by omega)
    have c3 := rlessS4 hl hR (inv := H.minv m) (H.fast4 m) (H.mf 256 m 1) (H.mf (2 * 256) m 1) x' y' x2 hG2.xm hG2.ym hx2
    cbv
    refine ABr.f ee ?_
    cbv
    refine ACall.mk _ (cf hS c1) ?_
    cbv
    refine ABr.f rfl ?_
    cbv
    refine ACall.mk _ (cf hS c2) ?_
    cbv
    refine ACall.mk _ (cf hS c3) ?_
    cbv
    exact ⟨(d, v', x2, y'), by cbv, hP, hμ⟩
end Go.Proofs.YtkhipnhdbaahcaaGreat
end
section
set_option linter.unusedVariables false
set_option linter.unusedSimpArgs false
namespace Go.Proofs.YtkhipnhdbaahcaaGreat
open Go Eng
set_option maxRecDepth 100000
set_option exponentiation.threshold 2000
def RRoot : Nat → Md := fun r => match r with | 6 => .own | _ => .mid
theorem primes4_pr {m : Nat} (h : m ∈ primes4) : NT.Pr m := by
  simp only [primes4, List.mem_cons, List.not_mem_nil, or_false] at h
  rcases h with rfl | rfl | rfl | rfl | rfl
  · exact NT.prime_secpP
  · exact NT.prime_secpN
  · exact NT.prime_bnP
  · exact NT.prime_bnR
  · exact NT.prime_blsR
theorem pr_coprime {m a : Nat} (hp : NT.Pr m) (h0 : a ≠ 0) (ha : a < m) : Nat.Coprime a m :=
  hp.coprime fun h => by have := Nat.le_of_dvd (by omega) h; omega
/-- What the search for an inverse is worth. -/
theorem inv_mf {m a z b : Nat} (hp : NT.Pr m) (h0 : a ≠ 0) (ha : a < m) (hz : a * 2 ^ b % m * z % m = 1) : z * 2 ^ b % m = a ^ (m - 2) % m := by
  have hc := pr_coprime hp h0 ha
  have h1 := hp.1
  refine NT.cancel hc ?_
  have hf := NT.fermat hp (a := a) (fun h => by have := Nat.le_of_dvd (by omega) h; omega)
  rw [show a * a ^ (m - 2) = a ^ (m - 1) by rw [← Nat.pow_succ']; congr 1; omega, hf, ← hz, Nat.mod_mul_mod]
  congr 1
  simp only [Nat.mul_assoc, Nat.mul_left_comm, Nat.mul_comm]
theorem mf_coprime {m b : Nat} (hm : m % 2 = 1) : Nat.Coprime (2 ^ b) m := Nat.Coprime.pow_left _ (two_coprime hm)
theorem mf_inj {m b x y : Nat} (hm : m % 2 = 1) (hx : x < m) (hy : y < m) (h : x * 2 ^ b % m = y * 2 ^ b % m) : x = y := by
  rw [Nat.mul_comm x, Nat.mul_comm y] at h
  have := NT.cancel (mf_coprime hm) h
  rwa [Nat.mod_eq_of_lt hx, Nat.mod_eq_of_lt hy] at this
theorem limR_quarter (n i : Nat) : limR (n / 4) i = limR n i / 4 + 4611686018427387904 * (limR n (i + 1) % 4) := by
  unfold limR
  obtain ⟨q, hq⟩ : ∃ q, q = n / 2 ^ (64 * i) := ⟨_, rfl⟩
  have h1 : n / 4 / 2 ^ (64 * i) = q / 4 := by rw [hq, Nat.div_div_eq_div_mul, Nat.mul_comm 4, ← Nat.div_div_eq_div_mul]
  have h2 : n / 2 ^ (64 * (i + 1)) = q / 18446744073709551616 := by rw [hq, Nat.div_div_eq_div_mul, show (18446744073709551616 : Nat) = 2 ^ 64 from rfl, ← Nat.pow_add]; rfl
  rw [h1, h2, ← hq]
  omega
/-- A word's quarter, and the two bits above. -/
theorem quarter_word {A : Ar} (hA : A = Ar.real) {x y : Int} (hx : 0 ≤ x ∧ x < 18446744073709551616) (hy : 0 ≤ y ∧ y < 18446744073709551616) : A.bin .or .u64 (A.bin .shr .u64 x 2) (A.bin .shl .u64 y 62) = x / 4 + 4611686018427387904 * (y % 4) := by
  obtain ⟨a, rfl⟩ : ∃ n : Nat, x = n := ⟨x.toNat, by omega⟩
  obtain ⟨b, rfl⟩ : ∃ n : Nat, y = n := ⟨y.toNat, by omega⟩
  rw [hA]
  show rbin .or .u64 (rbin .shr .u64 (Int.ofNat a) (Int.ofNat 2)) (rbin .shl .u64 (Int.ofNat b) (Int.ofNat 62)) = _
  have e : b * 2 ^ 62 % 18446744073709551616 = 2 ^ 62 * (b % 4) := by omega
  rw [u_shr a 2 (by omega), u_shl _ 62 (by omega), e, u_or_add _ _ 62 (by omega) (by omega) (by omega)]
  show ((a / 2 ^ 2 + 2 ^ 62 * (b % 4) : Nat) : Int) = _
  omega
theorem shr_two {A : Ar} (hA : A = Ar.real) {x : Int} (hx : 0 ≤ x) : A.bin .shr .u64 x 2 = x / 4 := by
  obtain ⟨a, rfl⟩ : ∃ n : Nat, x = n := ⟨x.toNat, by omega⟩
  rw [hA]
  show rbin .shr .u64 (Int.ofNat a) (Int.ofNat 2) = _
  rw [u_shr a 2 (by omega)]
  show ((a / 2 ^ 2 : Nat) : Int) = _
  omega
theorem row4 (lim : Lim) (hl : lim = limR) (e : Nat) : IsRow [.s .u64 (lim e 0), .s .u64 (lim e 1), .s .u64 (lim e 2), .s .u64 (lim e 3)] (limR e) 4 := by
  subst hl
  refine ⟨rfl, fun i hi => ?_⟩
  rcases (by omega : i = 0 ∨ i = 1 ∨ i = 2 ∨ i = 3) with rfl | rfl | rfl | rfl <;> rfl
theorem zeq4 {A : Ar} (hA : A = Ar.real) {lim : Lim} (hl : lim = limR) {x : Nat} (hx : x < 2 ^ 256) : A.eqs [(.s .u64 (lim x 0), .i .u64 0), (.s .u64 (lim x 1), .i .u64 0), (.s .u64 (lim x 2), .i .u64 0), (.s .u64 (lim x 3), .i .u64 0)] = decide (x = 0) := by
  rw [eqs_real hA]
  simp only [List.all_cons, List.all_nil, leafEq_si, Bool.and_true]
  have e := split4 hl x hx
  have hr := fun i => lim_range hl x i
  have r0 := hr 0
  have r1 := hr 1
  have r2 := hr 2
  have r3 := hr 3
  clear hr
  by_cases h : x = 0
  · rw [decide_eq_true h]
    simp only [Bool.and_eq_true, decide_eq_true_eq]
    refine ⟨?_, ?_, ?_, ?_⟩ <;> omega
  · rw [decide_eq_false h]
    refine Bool.eq_false_iff.2 fun h' => h ?_
    simp only [Bool.and_eq_true, decide_eq_true_eq] at h'
    omega
theorem InvS4 {H : H5} (hH : H = H5.real) {m a : Nat} (hR : Mod 256 m) (ha : a < m) : Sp 83 [.ref (R4 H m) 0, el4 H m a] (el4 H m (H.pow m a (m - 2))) := by
  have hl := H5.hlim hH
  have hlim := hR.lt
  have h1m := hR.one
  have hodd := hR.odd
  obtain ⟨x, hx⟩ : ∃ x, x = H.mf 256 m a := ⟨_, rfl⟩
  have hx' : x = a * 2 ^ 256 % m := by rw [hx, hH]; rfl
  have hxm : x < m := by rw [hx']; exact Nat.mod_lt _ hR.pos
  have hx0 : x = 0 ↔ a = 0 := by
    rw [hx']
    constructor
    · intro h; exact mf_inj hodd ha hR.pos (h.trans (by rw [Nat.zero_mul, Nat.zero_mod]))
    · rintro rfl; rw [Nat.zero_mul, Nat.zero_mod]
  obtain ⟨e, he⟩ : ∃ e, e = m - 2 := ⟨_, rfl⟩
  have l20 : H.lim 2 0 = 2 := by rw [hH]; rfl
  have l2s : ∀ i, i < 4 - 1 → H.lim 2 (i + 1) = 0 := by
    intro i hi; rw [hH]; show ((2 / 2 ^ (64 * (i + 1)) % 2 ^ 64 : Nat) : Int) = 0
    rw [Nat.div_eq_of_lt (Nat.lt_of_lt_of_le (show 2 < 2 ^ 2 by decide) (Nat.pow_le_pow_right (by omega) (by omega)))]; rfl
  have c2 := minus4 hl m 2 e 0 hlim (by omega) (by omega) (by omega)
  have c3 := wordsS4 (H := H) e
  have c4 := ExpS4 hH hR ha (row4 H.lim hl e) (by omega) (by omega : e < 2 ^ (64 * 4))
  unfold el4 at c4 ⊢
  rw [← hx] at c4 ⊢
  have hfast : (A : Ar) → A = Ar.real → A.cmp .eql ((H.fast4 m : Nat) : Int) 1 = decide (m ∈ primes4) := by
    intro A hA
    rw [i_eq hA, hH]
    show decide (((if m ∈ primes4 then 1 else 0 : Nat) : Int) = 1) = _
    by_cases h : m ∈ primes4
    · rw [if_pos h, decide_eq_true h]; rfl
    · rw [if_neg h, decide_eq_false h]; rfl
  rw [← he]
  refine mk Tryz.func83 rfl rfl LN R1 (by decide +kernel) fun A S hA hS => ?_
  have hfast := hfast A hA
  unfold bodyOf Tryz.f83
  cbv
  refine ACall.mk _ (cf hS (isS4 (H := H) m)) ?_
  cbv
  have c1 := less4S hl x m (Nat.lt_trans hxm hlim) hlim true (decide_eq_true hxm).symm
  have tail : Sp 125 [u4 H.lim m, .agg [.i .u64 2, .i .u64 0, .i .u64 0, .i .u64 0]] (.tup [u4 H.lim e, .s .u64 (0 : Nat)]) := Spec.args c2 (by
    cbv
    repeat' (first | exact l20.symm | exact (l2s _ (by omega)).symm | constructor))
  by_cases hp : m ∈ primes4
  · rw [decide_eq_true hp] at hfast
    have hpr := primes4_pr hp
    have ez := zeq4 hA hl (Nat.lt_trans hxm hlim)
    by_cases h0 : a = 0
    · rw [decide_eq_true (hx0.2 h0)] at ez
      have nz := (a_not hA (A.eqs [(.s .u64 (H.lim x 0), .i .u64 0), (.s .u64 (H.lim x 1), .i .u64 0), (.s .u64 (H.lim x 2), .i .u64 0), (.s .u64 (H.lim x 3), .i .u64 0)])).trans (by rw [ez]; rfl : _ = false)
      repeat (first | (refine ABr.t (by assumption) ?_; cbv) | (refine ABr.f (by assumption) ?_; cbv))
      refine ACall.mk _ (cf hS c1) ?_
      cbv
      repeat (first | (refine ABr.t (by assumption) ?_; cbv) | (refine ABr.f (by assumption) ?_; cbv) | (refine ABr.t rfl ?_; cbv))
      refine ACall.mk _ (cf hS none4S) ?_
      cbv
      repeat (first | (refine ABr.t (by assumption) ?_; cbv) | (refine ABr.f (by assumption) ?_; cbv) | (refine ABr.t rfl ?_; cbv))
      refine ACall.mk _ (cf hS tail) ?_
      cbv
      refine ACall.mk _ (cf hS c3) ?_
      cbv
      refine ACall.mk _ (cg hS c4 (by cbv)) ?_
      cbv
    · rw [decide_eq_false (fun h => h0 (hx0.1 h))] at ez
      have nz := (a_not hA (A.eqs [(.s .u64 (H.lim x 0), .i .u64 0), (.s .u64 (H.lim x 1), .i .u64 0), (.s .u64 (H.lim x 2), .i .u64 0), (.s .u64 (H.lim x 3), .i .u64 0)])).trans (by rw [ez]; rfl : _ = true)
      have hxc := pr_coprime hpr (fun h => h0 (hx0.1 h)) hxm
      obtain ⟨z, hzm, hxz⟩ := NT.inv_mod hxc h1m
      have hinv := inv_mf hpr h0 ha (by rw [← hx']; exact hxz)
      obtain ⟨r1, hr1⟩ : ∃ r1, r1 = z * 2 ^ 256 % m := ⟨_, rfl⟩
      obtain ⟨r2, hr2⟩ : ∃ r2, r2 = H.mf 256 m (H.pow m a e) := ⟨_, rfl⟩
      have hr2' : r2 = a ^ e % m * 2 ^ 256 % m := by rw [hr2, hH]; rfl
      obtain ⟨tw, htw⟩ : ∃ tw, tw = H.mf (2 * 256) m 1 := ⟨_, rfl⟩
      have htw' : tw = 2 ^ (2 * 256) % m := by rw [htw, hH]; show 1 * 2 ^ (2 * 256) % m = _; rw [Nat.one_mul]
      have htm : tw < m := by rw [htw']; exact Nat.mod_lt _ hR.pos
      have hr1m : r1 < m := by rw [hr1]; exact Nat.mod_lt _ hR.pos
      have hr2m : r2 < m := by rw [hr2']; exact Nat.mod_lt _ hR.pos
      have g1 := gcdS4 hH hR (by have := hx0.1; omega) hxm hxc hzm hxz
      have g2 := mulS4 hl hR (inv := H.minv m) (by rw [hH]; rfl) (H.fast4 m) (H.mf 256 m 1) tw z tw r1 (Nat.lt_trans hzm hlim) (Nat.lt_trans htm hlim) (.inl hzm) hr1m (by
        rw [hr1, htw', Nat.mul_mod_mod, Nat.mod_mul_mod, Nat.mul_assoc, ← Nat.pow_add])
      have g3 := mulS4 hl hR (inv := H.minv m) (by rw [hH]; rfl) (H.fast4 m) (H.mf 256 m 1) tw r1 tw r2 (Nat.lt_trans hr1m hlim) (Nat.lt_trans htm hlim) (.inl hr1m) hr2m (by
        rw [hr2', htw', hr1, hinv, ← he, Nat.mul_mod_mod, Nat.mod_mul_mod, Nat.mul_assoc, ← Nat.pow_add])
      rw [htw] at g2 g3
      repeat (first | (refine ABr.t (by assumption) ?_; cbv) | (refine ABr.f (by assumption) ?_; cbv))
      refine ACall.mk _ (cf hS c1) ?_
      cbv
      repeat (first | (refine ABr.t (by assumption) ?_; cbv) | (refine ABr.f (by assumption) ?_; cbv) | (refine ABr.t rfl ?_; cbv))
      refine ACall.mk _ (cf hS none4S) ?_
      cbv
      repeat (first | (refine ABr.t (by assumption) ?_; cbv) | (refine ABr.f (by assumption) ?_; cbv) | (refine ABr.t rfl ?_; cbv))
      refine ACall.mk _ (cf hS g1) ?_
      cbv
      refine ACall.mk _ (cf hS g2) ?_
      cbv
      refine ACall.mk _ (cf hS g3) ?_
      rw [hr2]
      cbv
  · rw [decide_eq_false hp] at hfast
    repeat (refine ABr.f hfast ?_; cbv)
    refine ACall.mk _ (cf hS tail) ?_
    cbv
    refine ACall.mk _ (cf hS c3) ?_
    cbv
    refine ACall.mk _ (cg hS c4 (by cbv)) ?_
    cbv
end Go.Proofs.YtkhipnhdbaahcaaGreat
end
