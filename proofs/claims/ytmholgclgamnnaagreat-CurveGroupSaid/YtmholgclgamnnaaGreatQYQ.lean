import Derived.Test.YtmholgclgamnnaaGreatQYCA
import Derived.Test.YtmholgclgamnnaaGreatQYCB
section
set_option linter.unusedVariables false
set_option linter.unusedSimpArgs false
namespace Go.Proofs.YtmholgclgamnnaaGreat
open Go Eng
set_option maxRecDepth 100000
set_option exponentiation.threshold 2000
/-- Loops of Make: the second one waits for an invariant. -/
def LMk : Nat → Nat := fun b => match b with | 0 => 20 | _ => 0
theorem newton_lt (m : Nat) : ∀ k, newton m k < 18446744073709551616
  | 0 => by show 1 < 18446744073709551616; decide
  | k + 1 => Nat.mod_lt _ (by omega)
theorem newton_bin {A : Ar} (hA : A = Ar.real) {lim : Lim} (hl : lim = limR) (m k : Nat) {x : Int} (hx : x = (newton m k : Nat)) : A.bin .mul .u64 x (A.bin .sub .u64 2 (A.bin .mul .u64 (lim m 0) x)) = (newton m (k + 1) : Nat) := by
  subst hx
  rw [lim_mod hl, hA]
  show rbin .mul .u64 (Int.ofNat (newton m k)) (rbin .sub .u64 (Int.ofNat 2) (rbin .mul .u64 (Int.ofNat (m % 18446744073709551616)) (Int.ofNat (newton m k)))) = _
  rw [u_mul, u_sub _ _ (by omega), u_mul]
  show ((newton m k * ((2 + 18446744073709551616 - m % 18446744073709551616 * newton m k % 18446744073709551616) % 18446744073709551616) % 18446744073709551616 : Nat) : Int) = ((newton m k * ((18446744073709551616 + 2 - m * newton m k % 18446744073709551616) % 18446744073709551616) % 18446744073709551616 : Nat) : Int)
  rw [Nat.mod_mul_mod, Nat.add_comm 2]
theorem neg_bin {A : Ar} (hA : A = Ar.real) {x : Int} {n : Nat} (hx : x = (n : Nat)) (hn : n < 18446744073709551616) : A.un .neg .u64 x = ((18446744073709551616 - n) % 18446744073709551616 : Nat) := by
  subst hx
  rw [hA]
  show IntKind.u64.wrap (0 - (n : Int)) = _
  rw [wrap_u64]
  omega
theorem leafEq_si (k k' : IntKind) (a b : Int) : leafEq (.s k a, .i k' b) = decide (a = b) := by
  show (a == b) = _
  by_cases h : a = b <;> simp [h]
theorem leafEq_ii (k k' : IntKind) (a b : Int) : leafEq (.i k a, .i k' b) = decide (a = b) := by
  show (a == b) = _
  by_cases h : a = b <;> simp [h]
theorem small4 {A : Ar} (hA : A = Ar.real) {lim : Lim} (hl : lim = limR) {m : Nat} (hm : m < 2 ^ 256) : A.eqs [(.i .u64 0, .i .u64 0), (.s .u64 (lim m 1), .i .u64 0), (.s .u64 (lim m 2), .i .u64 0), (.s .u64 (lim m 3), .i .u64 0)] = decide (m < 18446744073709551616) := by
  rw [eqs_real hA]
  simp only [List.all_cons, List.all_nil, leafEq_si, leafEq_ii, Bool.and_true]
  have e := split4 hl m hm
  have hr := fun i => lim_range hl m i
  have r0 := hr 0
  have r1 := hr 1
  have r2 := hr 2
  have r3 := hr 3
  clear hr
  by_cases h : m < 18446744073709551616
  · rw [decide_eq_true h]
    simp only [Bool.and_eq_true, decide_eq_true_eq]
    refine ⟨trivial, ?_, ?_, ?_⟩ <;> omega
  · rw [decide_eq_false h]
    refine Bool.eq_false_iff.2 fun h' => h ?_
    simp only [Bool.and_eq_true, decide_eq_true_eq] at h'
    omega
theorem MakeS4 {H : H5} (hH : H = H5.real) {m : Nat} (hR : Mod 256 m) : Sp 98 [u4 H.lim m] (.tup [.ref (R4 H m) 0, .i .i64 0]) := by
  have hl := H5.hlim hH
  have hlim := hR.lt
  obtain ⟨X, hX⟩ : ∃ X : Nat → Nat, X = fun i => 2 ^ i % m := ⟨_, rfl⟩
  obtain ⟨O, hO⟩ : ∃ O : Nat → Nat, O = fun i => if i ≤ 256 then 0 else 2 ^ 256 % m := ⟨_, rfl⟩
  have hX0 : X 0 = 1 := by rw [hX]; exact Nat.mod_eq_of_lt hR.one
  have hXs : ∀ i, X (i + 1) = (X i + X i) % m := by
    intro i; rw [hX]; show 2 ^ (i + 1) % m = (2 ^ i % m + 2 ^ i % m) % m
    rw [← Nat.add_mod, Nat.pow_succ, Nat.mul_two]
  have hXm : ∀ i, X i < m := by intro i; rw [hX]; exact Nat.mod_lt _ hR.pos
  have hO0 : O 0 = 0 := by rw [hO]; rfl
  have hOs : ∀ i, O (i + 1) = if i = 256 then X i else O i := by
    intro i; rw [hO, hX]
    show (if i + 1 ≤ 256 then 0 else 2 ^ 256 % m) = if i = 256 then 2 ^ i % m else if i ≤ 256 then 0 else 2 ^ 256 % m
    by_cases h : i = 256
    · subst h; rfl
    · rw [if_neg h]; by_cases h2 : i ≤ 256
      · rw [if_pos h2, if_pos (by omega)]
      · rw [if_neg h2, if_neg (by omega)]
  have hOe : O (2 * 256) = H.mf 256 m 1 := by rw [hO, hH]; show 2 ^ 256 % m = 1 * 2 ^ 256 % m; rw [Nat.one_mul]
  have hXe : X (2 * 256) = H.mf (2 * 256) m 1 := by rw [hX, hH]; show 2 ^ (2 * 256) % m = 1 * 2 ^ (2 * 256) % m; rw [Nat.one_mul]
  have hz : ∀ i, H.lim 0 i = 0 := by intro i; rw [hH]; show ((0 / 2 ^ (64 * i) % 2 ^ 64 : Nat) : Int) = 0; rw [Nat.zero_div]; rfl
  have h10 : H.lim 1 0 = 1 := by rw [hH]; rfl
  have h1s : ∀ i, i < 4 - 1 → H.lim 1 (i + 1) = 0 := by
    intro i hi; rw [hH]; show ((1 / 2 ^ (64 * (i + 1)) % 2 ^ 64 : Nat) : Int) = 0
    rw [Nat.div_eq_of_lt (Nat.one_lt_two_pow (by omega))]; rfl
  refine mk Tryz.func98 rfl rfl LMk R1 (by decide +kernel) fun A S hA hS => ?_
  have e1 : A.cmp .eql (A.bin .and .u64 (H.lim m 0) 1) 0 = false := (even_lim4 hA hl m).trans (decide_eq_false (by have := hR.odd; omega))
  have e2 := small4 hA hl hR.lt
  have e3 : m < 18446744073709551616 → A.cmp .lss (H.lim m 0) 3 = false := by
    intro h
    refine (i_lt hA).trans (decide_eq_false ?_)
    rw [lim_mod hl, Nat.mod_eq_of_lt h]
    have := hR.odd; have := hR.one
    omega
  have n1 := newton_bin hA hl m 0 (x := 1) rfl
  have n2 := newton_bin hA hl m 1 n1
  have n3 := newton_bin hA hl m 2 n2
  have n4 := newton_bin hA hl m 3 n3
  have n5 := newton_bin hA hl m 4 n4
  have n6 := newton_bin hA hl m 5 n5
  have hinv := (neg_bin hA n6 (newton_lt m 6)).trans (show (((18446744073709551616 - newton m 6) % 18446744073709551616 : Nat) : Int) = ((H.minv m : Nat) : Int) from by rw [hH]; rfl)
  clear n1 n2 n3 n4 n5 n6
  unfold bodyOf Tryz.f98
  cbv
  repeat (refine ABr.f e1 ?_; cbv)
  refine ACall.mk _ (cf hS none4S) ?_
  cbv
  repeat (refine ABr.f e1 ?_; cbv)
  have hcase : (A.eqs [(.i .u64 0, .i .u64 0), (.s .u64 (H.lim m 1), .i .u64 0), (.s .u64 (H.lim m 2), .i .u64 0), (.s .u64 (H.lim m 3), .i .u64 0)] = true ∧ A.cmp .lss (H.lim m 0) 3 = false) ∨ A.eqs [(.i .u64 0, .i .u64 0), (.s .u64 (H.lim m 1), .i .u64 0), (.s .u64 (H.lim m 2), .i .u64 0), (.s .u64 (H.lim m 3), .i .u64 0)] = false := by
    rw [e2]
    by_cases h : m < 18446744073709551616
    · exact .inl ⟨decide_eq_true h, e3 h⟩
    · exact .inr (decide_eq_false h)
  clear e2 e3
  rcases hcase with ⟨e2, e3⟩ | e2
  all_goals
    repeat (first | (refine ABr.f (by assumption) ?_; cbv) | (refine ABr.t (by assumption) ?_; cbv))
    refine .inv (α := Nat) (fun i => ⟨[.agg [.s .u64 (H.lim m 0), .s .u64 (H.lim m 1), .s .u64 (H.lim m 2), .s .u64 (H.lim m 3)], .own 0 0, .v (.pointer none), .i .i64 0, .own 1 0, .own 2 0, .any, .own 3 0, .any, .any, .any, .any, .any, .any, .any, .any, .any, .any, .any, .any, .any, .any, .any, .any, .any, .any, .any, .any, .any, .any, .any, .any, .any, .any, .any, .any, .any, .any, .any, .any, .any, .any, .any, .any, .any, .any, .i .i64 512, .s .i64 (i : Nat), .any, .any, .any, .any, .any, .any, .any, .any, .any, .any, .any, .any, .any, .any, .any, .any, .any, .any, .any, .any, .any, .any, .any, .any, .any, .any],
        [⟨true, true, [.s .u64 (H.lim m 0), .s .u64 (H.lim m 1), .s .u64 (H.lim m 2), .s .u64 (H.lim m 3)]⟩, ⟨true, true, [.any, .any, .any, .any]⟩, ⟨true, true, [.i .i64 1, .s .u64 (H.lim m 0), .s .u64 (H.lim m 1), .s .u64 (H.lim m 2), .s .u64 (H.lim m 3), .s .u64 (H.minv m : Nat), .i .i64 0, .s .u64 (H.lim (O i) 0), .s .u64 (H.lim (O i) 1), .s .u64 (H.lim (O i) 2), .s .u64 (H.lim (O i) 3), .i .u64 0, .i .u64 0, .i .u64 0, .i .u64 0]⟩, ⟨true, true, [.s .u64 (H.lim (X i) 0), .s .u64 (H.lim (X i) 1), .s .u64 (H.lim (X i) 2), .s .u64 (H.lim (X i) 3)]⟩]⟩) (fun i => i ≤ 2 * 256) (fun i => 2 * 256 - i) 0 ?_ (Nat.zero_le _) ?_
    · rw [hO0, hX0]
      cbv
      repeat' (first | exact hinv | exact (hz _).symm | exact h10.symm | exact (h1s _ (by omega)).symm | constructor)
    intro i hi
    have hxs := hXs i
    have hxm := hXm i
    have hos := hOs i
    have hxm2 := hXm (i + 1)
    by_cases hlt : i < 2 * 256
    · have hc : A.cmp .lss (i : Int) 512 = true := (i_lt hA).trans (decide_eq_true (by omega))
      have hadd : A.bin .add .i64 (i : Int) 1 = ((i + 1 : Nat) : Int) := e_add hA rfl rfl rfl (by omega)
      have hdec : 2 * 256 - (i + 1) < 2 * 256 - i := by omega
      have hev : (A.cmp .eql (i : Int) 256 = true ∧ O (i + 1) = X i) ∨ (A.cmp .eql (i : Int) 256 = false ∧ O (i + 1) = O i) := by
        rw [i_eq hA]
        by_cases h : i = 256
        · rw [if_pos h] at hos
          exact .inl ⟨decide_eq_true (by omega), hos⟩
        · rw [if_neg h] at hos
          exact .inr ⟨decide_eq_false (by omega), hos⟩
      have hend : ∃ j : Nat, j = i + 1 := ⟨_, rfl⟩
      obtain ⟨j, hj⟩ := hend
      rw [← hj] at hxs hxm2 hev hadd hdec
      generalize X i = x at hxs hxm hev ⊢
      generalize hxj : X j = y at hxs hxm2
      generalize hoj : O j = o' at hev
      generalize O i = o at hev ⊢
      cbv
      refine ABr.t hc ?_
      cbv
      rcases hev with ⟨hev, ho⟩ | ⟨hev, ho⟩
      · refine ABr.t hev ?_
        cbv
        refine ACall.mk _ (cg hS (addS4 hl hR (inv := H.minv m) 0 x 0 x x y hxm hxm hxs) ?_) ?_
        · cbv
          repeat' (first | exact (hz _).symm | constructor)
        cbv
        refine ⟨j, ?_, by omega, hdec⟩
        rw [hxj, hoj, ho]
        cbv
        repeat' (first | exact hadd | constructor)
      · refine ABr.f hev ?_
        cbv
        refine ACall.mk _ (cg hS (addS4 hl hR (inv := H.minv m) 0 o 0 x x y hxm hxm hxs) ?_) ?_
        · cbv
          repeat' (first | exact (hz _).symm | constructor)
        cbv
        refine ⟨j, ?_, by omega, hdec⟩
        rw [hxj, hoj, ho]
        cbv
        repeat' (first | exact hadd | constructor)
    · obtain rfl : i = 2 * 256 := by omega
      have hc : A.cmp .lss ((2 * 256 : Nat) : Int) 512 = false := (i_lt hA).trans (decide_eq_false (by omega))
      rw [hOe, hXe]
      cbv
      refine ABr.f hc ?_
      cbv
      refine ACall.mk _ (cf hS (prime4S hH m hlim)) ?_
      cbv
theorem small6 {A : Ar} (hA : A = Ar.real) {lim : Lim} (hl : lim = limR) {m : Nat} (hm : m < 2 ^ 384) : A.eqs [(.i .u64 0, .i .u64 0), (.s .u64 (lim m 1), .i .u64 0), (.s .u64 (lim m 2), .i .u64 0), (.s .u64 (lim m 3), .i .u64 0), (.s .u64 (lim m 4), .i .u64 0), (.s .u64 (lim m 5), .i .u64 0)] = decide (m < 18446744073709551616) := by
  rw [eqs_real hA]
  simp only [List.all_cons, List.all_nil, leafEq_si, leafEq_ii, Bool.and_true]
  have e := split6 hl m hm
  have hr := fun i => lim_range hl m i
  have r0 := hr 0
  have r1 := hr 1
  have r2 := hr 2
  have r3 := hr 3
  have r4 := hr 4
  have r5 := hr 5
  clear hr
  by_cases h : m < 18446744073709551616
  · rw [decide_eq_true h]
    simp only [Bool.and_eq_true, decide_eq_true_eq]
    refine ⟨trivial, ?_, ?_, ?_, ?_, ?_⟩ <;> omega
  · rw [decide_eq_false h]
    refine Bool.eq_false_iff.2 fun h' => h ?_
    simp only [Bool.and_eq_true, decide_eq_true_eq] at h'
    omega
theorem MakeS6 {H : H5} (hH : H = H5.real) {m : Nat} (hR : Mod 384 m) : Sp 71 [u6 H.lim m] (.tup [.ref (R6 H m) 0, .i .i64 0]) := by
  have hl := H5.hlim hH
  have hlim := hR.lt
  obtain ⟨X, hX⟩ : ∃ X : Nat → Nat, X = fun i => 2 ^ i % m := ⟨_, rfl⟩
  obtain ⟨O, hO⟩ : ∃ O : Nat → Nat, O = fun i => if i ≤ 384 then 0 else 2 ^ 384 % m := ⟨_, rfl⟩
  have hX0 : X 0 = 1 := by rw [hX]; exact Nat.mod_eq_of_lt hR.one
  have hXs : ∀ i, X (i + 1) = (X i + X i) % m := by
    intro i; rw [hX]; show 2 ^ (i + 1) % m = (2 ^ i % m + 2 ^ i % m) % m
    rw [← Nat.add_mod, Nat.pow_succ, Nat.mul_two]
  have hXm : ∀ i, X i < m := by intro i; rw [hX]; exact Nat.mod_lt _ hR.pos
  have hO0 : O 0 = 0 := by rw [hO]; rfl
  have hOs : ∀ i, O (i + 1) = if i = 384 then X i else O i := by
    intro i; rw [hO, hX]
    show (if i + 1 ≤ 384 then 0 else 2 ^ 384 % m) = if i = 384 then 2 ^ i % m else if i ≤ 384 then 0 else 2 ^ 384 % m
    by_cases h : i = 384
    · subst h; rfl
    · rw [if_neg h]; by_cases h2 : i ≤ 384
      · rw [if_pos h2, if_pos (by omega)]
      · rw [if_neg h2, if_neg (by omega)]
  have hOe : O (2 * 384) = H.mf 384 m 1 := by rw [hO, hH]; show 2 ^ 384 % m = 1 * 2 ^ 384 % m; rw [Nat.one_mul]
  have hXe : X (2 * 384) = H.mf (2 * 384) m 1 := by rw [hX, hH]; show 2 ^ (2 * 384) % m = 1 * 2 ^ (2 * 384) % m; rw [Nat.one_mul]
  have hz : ∀ i, H.lim 0 i = 0 := by intro i; rw [hH]; show ((0 / 2 ^ (64 * i) % 2 ^ 64 : Nat) : Int) = 0; rw [Nat.zero_div]; rfl
  have h10 : H.lim 1 0 = 1 := by rw [hH]; rfl
  have h1s : ∀ i, i < 6 - 1 → H.lim 1 (i + 1) = 0 := by
    intro i hi; rw [hH]; show ((1 / 2 ^ (64 * (i + 1)) % 2 ^ 64 : Nat) : Int) = 0
    rw [Nat.div_eq_of_lt (Nat.one_lt_two_pow (by omega))]; rfl
  refine mk Tryz.func71 rfl rfl LMk R1 (by decide +kernel) fun A S hA hS => ?_
  have e1 : A.cmp .eql (A.bin .and .u64 (H.lim m 0) 1) 0 = false := (even_lim6 hA hl m).trans (decide_eq_false (by have := hR.odd; omega))
  have e2 := small6 hA hl hR.lt
  have e3 : m < 18446744073709551616 → A.cmp .lss (H.lim m 0) 3 = false := by
    intro h
    refine (i_lt hA).trans (decide_eq_false ?_)
    rw [lim_mod hl, Nat.mod_eq_of_lt h]
    have := hR.odd; have := hR.one
    omega
  have n1 := newton_bin hA hl m 0 (x := 1) rfl
  have n2 := newton_bin hA hl m 1 n1
  have n3 := newton_bin hA hl m 2 n2
  have n4 := newton_bin hA hl m 3 n3
  have n5 := newton_bin hA hl m 4 n4
  have n6 := newton_bin hA hl m 5 n5
  have hinv := (neg_bin hA n6 (newton_lt m 6)).trans (show (((18446744073709551616 - newton m 6) % 18446744073709551616 : Nat) : Int) = ((H.minv m : Nat) : Int) from by rw [hH]; rfl)
  clear n1 n2 n3 n4 n5 n6
  unfold bodyOf Tryz.f71
  cbv
  repeat (refine ABr.f e1 ?_; cbv)
  refine ACall.mk _ (cf hS none6S) ?_
  cbv
  repeat (refine ABr.f e1 ?_; cbv)
  have hcase : (A.eqs [(.i .u64 0, .i .u64 0), (.s .u64 (H.lim m 1), .i .u64 0), (.s .u64 (H.lim m 2), .i .u64 0), (.s .u64 (H.lim m 3), .i .u64 0), (.s .u64 (H.lim m 4), .i .u64 0), (.s .u64 (H.lim m 5), .i .u64 0)] = true ∧ A.cmp .lss (H.lim m 0) 3 = false) ∨ A.eqs [(.i .u64 0, .i .u64 0), (.s .u64 (H.lim m 1), .i .u64 0), (.s .u64 (H.lim m 2), .i .u64 0), (.s .u64 (H.lim m 3), .i .u64 0), (.s .u64 (H.lim m 4), .i .u64 0), (.s .u64 (H.lim m 5), .i .u64 0)] = false := by
    rw [e2]
    by_cases h : m < 18446744073709551616
    · exact .inl ⟨decide_eq_true h, e3 h⟩
    · exact .inr (decide_eq_false h)
  clear e2 e3
  rcases hcase with ⟨e2, e3⟩ | e2
  all_goals
    repeat (first | (refine ABr.f (by assumption) ?_; cbv) | (refine ABr.t (by assumption) ?_; cbv))
    refine .inv (α := Nat) (fun i => ⟨[.agg [.s .u64 (H.lim m 0), .s .u64 (H.lim m 1), .s .u64 (H.lim m 2), .s .u64 (H.lim m 3), .s .u64 (H.lim m 4), .s .u64 (H.lim m 5)], .own 0 0, .v (.pointer none), .i .i64 0, .own 1 0, .own 2 0, .any, .own 3 0, .any, .any, .any, .any, .any, .any, .any, .any, .any, .any, .any, .any, .any, .any, .any, .any, .any, .any, .any, .any, .any, .any, .any, .any, .any, .any, .any, .any, .any, .any, .any, .any, .any, .any, .any, .any, .any, .any, .i .i64 768, .s .i64 (i : Nat), .any, .any, .any, .any, .any, .any, .any, .any, .any, .any, .any, .any, .any, .any, .any, .any, .any, .any, .any, .any, .any, .any, .any, .any, .any, .any],
        [⟨true, true, [.s .u64 (H.lim m 0), .s .u64 (H.lim m 1), .s .u64 (H.lim m 2), .s .u64 (H.lim m 3), .s .u64 (H.lim m 4), .s .u64 (H.lim m 5)]⟩, ⟨true, true, [.any, .any, .any, .any, .any, .any]⟩, ⟨true, true, [.i .i64 1, .s .u64 (H.lim m 0), .s .u64 (H.lim m 1), .s .u64 (H.lim m 2), .s .u64 (H.lim m 3), .s .u64 (H.lim m 4), .s .u64 (H.lim m 5), .s .u64 (H.minv m : Nat), .i .i64 0, .s .u64 (H.lim (O i) 0), .s .u64 (H.lim (O i) 1), .s .u64 (H.lim (O i) 2), .s .u64 (H.lim (O i) 3), .s .u64 (H.lim (O i) 4), .s .u64 (H.lim (O i) 5), .i .u64 0, .i .u64 0, .i .u64 0, .i .u64 0, .i .u64 0, .i .u64 0]⟩, ⟨true, true, [.s .u64 (H.lim (X i) 0), .s .u64 (H.lim (X i) 1), .s .u64 (H.lim (X i) 2), .s .u64 (H.lim (X i) 3), .s .u64 (H.lim (X i) 4), .s .u64 (H.lim (X i) 5)]⟩]⟩) (fun i => i ≤ 2 * 384) (fun i => 2 * 384 - i) 0 ?_ (Nat.zero_le _) ?_
    · rw [hO0, hX0]
      cbv
      repeat' (first | exact hinv | exact (hz _).symm | exact h10.symm | exact (h1s _ (by omega)).symm | constructor)
    intro i hi
    have hxs := hXs i
    have hxm := hXm i
    have hos := hOs i
    have hxm2 := hXm (i + 1)
    by_cases hlt : i < 2 * 384
    · have hc : A.cmp .lss (i : Int) 768 = true := (i_lt hA).trans (decide_eq_true (by omega))
      have hadd : A.bin .add .i64 (i : Int) 1 = ((i + 1 : Nat) : Int) := e_add hA rfl rfl rfl (by omega)
      have hdec : 2 * 384 - (i + 1) < 2 * 384 - i := by omega
      have hev : (A.cmp .eql (i : Int) 384 = true ∧ O (i + 1) = X i) ∨ (A.cmp .eql (i : Int) 384 = false ∧ O (i + 1) = O i) := by
        rw [i_eq hA]
        by_cases h : i = 384
        · rw [if_pos h] at hos
          exact .inl ⟨decide_eq_true (by omega), hos⟩
        · rw [if_neg h] at hos
          exact .inr ⟨decide_eq_false (by omega), hos⟩
      have hend : ∃ j : Nat, j = i + 1 := ⟨_, rfl⟩
      obtain ⟨j, hj⟩ := hend
      rw [← hj] at hxs hxm2 hev hadd hdec
      generalize X i = x at hxs hxm hev ⊢
      generalize hxj : X j = y at hxs hxm2
      generalize hoj : O j = o' at hev
      generalize O i = o at hev ⊢
      cbv
      refine ABr.t hc ?_
      cbv
      rcases hev with ⟨hev, ho⟩ | ⟨hev, ho⟩
      · refine ABr.t hev ?_
        cbv
        refine ACall.mk _ (cg hS (addS6 hl hR (inv := H.minv m) 0 x 0 x x y hxm hxm hxs) ?_) ?_
        · cbv
          repeat' (first | exact (hz _).symm | constructor)
        cbv
        refine ⟨j, ?_, by omega, hdec⟩
        rw [hxj, hoj, ho]
        cbv
        repeat' (first | exact hadd | constructor)
      · refine ABr.f hev ?_
        cbv
        refine ACall.mk _ (cg hS (addS6 hl hR (inv := H.minv m) 0 o 0 x x y hxm hxm hxs) ?_) ?_
        · cbv
          repeat' (first | exact (hz _).symm | constructor)
        cbv
        refine ⟨j, ?_, by omega, hdec⟩
        rw [hxj, hoj, ho]
        cbv
        repeat' (first | exact hadd | constructor)
    · obtain rfl : i = 2 * 384 := by omega
      have hc : A.cmp .lss ((2 * 384 : Nat) : Int) 768 = false := (i_lt hA).trans (decide_eq_false (by omega))
      rw [hOe, hXe]
      cbv
      refine ABr.f hc ?_
      cbv
      refine ACall.mk _ (cf hS (prime6S hH m hlim)) ?_
      cbv
end Go.Proofs.YtmholgclgamnnaaGreat
end
section
set_option linter.unusedVariables false
set_option linter.unusedSimpArgs false
set_option linter.unusedSectionVars false
set_option maxRecDepth 100000
set_option exponentiation.threshold 2000
namespace NT
theorem pr_271 : Pr 271 := small (by kernel_rfl)
theorem pr1 : Pr 1627 := cert (l := [(271, 0, 2)]) (by kernel_rfl) (by
  intro r hr
  simp only [List.mem_cons, List.not_mem_nil, or_false] at hr
  rcases hr with rfl
  · exact pr_271)
theorem pr_83 : Pr 83 := small (by kernel_rfl)
theorem pr3 : Pr 2657 := cert (l := [(83, 0, 2)]) (by kernel_rfl) (by
  intro r hr
  simp only [List.mem_cons, List.not_mem_nil, or_false] at hr
  rcases hr with rfl
  · exact pr_83)
theorem pr_2 : Pr 2 := small (by kernel_rfl)
theorem pr_3 : Pr 3 := small (by kernel_rfl)
theorem pr_11 : Pr 11 := small (by kernel_rfl)
theorem pr7 : Pr 4423 := cert (l := [(2, 0, 3), (3, 0, 3), (11, 0, 2)]) (by kernel_rfl) (by
  intro r hr
  simp only [List.mem_cons, List.not_mem_nil, or_false] at hr
  rcases hr with rfl | rfl | rfl
  · exact pr_2
  · exact pr_3
  · exact pr_11)
theorem pr_5 : Pr 5 := small (by kernel_rfl)
theorem pr9 : Pr 41201 := cert (l := [(2, 3, 3), (5, 1, 3)]) (by kernel_rfl) (by
  intro r hr
  simp only [List.mem_cons, List.not_mem_nil, or_false] at hr
  rcases hr with rfl | rfl
  · exact pr_2
  · exact pr_5)
theorem pr_101 : Pr 101 := small (by kernel_rfl)
theorem pr11 : Pr 96557 := cert (l := [(2, 1, 2), (101, 0, 2)]) (by kernel_rfl) (by
  intro r hr
  simp only [List.mem_cons, List.not_mem_nil, or_false] at hr
  rcases hr with rfl | rfl
  · exact pr_2
  · exact pr_101)
theorem pr12 : Pr 255515944373312847190720520512484175977 := cert (l := [(1627, 0, 2), (2657, 0, 2), (4423, 0, 2), (41201, 0, 2), (96557, 0, 2)]) (by kernel_rfl) (by
  intro r hr
  simp only [List.mem_cons, List.not_mem_nil, or_false] at hr
  rcases hr with rfl | rfl | rfl | rfl | rfl
  · exact pr1
  · exact pr3
  · exact pr7
  · exact pr9
  · exact pr11)
theorem pr13 : Pr 205115282021455665897114700593932402728804164701536103180137503955397371 := cert (l := [(255515944373312847190720520512484175977, 0, 2)]) (by kernel_rfl) (by
  intro r hr
  simp only [List.mem_cons, List.not_mem_nil, or_false] at hr
  rcases hr with rfl
  · exact pr12)
theorem pr14 : Pr 115792089237316195423570985008687907853269984665640564039457584007908834671663 := cert (l := [(205115282021455665897114700593932402728804164701536103180137503955397371, 0, 2)]) (by kernel_rfl) (by
  intro r hr
  simp only [List.mem_cons, List.not_mem_nil, or_false] at hr
  rcases hr with rfl
  · exact pr13)
theorem prime_secpP : Pr 115792089237316195423570985008687907853269984665640564039457584007908834671663 := pr14
theorem pr_631 : Pr 631 := small (by kernel_rfl)
theorem pr16 : Pr 16699 := cert (l := [(3, 0, 3), (11, 1, 2)]) (by kernel_rfl) (by
  intro r hr
  simp only [List.mem_cons, List.not_mem_nil, or_false] at hr
  rcases hr with rfl | rfl
  · exact pr_3
  · exact pr_11)
theorem pr17 : Pr 2861 := cert (l := [(5, 0, 2), (11, 0, 2)]) (by kernel_rfl) (by
  intro r hr
  simp only [List.mem_cons, List.not_mem_nil, or_false] at hr
  rcases hr with rfl | rfl
  · exact pr_5
  · exact pr_11)
theorem pr18 : Pr 85831 := cert (l := [(2861, 0, 2)]) (by kernel_rfl) (by
  intro r hr
  simp only [List.mem_cons, List.not_mem_nil, or_false] at hr
  rcases hr with rfl
  · exact pr17)
theorem pr19 : Pr 107361793816595537 := cert (l := [(16699, 0, 2), (85831, 0, 2)]) (by kernel_rfl) (by
  intro r hr
  simp only [List.mem_cons, List.not_mem_nil, or_false] at hr
  rcases hr with rfl | rfl
  · exact pr16
  · exact pr18)
theorem pr_59 : Pr 59 := small (by kernel_rfl)
theorem pr21 : Pr 4051 := cert (l := [(3, 3, 3)]) (by kernel_rfl) (by
  intro r hr
  simp only [List.mem_cons, List.not_mem_nil, or_false] at hr
  rcases hr with rfl
  · exact pr_3)
theorem pr_7 : Pr 7 := small (by kernel_rfl)
theorem pr_19 : Pr 19 := small (by kernel_rfl)
theorem pr24 : Pr 120233 := cert (l := [(2, 2, 3), (7, 0, 3), (19, 0, 2)]) (by kernel_rfl) (by
  intro r hr
  simp only [List.mem_cons, List.not_mem_nil, or_false] at hr
  rcases hr with rfl | rfl | rfl
  · exact pr_2
  · exact pr_7
  · exact pr_19)
theorem pr25 : Pr 174723607534414371449 := cert (l := [(59, 0, 2), (4051, 0, 2), (120233, 0, 2)]) (by kernel_rfl) (by
  intro r hr
  simp only [List.mem_cons, List.not_mem_nil, or_false] at hr
  rcases hr with rfl | rfl | rfl
  · exact pr_59
  · exact pr21
  · exact pr24)
theorem pr26 : Pr 115792089237316195423570985008687907852837564279074904382605163141518161494337 := cert (l := [(631, 0, 2), (107361793816595537, 0, 2), (174723607534414371449, 0, 2)]) (by kernel_rfl) (by
  intro r hr
  simp only [List.mem_cons, List.not_mem_nil, or_false] at hr
  rcases hr with rfl | rfl | rfl
  · exact pr_631
  · exact pr19
  · exact pr25)
theorem prime_secpN : Pr 115792089237316195423570985008687907852837564279074904382605163141518161494337 := pr26
theorem pr27 : Pr 1853641 := cert (l := [(2, 2, 7), (3, 1, 2), (19, 0, 2)]) (by kernel_rfl) (by
  intro r hr
  simp only [List.mem_cons, List.not_mem_nil, or_false] at hr
  rcases hr with rfl | rfl | rfl
  · exact pr_2
  · exact pr_3
  · exact pr_19)
theorem pr_17 : Pr 17 := small (by kernel_rfl)
theorem pr_109 : Pr 109 := small (by kernel_rfl)
theorem pr30 : Pr 4562087 := cert (l := [(2, 0, 5), (17, 0, 2), (109, 0, 2)]) (by kernel_rfl) (by
  intro r hr
  simp only [List.mem_cons, List.not_mem_nil, or_false] at hr
  rcases hr with rfl | rfl | rfl
  · exact pr_2
  · exact pr_17
  · exact pr_109)
theorem pr31 : Pr 2221 := cert (l := [(2, 1, 2), (3, 0, 2), (5, 0, 2)]) (by kernel_rfl) (by
  intro r hr
  simp only [List.mem_cons, List.not_mem_nil, or_false] at hr
  rcases hr with rfl | rfl | rfl
  · exact pr_2
  · exact pr_3
  · exact pr_5)
theorem pr32 : Pr 13327 := cert (l := [(2221, 0, 2)]) (by kernel_rfl) (by
  intro r hr
  simp only [List.mem_cons, List.not_mem_nil, or_false] at hr
  rcases hr with rfl
  · exact pr31)
theorem pr33 : Pr 173171039 := cert (l := [(13327, 0, 2)]) (by kernel_rfl) (by
  intro r hr
  simp only [List.mem_cons, List.not_mem_nil, or_false] at hr
  rcases hr with rfl
  · exact pr32)
theorem pr34 : Pr 13427688667394608761327070753331941386769 := cert (l := [(1853641, 0, 2), (4562087, 0, 2), (173171039, 0, 2)]) (by kernel_rfl) (by
  intro r hr
  simp only [List.mem_cons, List.not_mem_nil, or_false] at hr
  rcases hr with rfl | rfl | rfl
  · exact pr27
  · exact pr30
  · exact pr33)
theorem pr35 : Pr 21888242871839275222246405745257275088696311157297823662689037894645226208583 := cert (l := [(13427688667394608761327070753331941386769, 0, 2)]) (by kernel_rfl) (by
  intro r hr
  simp only [List.mem_cons, List.not_mem_nil, or_false] at hr
  rcases hr with rfl
  · exact pr34)
theorem prime_bnP : Pr 21888242871839275222246405745257275088696311157297823662689037894645226208583 := pr35
theorem pr_13 : Pr 13 := small (by kernel_rfl)
theorem pr_29 : Pr 29 := small (by kernel_rfl)
theorem pr_983 : Pr 983 := small (by kernel_rfl)
theorem pr39 : Pr 5501 := cert (l := [(5, 2, 2)]) (by kernel_rfl) (by
  intro r hr
  simp only [List.mem_cons, List.not_mem_nil, or_false] at hr
  rcases hr with rfl
  · exact pr_5)
theorem pr40 : Pr 11003 := cert (l := [(5501, 0, 2)]) (by kernel_rfl) (by
  intro r hr
  simp only [List.mem_cons, List.not_mem_nil, or_false] at hr
  rcases hr with rfl
  · exact pr39)
theorem pr41 : Pr 237073 := cert (l := [(2, 3, 5), (3, 0, 3), (11, 0, 2)]) (by kernel_rfl) (by
  intro r hr
  simp only [List.mem_cons, List.not_mem_nil, or_false] at hr
  rcases hr with rfl | rfl | rfl
  · exact pr_2
  · exact pr_3
  · exact pr_11)
theorem pr42 : Pr 3691 := cert (l := [(2, 0, 2), (3, 1, 2), (5, 0, 2)]) (by kernel_rfl) (by
  intro r hr
  simp only [List.mem_cons, List.not_mem_nil, or_false] at hr
  rcases hr with rfl | rfl | rfl
  · exact pr_2
  · exact pr_3
  · exact pr_5)
theorem pr43 : Pr 405928799 := cert (l := [(11, 0, 2), (3691, 0, 2)]) (by kernel_rfl) (by
  intro r hr
  simp only [List.mem_cons, List.not_mem_nil, or_false] at hr
  rcases hr with rfl | rfl
  · exact pr_11
  · exact pr42)
theorem pr_661 : Pr 661 := small (by kernel_rfl)
theorem pr45 : Pr 12048837557 := cert (l := [(2, 1, 2), (7, 1, 2), (661, 0, 2)]) (by kernel_rfl) (by
  intro r hr
  simp only [List.mem_cons, List.not_mem_nil, or_false] at hr
  rcases hr with rfl | rfl | rfl
  · exact pr_2
  · exact pr_7
  · exact pr_661)
theorem pr46 : Pr 5156902474397 := cert (l := [(12048837557, 0, 2)]) (by kernel_rfl) (by
  intro r hr
  simp only [List.mem_cons, List.not_mem_nil, or_false] at hr
  rcases hr with rfl
  · exact pr45)
theorem pr47 : Pr 1670836401704629 := cert (l := [(5156902474397, 0, 2)]) (by kernel_rfl) (by
  intro r hr
  simp only [List.mem_cons, List.not_mem_nil, or_false] at hr
  rcases hr with rfl
  · exact pr46)
theorem pr48 : Pr 21888242871839275222246405745257275088548364400416034343698204186575808495617 := cert (l := [(13, 0, 5), (29, 0, 2), (983, 0, 2), (11003, 0, 2), (237073, 0, 2), (405928799, 0, 2), (1670836401704629, 0, 2)]) (by kernel_rfl) (by
  intro r hr
  simp only [List.mem_cons, List.not_mem_nil, or_false] at hr
  rcases hr with rfl | rfl | rfl | rfl | rfl | rfl | rfl
  · exact pr_13
  · exact pr_29
  · exact pr_983
  · exact pr40
  · exact pr41
  · exact pr43
  · exact pr47)
theorem prime_bnR : Pr 21888242871839275222246405745257275088548364400416034343698204186575808495617 := pr48
theorem pr49 : Pr 10177 := cert (l := [(2, 5, 5), (3, 0, 2)]) (by kernel_rfl) (by
  intro r hr
  simp only [List.mem_cons, List.not_mem_nil, or_false] at hr
  rcases hr with rfl | rfl
  · exact pr_2
  · exact pr_3)
theorem pr_523 : Pr 523 := small (by kernel_rfl)
theorem pr51 : Pr 20921 := cert (l := [(523, 0, 2)]) (by kernel_rfl) (by
  intro r hr
  simp only [List.mem_cons, List.not_mem_nil, or_false] at hr
  rcases hr with rfl
  · exact pr_523)
theorem pr52 : Pr 125527 := cert (l := [(20921, 0, 2)]) (by kernel_rfl) (by
  intro r hr
  simp only [List.mem_cons, List.not_mem_nil, or_false] at hr
  rcases hr with rfl
  · exact pr51)
theorem pr53 : Pr 47737 := cert (l := [(3, 2, 3), (13, 0, 2)]) (by kernel_rfl) (by
  intro r hr
  simp only [List.mem_cons, List.not_mem_nil, or_false] at hr
  rcases hr with rfl | rfl
  · exact pr_3
  · exact pr_13)
theorem pr54 : Pr 859267 := cert (l := [(47737, 0, 2)]) (by kernel_rfl) (by
  intro r hr
  simp only [List.mem_cons, List.not_mem_nil, or_false] at hr
  rcases hr with rfl
  · exact pr53)
theorem pr_73 : Pr 73 := small (by kernel_rfl)
theorem pr56 : Pr 1607 := cert (l := [(73, 0, 2)]) (by kernel_rfl) (by
  intro r hr
  simp only [List.mem_cons, List.not_mem_nil, or_false] at hr
  rcases hr with rfl
  · exact pr_73)
theorem pr57 : Pr 906349 := cert (l := [(1607, 0, 2)]) (by kernel_rfl) (by
  intro r hr
  simp only [List.mem_cons, List.not_mem_nil, or_false] at hr
  rcases hr with rfl
  · exact pr56)
theorem pr58 : Pr 52435875175126190479447740508185965837690552500527637822603658699938581184513 := cert (l := [(2, 31, 5), (11, 0, 2), (19, 0, 2), (10177, 0, 2), (125527, 0, 2), (859267, 0, 2), (906349, 1, 2)]) (by kernel_rfl) (by
  intro r hr
  simp only [List.mem_cons, List.not_mem_nil, or_false] at hr
  rcases hr with rfl | rfl | rfl | rfl | rfl | rfl | rfl
  · exact pr_2
  · exact pr_11
  · exact pr_19
  · exact pr49
  · exact pr52
  · exact pr54
  · exact pr57)
theorem prime_blsR : Pr 52435875175126190479447740508185965837690552500527637822603658699938581184513 := pr58
theorem pr_113 : Pr 113 := small (by kernel_rfl)
theorem pr60 : Pr 1151 := cert (l := [(2, 0, 13), (5, 1, 2)]) (by kernel_rfl) (by
  intro r hr
  simp only [List.mem_cons, List.not_mem_nil, or_false] at hr
  rcases hr with rfl | rfl
  · exact pr_2
  · exact pr_5)
theorem pr61 : Pr 755057 := cert (l := [(1151, 0, 2)]) (by kernel_rfl) (by
  intro r hr
  simp only [List.mem_cons, List.not_mem_nil, or_false] at hr
  rcases hr with rfl
  · exact pr60)
theorem pr62 : Pr 3819663927398918131021 := cert (l := [(3, 1, 3), (5, 0, 3), (19, 0, 2), (113, 0, 2), (755057, 0, 2)]) (by kernel_rfl) (by
  intro r hr
  simp only [List.mem_cons, List.not_mem_nil, or_false] at hr
  rcases hr with rfl | rfl | rfl | rfl | rfl
  · exact pr_3
  · exact pr_5
  · exact pr_19
  · exact pr_113
  · exact pr61)
theorem pr63 : Pr 1125266252156850182658904441386709967 := cert (l := [(3819663927398918131021, 0, 2)]) (by kernel_rfl) (by
  intro r hr
  simp only [List.mem_cons, List.not_mem_nil, or_false] at hr
  rcases hr with rfl
  · exact pr62)
theorem pr64 : Pr 15778400344354997994418419698270088123916926905054652752758194827714659 := cert (l := [(1125266252156850182658904441386709967, 0, 2)]) (by kernel_rfl) (by
  intro r hr
  simp only [List.mem_cons, List.not_mem_nil, or_false] at hr
  rcases hr with rfl
  · exact pr63)
theorem pr65 : Pr 4002409555221667393417789825735904156556882819939007885332058136124031650490837864442687629129015664037894272559787 := cert (l := [(15778400344354997994418419698270088123916926905054652752758194827714659, 0, 2)]) (by kernel_rfl) (by
  intro r hr
  simp only [List.mem_cons, List.not_mem_nil, or_false] at hr
  rcases hr with rfl
  · exact pr64)
theorem prime_blsP : Pr 4002409555221667393417789825735904156556882819939007885332058136124031650490837864442687629129015664037894272559787 := pr65
end NT
end
