import Derived.Test.YtlmlganfjnokiaaM
set_option linter.unusedVariables false
set_option linter.unusedSimpArgs false
namespace Go.Proofs.Ytlmlganfjnokiaa
open Go Eng
set_option maxRecDepth 100000
set_option exponentiation.threshold 2000
/-- Loops of Make: the second one waits for an invariant. -/
def LMk : Nat → Nat := fun b => match b with | 0 => 20 | _ => 0
theorem newton_lt (m : Nat) : ∀ k, newton m k < 18446744073709551616
  | 0 => by show 1 < 18446744073709551616; decide
  | k + 1 => Nat.mod_lt _ (by omega)
theorem newton_bin {A : Ar} (hA : A = Ar.real) {lim : Lim} (hl : lim = limR) (m k : Nat) {x : Int} (hx : x = (newton m k : Nat)) : A.bin .mul .u64 x (A.bin .sub .u64 2 (A.bin .mul .u64 (lim m 0) x)) = (newton m (k + 1) : Nat) := by
  subst hx
  rw [lim_mod hl, hA]
  show rbin .mul .u64 (Int.ofNat (newton m k)) (rbin .sub .u64 (Int.ofNat 2) (rbin .mul .u64 (Int.ofNat (m % 18446744073709551616)) (Int.ofNat (newton m k)))) = _
  rw [u_mul, u_sub _ _ (by omega), u_mul]
  show ((newton m k * ((2 + 18446744073709551616 - m % 18446744073709551616 * newton m k % 18446744073709551616) % 18446744073709551616) % 18446744073709551616 : Nat) : Int) = ((newton m k * ((18446744073709551616 + 2 - m * newton m k % 18446744073709551616) % 18446744073709551616) % 18446744073709551616 : Nat) : Int)
  rw [Nat.mod_mul_mod, Nat.add_comm 2]
theorem neg_bin {A : Ar} (hA : A = Ar.real) {x : Int} {n : Nat} (hx : x = (n : Nat)) (hn : n < 18446744073709551616) : A.un .neg .u64 x = ((18446744073709551616 - n) % 18446744073709551616 : Nat) := by
  subst hx
  rw [hA]
  show IntKind.u64.wrap (0 - (n : Int)) = _
  rw [wrap_u64]
  omega
theorem leafEq_si (k k' : IntKind) (a b : Int) : leafEq (.s k a, .i k' b) = decide (a = b) := by
  show (a == b) = _
  by_cases h : a = b <;> simp [h]
theorem leafEq_ii (k k' : IntKind) (a b : Int) : leafEq (.i k a, .i k' b) = decide (a = b) := by
  show (a == b) = _
  by_cases h : a = b <;> simp [h]
theorem small4 {A : Ar} (hA : A = Ar.real) {lim : Lim} (hl : lim = limR) {m : Nat} (hm : m < 2 ^ 256) : A.eqs [(.i .u64 0, .i .u64 0), (.s .u64 (lim m 1), .i .u64 0), (.s .u64 (lim m 2), .i .u64 0), (.s .u64 (lim m 3), .i .u64 0)] = decide (m < 18446744073709551616) := by
  rw [eqs_real hA]
  simp only [List.all_cons, List.all_nil, leafEq_si, leafEq_ii, Bool.and_true]
  have e := split4 hl m hm
  have hr := fun i => lim_range hl m i
  have r0 := hr 0
  have r1 := hr 1
  have r2 := hr 2
  have r3 := hr 3
  clear hr
  by_cases h : m < 18446744073709551616
  · rw [decide_eq_true h]
    simp only [Bool.and_eq_true, decide_eq_true_eq]
    refine ⟨trivial, ?_, ?_, ?_⟩ <;> omega
  · rw [decide_eq_false h]
    refine Bool.eq_false_iff.2 fun h' => h ?_
    simp only [Bool.and_eq_true, decide_eq_true_eq] at h'
    omega
theorem MakeS4 {H : H5} (hH : H = H5.real) {m : Nat} (hR : Mod 256 m) : Sp 27 [u4 H.lim m] (.tup [.ref (R4 H m) 0, .i .i64 0]) := by
  have hl := H5.hlim hH
  have hlim := hR.lt
  obtain ⟨X, hX⟩ : ∃ X : Nat → Nat, X = fun i => 2 ^ i % m := ⟨_, rfl⟩
  obtain ⟨O, hO⟩ : ∃ O : Nat → Nat, O = fun i => if i ≤ 256 then 0 else 2 ^ 256 % m := ⟨_, rfl⟩
  have hX0 : X 0 = 1 := by rw [hX]; exact Nat.mod_eq_of_lt hR.one
  have hXs : ∀ i, X (i + 1) = (X i + X i) % m := by
    intro i; rw [hX]; show 2 ^ (i + 1) % m = (2 ^ i % m + 2 ^ i % m) % m
    rw [← Nat.add_mod, Nat.pow_succ, Nat.mul_two]
  have hXm : ∀ i, X i < m := by intro i; rw [hX]; exact Nat.mod_lt _ hR.pos
  have hO0 : O 0 = 0 := by rw [hO]; rfl
  have hOs : ∀ i, O (i + 1) = if i = 256 then X i else O i := by
    intro i; rw [hO, hX]
    show (if i + 1 ≤ 256 then 0 else 2 ^ 256 % m) = if i = 256 then 2 ^ i % m else if i ≤ 256 then 0 else 2 ^ 256 % m
    by_cases h : i = 256
    · subst h; rfl
    · rw [if_neg h]; by_cases h2 : i ≤ 256
      · rw [if_pos h2, if_pos (by omega)]
      · rw [if_neg h2, if_neg (by omega)]
  have hOe : O (2 * 256) = H.mf 256 m 1 := by rw [hO, hH]; show 2 ^ 256 % m = 1 * 2 ^ 256 % m; rw [Nat.one_mul]
  have hXe : X (2 * 256) = H.mf (2 * 256) m 1 := by rw [hX, hH]; show 2 ^ (2 * 256) % m = 1 * 2 ^ (2 * 256) % m; rw [Nat.one_mul]
  have hz : ∀ i, H.lim 0 i = 0 := by intro i; rw [hH]; show ((0 / 2 ^ (64 * i) % 2 ^ 64 : Nat) : Int) = 0; rw [Nat.zero_div]; rfl
  have h10 : H.lim 1 0 = 1 := by rw [hH]; rfl
  have h1s : ∀ i, i < 4 - 1 → H.lim 1 (i + 1) = 0 := by
    intro i hi; rw [hH]; show ((1 / 2 ^ (64 * (i + 1)) % 2 ^ 64 : Nat) : Int) = 0
    rw [Nat.div_eq_of_lt (Nat.one_lt_two_pow (by omega))]; rfl
  refine mk Try.func27 rfl rfl LMk R1 (by decide +kernel) fun A S hA hS => ?_
  have e1 : A.cmp .eql (A.bin .and .u64 (H.lim m 0) 1) 0 = false := (even_lim4 hA hl m).trans (decide_eq_false (by have := hR.odd; omega))
  have e2 := small4 hA hl hR.lt
  have e3 : m < 18446744073709551616 → A.cmp .lss (H.lim m 0) 3 = false := by
    intro h
    refine (i_lt hA).trans (decide_eq_false ?_)
    rw [lim_mod hl, Nat.mod_eq_of_lt h]
    have := hR.odd; have := hR.one
    omega
  have n1 := newton_bin hA hl m 0 (x := 1) rfl
  have n2 := newton_bin hA hl m 1 n1
  have n3 := newton_bin hA hl m 2 n2
  have n4 := newton_bin hA hl m 3 n3
  have n5 := newton_bin hA hl m 4 n4
  have n6 := newton_bin hA hl m 5 n5
  have hinv := (neg_bin hA n6 (newton_lt m 6)).trans (show (((18446744073709551616 - newton m 6) % 18446744073709551616 : Nat) : Int) = ((H.minv m : Nat) : Int) from by rw [hH]; rfl)
  clear n1 n2 n3 n4 n5 n6
  unfold bodyOf Try.f27
  cbv
  repeat (refine ABr.f e1 ?_; cbv)
  refine ACall.mk _ (cf hS none4S) ?_
  cbv
  repeat (refine ABr.f e1 ?_; cbv)
  have hcase : (A.eqs [(.i .u64 0, .i .u64 0), (.s .u64 (H.lim m 1), .i .u64 0), (.s .u64 (H.lim m 2), .i .u64 0), (.s .u64 (H.lim m 3), .i .u64 0)] = true ∧ A.cmp .lss (H.lim m 0) 3 = false) ∨ A.eqs [(.i .u64 0, .i .u64 0), (.s .u64 (H.lim m 1), .i .u64 0), (.s .u64 (H.lim m 2), .i .u64 0), (.s .u64 (H.lim m 3), .i .u64 0)] = false := by
    rw [e2]
    by_cases h : m < 18446744073709551616
    · exact .inl ⟨decide_eq_true h, e3 h⟩
    · exact .inr (decide_eq_false h)
  clear e2 e3
  rcases hcase with ⟨e2, e3⟩ | e2
  all_goals
    repeat (first | (refine ABr.f (by assumption) ?_; cbv) | (refine ABr.t (by assumption) ?_; cbv))
    refine .inv (α := Nat) (fun i => ⟨[.agg [.s .u64 (H.lim m 0), .s .u64 (H.lim m 1), .s .u64 (H.lim m 2), .s .u64 (H.lim m 3)], .own 0 0, .v (.pointer none), .i .i64 0, .own 1 0, .own 2 0, .any, .own 3 0, .any, .any, .any, .any, .any, .any, .any, .any, .any, .any, .any, .any, .any, .any, .any, .any, .any, .any, .any, .any, .any, .any, .any, .any, .any, .any, .any, .any, .any, .any, .any, .any, .any, .any, .any, .any, .any, .any, .i .i64 512, .s .i64 (i : Nat), .any, .any, .any, .any, .any, .any, .any, .any, .any, .any, .any, .any, .any, .any, .any, .any, .any, .any, .any, .any, .any, .any, .any, .any, .any, .any],
        [⟨true, true, [.s .u64 (H.lim m 0), .s .u64 (H.lim m 1), .s .u64 (H.lim m 2), .s .u64 (H.lim m 3)]⟩, ⟨true, true, [.any, .any, .any, .any]⟩, ⟨true, true, [.i .i64 1, .s .u64 (H.lim m 0), .s .u64 (H.lim m 1), .s .u64 (H.lim m 2), .s .u64 (H.lim m 3), .s .u64 (H.minv m : Nat), .i .i64 0, .s .u64 (H.lim (O i) 0), .s .u64 (H.lim (O i) 1), .s .u64 (H.lim (O i) 2), .s .u64 (H.lim (O i) 3), .i .u64 0, .i .u64 0, .i .u64 0, .i .u64 0]⟩, ⟨true, true, [.s .u64 (H.lim (X i) 0), .s .u64 (H.lim (X i) 1), .s .u64 (H.lim (X i) 2), .s .u64 (H.lim (X i) 3)]⟩]⟩) (fun i => i ≤ 2 * 256) (fun i => 2 * 256 - i) 0 ?_ (Nat.zero_le _) ?_
    · rw [hO0, hX0]
      cbv
      repeat' (first | exact hinv | exact (hz _).symm | exact h10.symm | exact (h1s _ (by omega)).symm | constructor)
    intro i hi
    have hxs := hXs i
    have hxm := hXm i
    have hos := hOs i
    have hxm2 := hXm (i + 1)
    by_cases hlt : i < 2 * 256
    · have hc : A.cmp .lss (i : Int) 512 = true := (i_lt hA).trans (decide_eq_true (by omega))
      have hadd : A.bin .add .i64 (i : Int) 1 = ((i + 1 : Nat) : Int) := e_add hA rfl rfl rfl (by omega)
      have hdec : 2 * 256 - (i + 1) < 2 * 256 - i := by omega
      have hev : (A.cmp .eql (i : Int) 256 = true ∧ O (i + 1) = X i) ∨ (A.cmp .eql (i : Int) 256 = false ∧ O (i + 1) = O i) := by
        rw [i_eq hA]
        by_cases h : i = 256
        · rw [if_pos h] at hos
          exact .inl ⟨decide_eq_true (by omega), hos⟩
        · rw [if_neg h] at hos
          exact .inr ⟨decide_eq_false (by omega), hos⟩
      have hend : ∃ j : Nat, j = i + 1 := ⟨_, rfl⟩
      obtain ⟨j, hj⟩ := hend
      rw [← hj] at hxs hxm2 hev hadd hdec
      generalize X i = x at hxs hxm hev ⊢
      generalize hxj : X j = y at hxs hxm2
      generalize hoj : O j = o' at hev
      generalize O i = o at hev ⊢
      cbv
      refine ABr.t hc ?_
      cbv
      rcases hev with ⟨hev, ho⟩ | ⟨hev, ho⟩
      · refine ABr.t hev ?_
        cbv
        refine ACall.mk _ (cg hS (addS4 hl hR (inv := H.minv m) 0 x 0 x x y hxm hxm hxs) ?_) ?_
        · cbv
          repeat' (first | exact (hz _).symm | constructor)
        cbv
        refine ⟨j, ?_, by omega, hdec⟩
        rw [hxj, hoj, ho]
        cbv
        repeat' (first | exact hadd | constructor)
      · refine ABr.f hev ?_
        cbv
        refine ACall.mk _ (cg hS (addS4 hl hR (inv := H.minv m) 0 o 0 x x y hxm hxm hxs) ?_) ?_
        · cbv
          repeat' (first | exact (hz _).symm | constructor)
        cbv
        refine ⟨j, ?_, by omega, hdec⟩
        rw [hxj, hoj, ho]
        cbv
        repeat' (first | exact hadd | constructor)
    · obtain rfl : i = 2 * 256 := by omega
      have hc : A.cmp .lss ((2 * 256 : Nat) : Int) 512 = false := (i_lt hA).trans (decide_eq_false (by omega))
      rw [hOe, hXe]
      cbv
      refine ABr.f hc ?_
      cbv
      refine ACall.mk _ (cf hS (prime4S hH m hlim)) ?_
      cbv
theorem MakeN4 {H : H5} (hH : H = H5.real) {m : Nat} (hm : m < 2 ^ 256) (hbad : m % 2 = 0 ∨ m < 3) : Sp 27 [u4 H.lim m] (.tup [.v (.pointer none), .i .i64 50]) := by
  have hl := H5.hlim hH
  refine mk Try.func27 rfl rfl LMk R1 (by decide +kernel) fun A S hA hS => ?_
  have e1 := even_lim4 hA hl m
  have e2 := small4 hA hl hm
  unfold bodyOf Try.f27
  cbv
  by_cases h : m % 2 = 0
  · rw [decide_eq_true h] at e1
    repeat (first | (refine ABr.f (by assumption) ?_; cbv) | (refine ABr.t (by assumption) ?_; cbv))
  · rw [decide_eq_false h] at e1
    have h3 : m < 3 := by omega
    rw [decide_eq_true (by omega)] at e2
    have e3 : A.cmp .lss (H.lim m 0) 3 = true := by
      refine (i_lt hA).trans (decide_eq_true ?_)
      rw [lim_mod hl, Nat.mod_eq_of_lt (by omega)]
      omega
    repeat (refine ABr.f e1 ?_; cbv)
    refine ACall.mk _ (cf hS none4S) ?_
    cbv
    repeat (first | (refine ABr.f (by assumption) ?_; cbv) | (refine ABr.t (by assumption) ?_; cbv))
theorem small6 {A : Ar} (hA : A = Ar.real) {lim : Lim} (hl : lim = limR) {m : Nat} (hm : m < 2 ^ 384) : A.eqs [(.i .u64 0, .i .u64 0), (.s .u64 (lim m 1), .i .u64 0), (.s .u64 (lim m 2), .i .u64 0), (.s .u64 (lim m 3), .i .u64 0), (.s .u64 (lim m 4), .i .u64 0), (.s .u64 (lim m 5), .i .u64 0)] = decide (m < 18446744073709551616) := by
  rw [eqs_real hA]
  simp only [List.all_cons, List.all_nil, leafEq_si, leafEq_ii, Bool.and_true]
  have e := split6 hl m hm
  have hr := fun i => lim_range hl m i
  have r0 := hr 0
  have r1 := hr 1
  have r2 := hr 2
  have r3 := hr 3
  have r4 := hr 4
  have r5 := hr 5
  clear hr
  by_cases h : m < 18446744073709551616
  · rw [decide_eq_true h]
    simp only [Bool.and_eq_true, decide_eq_true_eq]
    refine ⟨trivial, ?_, ?_, ?_, ?_, ?_⟩ <;> omega
  · rw [decide_eq_false h]
    refine Bool.eq_false_iff.2 fun h' => h ?_
    simp only [Bool.and_eq_true, decide_eq_true_eq] at h'
    omega
theorem MakeS6 {H : H5} (hH : H = H5.real) {m : Nat} (hR : Mod 384 m) : Sp 32 [u6 H.lim m] (.tup [.ref (R6 H m) 0, .i .i64 0]) := by
  have hl := H5.hlim hH
  have hlim := hR.lt
  obtain ⟨X, hX⟩ : ∃ X : Nat → Nat, X = fun i => 2 ^ i % m := ⟨_, rfl⟩
  obtain ⟨O, hO⟩ : ∃ O : Nat → Nat, O = fun i => if i ≤ 384 then 0 else 2 ^ 384 % m := ⟨_, rfl⟩
  have hX0 : X 0 = 1 := by rw [hX]; exact Nat.mod_eq_of_lt hR.one
  have hXs : ∀ i, X (i + 1) = (X i + X i) % m := by
    intro i; rw [hX]; show 2 ^ (i + 1) % m = (2 ^ i % m + 2 ^ i % m) % m
    rw [← Nat.add_mod, Nat.pow_succ, Nat.mul_two]
  have hXm : ∀ i, X i < m := by intro i; rw [hX]; exact Nat.mod_lt _ hR.pos
  have hO0 : O 0 = 0 := by rw [hO]; rfl
  have hOs : ∀ i, O (i + 1) = if i = 384 then X i else O i := by
    intro i; rw [hO, hX]
    show (if i + 1 ≤ 384 then 0 else 2 ^ 384 % m) = if i = 384 then 2 ^ i % m else if i ≤ 384 then 0 else 2 ^ 384 % m
    by_cases h : i = 384
    · subst h; rfl
    · rw [if_neg h]; by_cases h2 : i ≤ 384
      · rw [if_pos h2, if_pos (by omega)]
      · rw [if_neg h2, if_neg (by omega)]
  have hOe : O (2 * 384) = H.mf 384 m 1 := by rw [hO, hH]; show 2 ^ 384 % m = 1 * 2 ^ 384 % m; rw [Nat.one_mul]
  have hXe : X (2 * 384) = H.mf (2 * 384) m 1 := by rw [hX, hH]; show 2 ^ (2 * 384) % m = 1 * 2 ^ (2 * 384) % m; rw [Nat.one_mul]
  have hz : ∀ i, H.lim 0 i = 0 := by intro i; rw [hH]; show ((0 / 2 ^ (64 * i) % 2 ^ 64 : Nat) : Int) = 0; rw [Nat.zero_div]; rfl
  have h10 : H.lim 1 0 = 1 := by rw [hH]; rfl
  have h1s : ∀ i, i < 6 - 1 → H.lim 1 (i + 1) = 0 := by
    intro i hi; rw [hH]; show ((1 / 2 ^ (64 * (i + 1)) % 2 ^ 64 : Nat) : Int) = 0
    rw [Nat.div_eq_of_lt (Nat.one_lt_two_pow (by omega))]; rfl
  refine mk Try.func32 rfl rfl LMk R1 (by decide +kernel) fun A S hA hS => ?_
  have e1 : A.cmp .eql (A.bin .and .u64 (H.lim m 0) 1) 0 = false := (even_lim6 hA hl m).trans (decide_eq_false (by have := hR.odd; omega))
  have e2 := small6 hA hl hR.lt
  have e3 : m < 18446744073709551616 → A.cmp .lss (H.lim m 0) 3 = false := by
    intro h
    refine (i_lt hA).trans (decide_eq_false ?_)
    rw [lim_mod hl, Nat.mod_eq_of_lt h]
    have := hR.odd; have := hR.one
    omega
  have n1 := newton_bin hA hl m 0 (x := 1) rfl
  have n2 := newton_bin hA hl m 1 n1
  have n3 := newton_bin hA hl m 2 n2
  have n4 := newton_bin hA hl m 3 n3
  have n5 := newton_bin hA hl m 4 n4
  have n6 := newton_bin hA hl m 5 n5
  have hinv := (neg_bin hA n6 (newton_lt m 6)).trans (show (((18446744073709551616 - newton m 6) % 18446744073709551616 : Nat) : Int) = ((H.minv m : Nat) : Int) from by rw [hH]; rfl)
  clear n1 n2 n3 n4 n5 n6
  unfold bodyOf Try.f32
  cbv
  repeat (refine ABr.f e1 ?_; cbv)
  refine ACall.mk _ (cf hS none6S) ?_
  cbv
  repeat (refine ABr.f e1 ?_; cbv)
  have hcase : (A.eqs [(.i .u64 0, .i .u64 0), (.s .u64 (H.lim m 1), .i .u64 0), (.s .u64 (H.lim m 2), .i .u64 0), (.s .u64 (H.lim m 3), .i .u64 0), (.s .u64 (H.lim m 4), .i .u64 0), (.s .u64 (H.lim m 5), .i .u64 0)] = true ∧ A.cmp .lss (H.lim m 0) 3 = false) ∨ A.eqs [(.i .u64 0, .i .u64 0), (.s .u64 (H.lim m 1), .i .u64 0), (.s .u64 (H.lim m 2), .i .u64 0), (.s .u64 (H.lim m 3), .i .u64 0), (.s .u64 (H.lim m 4), .i .u64 0), (.s .u64 (H.lim m 5), .i .u64 0)] = false := by
    rw [e2]
    by_cases h : m < 18446744073709551616
    · exact .inl ⟨decide_eq_true h, e3 h⟩
    · exact .inr (decide_eq_false h)
  clear e2 e3
  rcases hcase with ⟨e2, e3⟩ | e2
  all_goals
    repeat (first | (refine ABr.f (by assumption) ?_; cbv) | (refine ABr.t (by assumption) ?_; cbv))
    refine .inv (α := Nat) (fun i => ⟨[.agg [.s .u64 (H.lim m 0), .s .u64 (H.lim m 1), .s .u64 (H.lim m 2), .s .u64 (H.lim m 3), .s .u64 (H.lim m 4), .s .u64 (H.lim m 5)], .own 0 0, .v (.pointer none), .i .i64 0, .own 1 0, .own 2 0, .any, .own 3 0, .any, .any, .any, .any, .any, .any, .any, .any, .any, .any, .any, .any, .any, .any, .any, .any, .any, .any, .any, .any, .any, .any, .any, .any, .any, .any, .any, .any, .any, .any, .any, .any, .any, .any, .any, .any, .any, .any, .i .i64 768, .s .i64 (i : Nat), .any, .any, .any, .any, .any, .any, .any, .any, .any, .any, .any, .any, .any, .any, .any, .any, .any, .any, .any, .any, .any, .any, .any, .any, .any, .any],
        [⟨true, true, [.s .u64 (H.lim m 0), .s .u64 (H.lim m 1), .s .u64 (H.lim m 2), .s .u64 (H.lim m 3), .s .u64 (H.lim m 4), .s .u64 (H.lim m 5)]⟩, ⟨true, true, [.any, .any, .any, .any, .any, .any]⟩, ⟨true, true, [.i .i64 1, .s .u64 (H.lim m 0), .s .u64 (H.lim m 1), .s .u64 (H.lim m 2), .s .u64 (H.lim m 3), .s .u64 (H.lim m 4), .s .u64 (H.lim m 5), .s .u64 (H.minv m : Nat), .i .i64 0, .s .u64 (H.lim (O i) 0), .s .u64 (H.lim (O i) 1), .s .u64 (H.lim (O i) 2), .s .u64 (H.lim (O i) 3), .s .u64 (H.lim (O i) 4), .s .u64 (H.lim (O i) 5), .i .u64 0, .i .u64 0, .i .u64 0, .i .u64 0, .i .u64 0, .i .u64 0]⟩, ⟨true, true, [.s .u64 (H.lim (X i) 0), .s .u64 (H.lim (X i) 1), .s .u64 (H.lim (X i) 2), .s .u64 (H.lim (X i) 3), .s .u64 (H.lim (X i) 4), .s .u64 (H.lim (X i) 5)]⟩]⟩) (fun i => i ≤ 2 * 384) (fun i => 2 * 384 - i) 0 ?_ (Nat.zero_le _) ?_
    · rw [hO0, hX0]
      cbv
      repeat' (first | exact hinv | exact (hz _).symm | exact h10.symm | exact (h1s _ (by omega)).symm | constructor)
    intro i hi
    have hxs := hXs i
    have hxm := hXm i
    have hos := hOs i
    have hxm2 := hXm (i + 1)
    by_cases hlt : i < 2 * 384
    · have hc : A.cmp .lss (i : Int) 768 = true := (i_lt hA).trans (decide_eq_true (by omega))
      have hadd : A.bin .add .i64 (i : Int) 1 = ((i + 1 : Nat) : Int) := e_add hA rfl rfl rfl (by omega)
      have hdec : 2 * 384 - (i + 1) < 2 * 384 - i := by omega
      have hev : (A.cmp .eql (i : Int) 384 = true ∧ O (i + 1) = X i) ∨ (A.cmp .eql (i : Int) 384 = false ∧ O (i + 1) = O i) := by
        rw [i_eq hA]
        by_cases h : i = 384
        · rw [if_pos h] at hos
          exact .inl ⟨decide_eq_true (by omega), hos⟩
        · rw [if_neg h] at hos
          exact .inr ⟨decide_eq_false (by omega), hos⟩
      have hend : ∃ j : Nat, j = i + 1 := ⟨_, rfl⟩
      obtain ⟨j, hj⟩ := hend
      rw [← hj] at hxs hxm2 hev hadd hdec
      generalize X i = x at hxs hxm hev ⊢
      generalize hxj : X j = y at hxs hxm2
      generalize hoj : O j = o' at hev
      generalize O i = o at hev ⊢
      cbv
      refine ABr.t hc ?_
      cbv
      rcases hev with ⟨hev, ho⟩ | ⟨hev, ho⟩
      · refine ABr.t hev ?_
        cbv
        refine ACall.mk _ (cg hS (addS6 hl hR (inv := H.minv m) 0 x 0 x x y hxm hxm hxs) ?_) ?_
        · cbv
          repeat' (first | exact (hz _).symm | constructor)
        cbv
        refine ⟨j, ?_, by omega, hdec⟩
        rw [hxj, hoj, ho]
        cbv
        repeat' (first | exact hadd | constructor)
      · refine ABr.f hev ?_
        cbv
        refine ACall.mk _ (cg hS (addS6 hl hR (inv := H.minv m) 0 o 0 x x y hxm hxm hxs) ?_) ?_
        · cbv
          repeat' (first | exact (hz _).symm | constructor)
        cbv
        refine ⟨j, ?_, by omega, hdec⟩
        rw [hxj, hoj, ho]
        cbv
        repeat' (first | exact hadd | constructor)
    · obtain rfl : i = 2 * 384 := by omega
      have hc : A.cmp .lss ((2 * 384 : Nat) : Int) 768 = false := (i_lt hA).trans (decide_eq_false (by omega))
      rw [hOe, hXe]
      cbv
      refine ABr.f hc ?_
      cbv
      refine ACall.mk _ (cf hS (prime6S hH m hlim)) ?_
      cbv
theorem MakeN6 {H : H5} (hH : H = H5.real) {m : Nat} (hm : m < 2 ^ 384) (hbad : m % 2 = 0 ∨ m < 3) : Sp 32 [u6 H.lim m] (.tup [.v (.pointer none), .i .i64 50]) := by
  have hl := H5.hlim hH
  refine mk Try.func32 rfl rfl LMk R1 (by decide +kernel) fun A S hA hS => ?_
  have e1 := even_lim6 hA hl m
  have e2 := small6 hA hl hm
  unfold bodyOf Try.f32
  cbv
  by_cases h : m % 2 = 0
  · rw [decide_eq_true h] at e1
    repeat (first | (refine ABr.f (by assumption) ?_; cbv) | (refine ABr.t (by assumption) ?_; cbv))
  · rw [decide_eq_false h] at e1
    have h3 : m < 3 := by omega
    rw [decide_eq_true (by omega)] at e2
    have e3 : A.cmp .lss (H.lim m 0) 3 = true := by
      refine (i_lt hA).trans (decide_eq_true ?_)
      rw [lim_mod hl, Nat.mod_eq_of_lt (by omega)]
      omega
    repeat (refine ABr.f e1 ?_; cbv)
    refine ACall.mk _ (cf hS none6S) ?_
    cbv
    repeat (first | (refine ABr.f (by assumption) ?_; cbv) | (refine ABr.t (by assumption) ?_; cbv))
end Go.Proofs.Ytlmlganfjnokiaa
