import Derived.Test.YtkhipnhdbaahcaaQCC
import Derived.Test.YtkhipnhdbaahcaaQCKC
import Derived.KernelRfl
set_option linter.unusedVariables false
set_option linter.unusedSimpArgs false
set_option linter.unusedSectionVars false
set_option maxRecDepth 100000
set_option exponentiation.threshold 2000
set_option maxHeartbeats 8000000
set_option maxHeartbeats 4000000
section
namespace Go.Proofs.Ytkhipnhdbaahcaa
open Go Eng
open Dg
structure TW (E i k : Nat) (A b : Nat → Nat) (o : Nat → Nat) (c : Nat) : Prop where
 val : V 18446744073709551616 o 8 + c * 18446744073709551616 ^ (i + k) = E + A i * V 18446744073709551616 b k * 18446744073709551616 ^ i
 dig : ∀ j, o j < 18446744073709551616
 top : ∀ j, i + 4 ≤ j → o j = 0
 bnd : c < 18446744073709551616
theorem TW.step {E i k : Nat} {A b o : Nat → Nat} {c : Nat} (h : TW E i k A b o c) (hi : i < 4) (hk : k < 4) (hA : A i < 18446744073709551616) (hb : b k < 18446744073709551616) :
   TW E i (k + 1) A b (upd o (i + k) ((o (i + k) + A i * b k + c) % 18446744073709551616)) ((o (i + k) + A i * b k + c) / 18446744073709551616) := by
 obtain ⟨p, hp⟩ : ∃ p, p = A i * b k := ⟨_, rfl⟩
 have hpp : p ≤ 18446744073709551615 * 18446744073709551615 := by rw [hp]; exact Nat.mul_le_mul (by omega) (by omega)
 have h1 := h.bnd
 have h2 := h.dig (i + k)
 rw [← hp]
 refine ⟨?_, fun j => ?_, fun j hj => ?_, ?_⟩
 . have u := V_upd (B := 18446744073709551616) o (i + k) ((o (i + k) + p + c) % 18446744073709551616) 8 (by omega)
   have hv := h.val
   have e := Nat.mod_add_div (o (i + k) + p + c) 18446744073709551616
   have e1 : (o (i + k) + p + c) / 18446744073709551616 * 18446744073709551616 ^ (i + (k + 1)) = 18446744073709551616 * ((o (i + k) + p + c) / 18446744073709551616) * 18446744073709551616 ^ (i + k) := by rw [← Nat.add_assoc, Nat.pow_succ]; ac_rfl
   have e5 : A i * V 18446744073709551616 b (k + 1) * 18446744073709551616 ^ i = A i * V 18446744073709551616 b k * 18446744073709551616 ^ i + p * 18446744073709551616 ^ (i + k) := by
     rw [V, hp, Nat.pow_add, Nat.mul_add, Nat.add_mul]; congr 1; ac_rfl
   rw [e1, e5]
   have e2 := congrArg (· * 18446744073709551616 ^ (i + k)) e
   simp only [Nat.add_mul] at e2
   generalize 18446744073709551616 * ((o (i + k) + p + c) / 18446744073709551616) * 18446744073709551616 ^ (i + k) = u1 at *
   generalize V 18446744073709551616 (upd o (i + k) ((o (i + k) + p + c) % 18446744073709551616)) 8 = u2 at *
   omega
 . by_cases e : j = i + k
   . subst e; rw [upd_eq]; exact Nat.mod_lt _ (by decide)
   . rw [upd_ne _ _ _ _ e]; exact h.dig j
 . rw [upd_ne _ _ _ _ (by omega)]; exact h.top j hj
 . exact Nat.div_lt_of_lt_mul (by omega)
theorem TW.next {E i : Nat} {A b o : Nat → Nat} {c : Nat} (h : TW E i 4 A b o c) (hi : i < 4) : TW (E + A i * V 18446744073709551616 b 4 * 18446744073709551616 ^ i) (i + 1) 0 A b (upd o (i + 4) c) 0 := by
 have h0 := h.top (i + 4) (Nat.le_refl _)
 have hb := h.bnd
 refine ⟨?_, fun j => ?_, fun j hj => ?_, by decide⟩
 . have u := V_upd (B := 18446744073709551616) o (i + 4) c 8 (by omega)
   rw [h0, Nat.zero_mul, Nat.add_zero] at u
   rw [u, h.val]
   show _ = _ + A (i + 1) * 0 * 18446744073709551616 ^ (i + 1)
   rw [Nat.mul_zero, Nat.zero_mul]
 . by_cases e : j = i + 4
   . subst e; rw [upd_eq]; exact hb
   . rw [upd_ne _ _ _ _ e]; exact h.dig j
 . rw [upd_ne _ _ _ _ (by omega)]; exact h.top j (by omega)
theorem mac {x y z c : Nat} (hx : x < 18446744073709551616) (hy : y < 18446744073709551616) (hz : z < 18446744073709551616) (hc : c < 18446744073709551616) : ((x * y % 18446744073709551616 + z) % 18446744073709551616 + c) % 18446744073709551616 = (z + x * y + c) % 18446744073709551616 ∧ x * y / 18446744073709551616 + (x * y % 18446744073709551616 + z) / 18446744073709551616 + ((x * y % 18446744073709551616 + z) % 18446744073709551616 + c) / 18446744073709551616 = (z + x * y + c) / 18446744073709551616 ∧
   x * y / 18446744073709551616 + (x * y % 18446744073709551616 + z) / 18446744073709551616 < 18446744073709551616 ∧ (z + x * y + c) / 18446744073709551616 < 18446744073709551616 ∧ (x * y % 18446744073709551616 + z) / 18446744073709551616 ≤ 1 ∧ ((x * y % 18446744073709551616 + z) % 18446744073709551616 + c) / 18446744073709551616 ≤ 1 := by
 obtain ⟨p, hp⟩ : ∃ p, p = x * y := ⟨_, rfl⟩
 have hpp : p ≤ 18446744073709551615 * 18446744073709551615 := by rw [hp]; exact Nat.mul_le_mul (by omega) (by omega)
 rw [← hp]
 refine ⟨by omega, by omega, by omega, by omega, by omega, by omega⟩
abbrev w8 (o : Nat → Nat) : List AVal := [.s .u64 ((o 0 : Nat) : Int), .s .u64 ((o 1 : Nat) : Int), .s .u64 ((o 2 : Nat) : Int), .s .u64 ((o 3 : Nat) : Int), .s .u64 ((o 4 : Nat) : Int), .s .u64 ((o 5 : Nat) : Int), .s .u64 ((o 6 : Nat) : Int), .s .u64 ((o 7 : Nat) : Int)]
abbrev w4 (o : Nat → Nat) : List AVal := [.s .u64 ((o 0 : Nat) : Int), .s .u64 ((o 1 : Nat) : Int), .s .u64 ((o 2 : Nat) : Int), .s .u64 ((o 3 : Nat) : Int)]
theorem w8_get {A : Ar} (hA : A = Ar.real) (o : Nat → Nat) (i : Nat) (hi : i < 8) : lsub (w8 o) (A.offs 0 i 1) 1 = some [.s .u64 ((o i : Nat) : Int)] := by
 subst hA
 rcases (by omega : i = 0 ∨ i = 1 ∨ i = 2 ∨ i = 3 ∨ i = 4 ∨ i = 5 ∨ i = 6 ∨ i = 7) with rfl | rfl | rfl | rfl | rfl | rfl | rfl | rfl
 all_goals rfl
theorem w4_get {A : Ar} (hA : A = Ar.real) (o : Nat → Nat) (i : Nat) (hi : i < 4) : lsub (w4 o) (A.offs 0 i 1) 1 = some [.s .u64 ((o i : Nat) : Int)] := by
 subst hA
 rcases (by omega : i = 0 ∨ i = 1 ∨ i = 2 ∨ i = 3) with rfl | rfl | rfl | rfl
 all_goals rfl
theorem w8_put {A : Ar} (hA : A = Ar.real) (o o2 : Nat → Nat) (j : Nat) (hj : j < 8) {x : Int} (hx : x = ((o2 j : Nat) : Int)) (h : ∀ m, m ≠ j → o2 m = o m) : lput (w8 o) (A.offs 0 j 1) [.s .u64 x] = some (w8 o2) := by
 subst hA
 subst hx
 have h0 := h 0
 have h1 := h 1
 have h2 := h 2
 have h3 := h 3
 have h4 := h 4
 have h5 := h 5
 have h6 := h 6
 have h7 := h 7
 clear h
 rcases (by omega : j = 0 ∨ j = 1 ∨ j = 2 ∨ j = 3 ∨ j = 4 ∨ j = 5 ∨ j = 6 ∨ j = 7) with rfl | rfl | rfl | rfl | rfl | rfl | rfl | rfl
 all_goals
   unfold w8
   try rw [h0 (by decide)]
   try rw [h1 (by decide)]
   try rw [h2 (by decide)]
   try rw [h3 (by decide)]
   try rw [h4 (by decide)]
   try rw [h5 (by decide)]
   try rw [h6 (by decide)]
   try rw [h7 (by decide)]
   rfl
theorem u_addN {x y : Nat} (h : x + y < 18446744073709551616) : rbin .add .u64 (x : Int) (y : Int) = ((x + y : Nat) : Int) := (u_add x y).trans (congrArg Int.ofNat (Nat.mod_eq_of_lt h))
theorem wideS (a b : Nat → Nat) (ha : ∀ j, a j < 18446744073709551616) (hb : ∀ j, b j < 18446744073709551616) : ∃ z : Nat → Nat, V 18446744073709551616 z 8 = V 18446744073709551616 a 4 * V 18446744073709551616 b 4 ∧ (∀ j, z j < 18446744073709551616) ∧ Sp 60 [.agg (w4 a), .agg (w4 b)] (.agg (w8 z)) := by
 obtain ⟨Y, hY⟩ : ∃ Y, Y = V 18446744073709551616 b 4 := ⟨_, rfl⟩
 obtain ⟨st, hst⟩ : ∃ st : (Nat → Nat) × Nat → Nat → Nat → (Nat → Nat) × Nat, ∀ p i k, st p i k = (upd p.1 (i + k) ((p.1 (i + k) + a i * b k + p.2) % 18446744073709551616), (p.1 (i + k) + a i * b k + p.2) / 18446744073709551616) := ⟨_, fun _ _ _ => rfl⟩
 obtain ⟨row, hrow0, hrow1⟩ : ∃ row : (Nat → Nat) → Nat → Nat → (Nat → Nat) × Nat, (∀ o i, row o i 0 = (o, 0)) ∧ ∀ o i k, row o i (k + 1) = st (row o i k) i k :=
   ⟨fun o i k => Nat.rec (o, 0) (fun k p => st p i k) k, fun _ _ => rfl, fun _ _ _ => rfl⟩
 obtain ⟨R, hR0, hR1⟩ : ∃ R : Nat → (Nat → Nat), R 0 = (fun _ => 0) ∧ ∀ i, R (i + 1) = upd (row (R i) i 4).1 (i + 4) (row (R i) i 4).2 :=
   ⟨fun i => Nat.rec (fun _ => 0) (fun i o => upd (row o i 4).1 (i + 4) (row o i 4).2) i, rfl, fun _ => rfl⟩
 have hin : ∀ o E i, i < 4 → TW E i 0 a b o 0 → ∀ k, k ≤ 4 → TW E i k a b (row o i k).1 (row o i k).2 := by
   intro o E i hi h0 k
   induction k with
   | zero => intro _; rw [hrow0]; exact h0
   | succ k ih =>
     intro hk
     have := (ih (by omega)).step hi (by omega) (ha i) (hb k)
     rw [hrow1, hst]; exact this
 have hout : ∀ i, i ≤ 4 → TW (V 18446744073709551616 a i * Y) i 0 a b (R i) 0 := by
   intro i
   induction i with
   | zero =>
     intro _
     rw [hR0]
     exact ⟨by show V 18446744073709551616 (fun _ => 0) 8 + 0 * _ = 0 * Y + a 0 * 0 * _; rw [V_zero (fun _ _ => rfl)]; simp, fun _ => (show 0 < 18446744073709551616 by decide), fun _ _ => rfl, by decide⟩
   | succ i ih =>
     intro hi
     have h1 := (hin (R i) _ i (by omega) (ih (by omega)) 4 (Nat.le_refl _)).next (by omega)
     have e : V 18446744073709551616 a i * Y + a i * V 18446744073709551616 b 4 * 18446744073709551616 ^ i = V 18446744073709551616 a (i + 1) * Y := by rw [← hY, V, Nat.add_mul]; congr 1; ac_rfl
     rw [e] at h1
     rw [hR1]; exact h1
 refine ⟨R 4, ?_, (hout 4 (Nat.le_refl _)).dig, ?_⟩
 . have := (hout 4 (Nat.le_refl _)).val
   rw [Nat.zero_mul, Nat.add_zero, show V 18446744073709551616 b 0 = 0 from rfl, Nat.mul_zero, Nat.zero_mul, Nat.add_zero, hY] at this
   exact this
 have hin2 : ∀ i, i < 4 → ∀ k, k ≤ 4 → (∀ j, (row (R i) i k).1 j < 18446744073709551616) ∧ (row (R i) i k).2 < 18446744073709551616 := fun i hi k hk => by
   have := hin (R i) _ i hi (hout i (by omega)) k hk
   exact ⟨this.dig, this.bnd⟩
 have hR0' : ∀ j, ((R 0 j : Nat) : Int) = 0 := fun j => by rw [hR0]; rfl
 clear hin hout hR0 hY Y
 refine mk Try.func60 rfl rfl L00 R1 (by decide +kernel) fun A S hA hS => ?_
 unfold bodyOf Try.f60
 cbv
 have r0 := (hR0' 0).symm
 have r1 := (hR0' 1).symm
 have r2 := (hR0' 2).symm
 have r3 := (hR0' 3).symm
 have r4 := (hR0' 4).symm
 have r5 := (hR0' 5).symm
 have r6 := (hR0' 6).symm
 have r7 := (hR0' 7).symm
 clear hR0'
 refine .inv (α := Nat) (fun i => ⟨[.any, .any, .own 0 0, .own 1 0, .own 2 0, .own 3 0, .any, .any, .any, .any, .any, .any, .s .i64 ((i : Nat) : Int), .any, .any, .any, .any, .any, .any, .any, .any, .any, .any, .any, .any, .any, .any, .any, .any, .any, .any, .any, .any, .any, .any, .any, .any, .any, .any, .any, .any, .any, .any, .any, .any, .any, .any, .any, .any, .any, .any, .any, .any, .any, .any, .any, .any, .any, .any, .any, .any, .any], [⟨true, true, w4 a⟩, ⟨true, true, w4 b⟩, ⟨true, true, [.i .u64 0, .i .u64 0, .i .u64 0, .i .u64 0, .i .u64 0, .i .u64 0, .i .u64 0, .i .u64 0]⟩, ⟨true, true, w8 (R i)⟩]⟩) (fun i => i ≤ 4) (fun i => 4 - i) 0 ?_ (Nat.zero_le _) ?_
 . cbv
   repeat' (first | exact r0 | exact r1 | exact r2 | exact r3 | exact r4 | exact r5 | exact r6 | exact r7 | exact rfl | exact trivial | constructor)
 clear r0 r1 r2 r3 r4 r5 r6 r7
 intro i hi4
 dsimp only at hi4 ⊢
 by_cases hi : i < 4
 . have hcmp := lt_t hA (n := 4) rfl hi
   have hni := nx hA i (by omega)
   have k4 := n_ad hA i 4 (by omega) (ki := 4) rfl
   have q1 : i + 1 ≤ 4 := hi
   have q2 : 4 - (i + 1) < 4 - i := by omega
   have hik : ∀ k : Nat, k < 4 → A.bin .add .i64 ((i : Nat) : Int) ((k : Nat) : Int) = ((i + k : Nat) : Int) := fun k hk => n_add hA i k (by omega)
   have la := w4_get hA a i hi
   have i8 : i + 4 < 8 := by omega
   have hd := hin2 i hi
   have hR := hR1 i
   have h00 := hrow0 (R i) i
   have hrs := hrow1 (R i) i
   have hai := ha i
   clear hin2 hR1 hrow0 hrow1 ha
   generalize hrr : row (R i) i = rw_ at *
   clear hrr
   generalize hi1 : i + 1 = i1 at *
   cbv
   refine ABr.t hcmp ?_
   cbv
   have z0 : ((rw_ 0).1 : Nat → Nat) = R i := by rw [h00]
   have z1 : ((rw_ 0).2 : Nat) = 0 := by rw [h00]
   have y0 : ∀ j, ((R i j : Nat) : Int) = (((rw_ 0).1 j : Nat) : Int) := fun j => by rw [z0]
   have y1 : (0 : Int) = (((rw_ 0).2 : Nat) : Int) := by rw [z1]; rfl
   have y00 := y0 0
   have y01 := y0 1
   have y02 := y0 2
   have y03 := y0 3
   have y04 := y0 4
   have y05 := y0 5
   have y06 := y0 6
   have y07 := y0 7
   clear y0 z0 z1 h00
   refine .inv (α := Nat) (fun k => ⟨[.any, .any, .own 0 0, .own 1 0, .own 2 0, .own 3 0, .s .i64 ((i : Nat) : Int), .s .u64 (((rw_ k).2 : Nat) : Int), .any, .any, .any, .any, .s .i64 ((i : Nat) : Int), .any, .any, .s .i64 ((k : Nat) : Int), .any, .any, .any, .any, .any, .any, .any, .any, .any, .any, .any, .any, .any, .any, .any, .any, .any, .any, .any, .any, .any, .any, .any, .any, .any, .any, .any, .any, .any, .any, .any, .any, .any, .any, .any, .any, .any, .any, .any, .any, .any, .any, .any, .any, .any, .any], [⟨true, true, w4 a⟩, ⟨true, true, w4 b⟩, ⟨true, true, [.i .u64 0, .i .u64 0, .i .u64 0, .i .u64 0, .i .u64 0, .i .u64 0, .i .u64 0, .i .u64 0]⟩, ⟨true, true, w8 (rw_ k).1⟩]⟩) (fun k => k ≤ 4) (fun k => 4 - k) 0 ?_ (Nat.zero_le _) ?_
   . cbv
     repeat' (first | exact y00 | exact y01 | exact y02 | exact y03 | exact y04 | exact y05 | exact y06 | exact y07 | exact y1 | exact rfl | exact trivial | constructor)
   clear y00 y01 y02 y03 y04 y05 y06 y07 y1
   intro k hk4
   dsimp only at hk4 ⊢
   by_cases hk : k < 4
   . have hs := hrs k
     rw [hst] at hs
     have o1 := (hd k (by omega)).1 (i + k)
     have c1 := (hd k (by omega)).2
     have hbk := hb k
     obtain ⟨m1, m2, m3, m4, m5, m6⟩ := mac hai hbk o1 c1
     have hcmpk := lt_t hA (n := 4) rfl hk
     have hnk := nx hA k (by omega)
     have p1 : k + 1 ≤ 4 := hk
     have p2 : 4 - (k + 1) < 4 - k := by omega
     have bik : i + k < 8 := by omega
     have hikk := hik k hk
     have lb := w4_get hA b k hk
     clear hik hd hrs hst hb
     generalize hnx : rw_ (k + 1) = nx_ at *
     generalize hcur : rw_ k = cur at *
     obtain ⟨o, c⟩ := cur
     obtain ⟨o2, c2⟩ := nx_
     dsimp only at *
     injection hs with hs1 hs2
     have lo := w8_get hA o (i + k) bik
     have wv : o2 (i + k) = ((a i * b k % 18446744073709551616 + o (i + k)) % 18446744073709551616 + c) % 18446744073709551616 := by rw [hs1, upd_eq, m1]
     have wn : ∀ m, m ≠ i + k → o2 m = o m := fun m h => by rw [hs1]; exact upd_ne _ _ _ _ h
     have wc : c2 = a i * b k / 18446744073709551616 + (a i * b k % 18446744073709551616 + o (i + k)) / 18446744073709551616 + ((a i * b k % 18446744073709551616 + o (i + k)) % 18446744073709551616 + c) / 18446744073709551616 := by rw [hs2, m2]
     have cm := mul64S (a i) (b k) (a i * b k / 18446744073709551616) (a i * b k % 18446744073709551616) (by omega) (by omega) (by have := Nat.mod_add_div (a i * b k) 18446744073709551616; omega) (Nat.mod_lt _ (by decide))
     obtain ⟨lo_, hlo⟩ : ∃ v, v = a i * b k % 18446744073709551616 := ⟨_, rfl⟩
     obtain ⟨hi_, hhi⟩ : ∃ v, v = a i * b k / 18446744073709551616 := ⟨_, rfl⟩
     rw [← hlo] at cm wv wc m3 m5 m6
     rw [← hhi] at cm wc m3
     have hl64 : lo_ < 18446744073709551616 := by rw [hlo]; exact Nat.mod_lt _ (by decide)
     obtain ⟨s1, hs1'⟩ : ∃ v, v = (lo_ + o (i + k)) % 18446744073709551616 := ⟨_, rfl⟩
     obtain ⟨d1, hd1'⟩ : ∃ v, v = (lo_ + o (i + k)) / 18446744073709551616 := ⟨_, rfl⟩
     rw [← hs1'] at wv wc m6
     rw [← hd1'] at wc m3 m5
     have ca1 := add64S (a := .s .u64 ((lo_ : Nat) : Int)) (b := .s .u64 ((o (i + k) : Nat) : Int)) (c := .i .u64 0) (.s _) (.s _) (.i _) (by omega) (by omega) (by decide) ((s1 : Nat) : Int) ((d1 : Nat) : Int) (by omega) (by omega)
     obtain ⟨s2, hs2'⟩ : ∃ v, v = (s1 + c) % 18446744073709551616 := ⟨_, rfl⟩
     obtain ⟨d2, hd2'⟩ : ∃ v, v = (s1 + c) / 18446744073709551616 := ⟨_, rfl⟩
     rw [← hs2'] at wv
     rw [← hd2'] at wc m6
     have ca2 := add64S (a := .s .u64 ((s1 : Nat) : Int)) (b := .s .u64 ((c : Nat) : Int)) (c := .i .u64 0) (.s _) (.s _) (.i _) (by omega) (by omega) (by decide) ((s2 : Nat) : Int) ((d2 : Nat) : Int) (by omega) (by omega)
     have e1 : A.bin .add .u64 ((hi_ : Nat) : Int) ((d1 : Nat) : Int) = ((hi_ + d1 : Nat) : Int) := by rw [hA]; exact u_addN m3
     have c2lt : c2 < 18446744073709551616 := by rw [hs2]; exact m4
     have e2 : A.bin .add .u64 (A.bin .add .u64 ((hi_ : Nat) : Int) ((d1 : Nat) : Int)) ((d2 : Nat) : Int) = ((c2 : Nat) : Int) := by rw [e1, hA, wc]; exact u_addN (by omega)
     have hput := w8_put hA o o2 (i + k) bik (x := ((s2 : Nat) : Int)) (by rw [wv]) wn
     clear m1 m2 m3 m4 m5 m6 wv wn wc hs1 hs2 hlo hhi hs1' hd1' hs2' hd2' e1 c2lt hl64 o1 c1 hbk hai hR
     generalize i + k = ik at *
     generalize k + 1 = k1 at *
     have e3 := e2.trans (show ((c2 : Nat) : Int) = (((rw_ k1).2 : Nat) : Int) by rw [hnx])
     have ff : ∀ j, ((o2 j : Nat) : Int) = (((rw_ k1).1 j : Nat) : Int) := fun j => by rw [hnx]
     have f0 := ff 0
     have f1 := ff 1
     have f2 := ff 2
     have f3 := ff 3
     have f4 := ff 4
     have f5 := ff 5
     have f6 := ff 6
     have f7 := ff 7
     clear ff e2 hnx
     cbv
     refine ABr.t hcmpk ?_
     cbv
     refine .sym i rfl hi ?_
     cbv
     refine .mk _ la ?_
     cbv
     refine .sym k rfl hk ?_
     cbv
     refine .mk _ lb ?_
     cbv
     refine aF hS cm ?_
     cbv
     refine .sym ik hikk bik ?_
     cbv
     refine .mk _ lo ?_
     cbv
     refine aF hS ca1 ?_
     cbv
     refine aF hS ca2 ?_
     cbv
     refine .sym ik hikk bik ?_
     cbv
     refine .mk _ hput ?_
     cbv
     refine ⟨k1, ?_, p1, p2⟩
     cbv
     repeat' (first | exact hnk | exact e3 | exact f0 | exact f1 | exact f2 | exact f3 | exact f4 | exact f5 | exact f6 | exact f7 | exact rfl | exact trivial | constructor)
   . obtain rfl : k = 4 := by omega
     have hcmpk := lt_f hA (x := 4) (n := 4) rfl (by decide)
     have c4 := (hd 4 (by omega)).2
     clear hik hd hrs hst
     generalize rw_ 4 = cur at *
     obtain ⟨o, c⟩ := cur
     dsimp only at *
     have hput := w8_put hA o (R i1) (i + 4) i8 (x := ((c : Nat) : Int)) (by rw [hR]; exact congrArg Int.ofNat (upd_eq _ _ _).symm) (fun m h => by rw [hR]; exact upd_ne _ _ _ _ h)
     clear hR
     generalize i + 4 = i5 at *
     cbv
     refine ABr.f hcmpk ?_
     cbv
     refine .sym i5 k4 i8 ?_
     cbv
     refine .mk _ hput ?_
     cbv
     refine ⟨i1, ?_, q1, q2⟩
     cbv
     repeat' (first | exact hni | exact rfl | exact trivial | constructor)
 . obtain rfl : i = 4 := by omega
   have hcmp := lt_f hA (x := 4) (n := 4) rfl (by decide)
   generalize R 4 = z at *
   cbv
   refine ABr.f hcmp ?_
   cbv
theorem leafEq_si (k k' : IntKind) (a b : Int) : leafEq (.s k a, .i k' b) = decide (a = b) := by
 show (a == b) = _
 by_cases h : a = b <;> simp [h]
end Go.Proofs.Ytkhipnhdbaahcaa
end
section
namespace NT
def Pr (p : Nat) : Prop := 1 < p ∧ ∀ d, d ∣ p → d = 1 ∨ d = p
theorem Pr.pos {p : Nat} (h : Pr p) : 0 < p := Nat.lt_trans Nat.zero_lt_one h.1
end NT
end
section
namespace NT
end NT
end
section
namespace Go.Proofs.Ytkhipnhdbaahcaa
open Go Eng
structure GI (m a u v x y : Nat) : Prop where
 u0 : 0 < u
 v0 : 0 < v
 um : u ≤ m
 vm : v ≤ m
 xm : x < m
 ym : y < m
 ux : a * x % m = u % m
 vy : a * y % m = v % m
 co : Nat.Coprime u v
theorem GI.start {m a : Nat} (hm : 1 < m) (ha : 0 < a) (ham : a < m) (hc : Nat.Coprime a m) : GI m a a m 1 0 :=
 ⟨ha, by omega, by omega, by omega, hm, by omega, by rw [Nat.mul_one], by simp, hc⟩
theorem GI.ne {m a u v x y : Nat} (h : GI m a u v x y) (hu : u ≠ 1 ∨ v ≠ 1) : u ≠ v := by
 rintro rfl
 have := h.co
 unfold Nat.Coprime at this
 rw [Nat.gcd_self] at this
 omega
theorem zeq4 {A : Ar} (hA : A = Ar.real) {lim : Lim} (hl : lim = limR) {x : Nat} (hx : x < 2 ^ 256) : A.eqs [(.s .u64 (lim x 0), .i .u64 0), (.s .u64 (lim x 1), .i .u64 0), (.s .u64 (lim x 2), .i .u64 0), (.s .u64 (lim x 3), .i .u64 0)] = decide (x = 0) := by
 rw [eqs_real hA]
 simp only [List.all_cons, List.all_nil, leafEq_si, Bool.and_true]
 have e := split4 hl x hx
 have hr := fun i => lim_range hl x i
 have r0 := hr 0
 have r1 := hr 1
 have r2 := hr 2
 have r3 := hr 3
 clear hr
 by_cases h : x = 0
 . rw [decide_eq_true h]
   simp only [Bool.and_eq_true, decide_eq_true_eq]
   refine ⟨?_, ?_, ?_, ?_⟩ <;> omega
 . rw [decide_eq_false h]
   refine Bool.eq_false_iff.2 fun h' => h ?_
   simp only [Bool.and_eq_true, decide_eq_true_eq] at h'
   omega
end Go.Proofs.Ytkhipnhdbaahcaa
end
section
namespace Go.Proofs.Ytkhipnhdbaahcaa
open Go Eng
theorem limR_word {e : Nat} (he : e < 18446744073709551616) : limR e 0 = (e : Int) := by
 unfold limR
 rw [Nat.mul_zero, Nat.pow_zero, Nat.div_one, Nat.mod_eq_of_lt (by simpa using he)]
theorem isNaNS (x : Int) : Sp 96 [.s .u64 x] (.b false) := by
 refine mk Try.func96 rfl rfl L0 R1 (by decide +kernel) fun A S hA hS => ?_
 have h : A.cmp .neq x x = false := by
   rw [hA]; show (x != x) = false; simp
 unfold bodyOf Try.f96
 cbv
 exact h
def sgn (x y : Int) : Int := if x < y then -1 else if y < x then 1 else 0
theorem compareS (x y r : Int) (hr : r = sgn x y) : Sp 63 [.s .u64 x, .s .u64 y] (.s .i64 r) := by
 have nx := isNaNS x
 have ny := isNaNS y
 unfold sgn at hr
 by_cases h1 : x < y
 . rw [if_pos h1] at hr
   subst hr
   refine mk Try.func63 rfl rfl L0 R1 (by decide +kernel) fun A S hA hS => ?_
   have e1 : A.cmp .lss x y = true := (i_lt hA).trans (decide_eq_true h1)
   unfold bodyOf Try.f63
   cbv
   refine aF hS nx ?_
   cbv
   refine aF hS ny ?_
   cbv
   refine ABr.t e1 ?_
   cbv
 rw [if_neg h1] at hr
 by_cases h2 : y < x
 . rw [if_pos h2] at hr
   subst hr
   refine mk Try.func63 rfl rfl L0 R1 (by decide +kernel) fun A S hA hS => ?_
   have e1 : A.cmp .lss x y = false := (i_lt hA).trans (decide_eq_false h1)
   have e2 : A.cmp .gtr x y = true := by rw [hA]; exact decide_eq_true h2
   unfold bodyOf Try.f63
   cbv
   refine aF hS nx ?_
   cbv
   refine aF hS ny ?_
   cbv
   refine ABr.f e1 ?_
   cbv
   refine ABr.t e2 ?_
   cbv
 . rw [if_neg h2] at hr
   subst hr
   refine mk Try.func63 rfl rfl L0 R1 (by decide +kernel) fun A S hA hS => ?_
   have e1 : A.cmp .lss x y = false := (i_lt hA).trans (decide_eq_false h1)
   have e2 : A.cmp .gtr x y = false := by rw [hA]; exact decide_eq_false h2
   unfold bodyOf Try.f63
   cbv
   refine aF hS nx ?_
   cbv
   refine aF hS ny ?_
   cbv
   refine ABr.f e1 ?_
   cbv
   refine ABr.f e2 ?_
   cbv
theorem orS (a b c d r : Int) (hr : r = if a ≠ 0 then a else if b ≠ 0 then b else if c ≠ 0 then c else d) : Sp 62 [.lst false 4 [.s .i64 a, .s .i64 b, .s .i64 c, .s .i64 d]] (.s .i64 r) := by
 by_cases ha : a ≠ 0
 . rw [if_pos ha] at hr
   rw [hr]
   refine mk Try.func62 rfl rfl L0 R1 (by decide +kernel) fun A S hA hS => ?_
   have ea : A.cmp .neq a 0 = true := by rw [hA]; exact bne_iff_ne.2 ha
   unfold bodyOf Try.f62
   cbv
   refine ABr.t ea ?_
   cbv
 rw [if_neg ha] at hr
 by_cases hb : b ≠ 0
 . rw [if_pos hb] at hr
   rw [hr]
   refine mk Try.func62 rfl rfl L0 R1 (by decide +kernel) fun A S hA hS => ?_
   have ea : A.cmp .neq a 0 = false := by rw [hA]; exact bne_eq_false_iff_eq.2 (Decidable.not_not.1 ha)
   have eb : A.cmp .neq b 0 = true := by rw [hA]; exact bne_iff_ne.2 hb
   unfold bodyOf Try.f62
   cbv
   refine ABr.f ea ?_
   cbv
   refine ABr.t eb ?_
   cbv
 rw [if_neg hb] at hr
 by_cases hc : c ≠ 0
 . rw [if_pos hc] at hr
   rw [hr]
   refine mk Try.func62 rfl rfl L0 R1 (by decide +kernel) fun A S hA hS => ?_
   have ea : A.cmp .neq a 0 = false := by rw [hA]; exact bne_eq_false_iff_eq.2 (Decidable.not_not.1 ha)
   have eb : A.cmp .neq b 0 = false := by rw [hA]; exact bne_eq_false_iff_eq.2 (Decidable.not_not.1 hb)
   have ec : A.cmp .neq c 0 = true := by rw [hA]; exact bne_iff_ne.2 hc
   unfold bodyOf Try.f62
   cbv
   refine ABr.f ea ?_
   cbv
   refine ABr.f eb ?_
   cbv
   refine ABr.t ec ?_
   cbv
 rw [if_neg hc] at hr
 by_cases hd : d ≠ 0
 . have hr : r = d := hr
   rw [hr]
   refine mk Try.func62 rfl rfl L0 R1 (by decide +kernel) fun A S hA hS => ?_
   have ea : A.cmp .neq a 0 = false := by rw [hA]; exact bne_eq_false_iff_eq.2 (Decidable.not_not.1 ha)
   have eb : A.cmp .neq b 0 = false := by rw [hA]; exact bne_eq_false_iff_eq.2 (Decidable.not_not.1 hb)
   have ec : A.cmp .neq c 0 = false := by rw [hA]; exact bne_eq_false_iff_eq.2 (Decidable.not_not.1 hc)
   have ed : A.cmp .neq d 0 = true := by rw [hA]; exact bne_iff_ne.2 hd
   unfold bodyOf Try.f62
   cbv
   refine ABr.f ea ?_
   cbv
   refine ABr.f eb ?_
   cbv
   refine ABr.f ec ?_
   cbv
   refine ABr.t ed ?_
   cbv
 have hr : r = d := hr
 rw [hr]
 refine mk Try.func62 rfl rfl L0 R1 (by decide +kernel) fun A S hA hS => ?_
 have ea : A.cmp .neq a 0 = false := by rw [hA]; exact bne_eq_false_iff_eq.2 (Decidable.not_not.1 ha)
 have eb : A.cmp .neq b 0 = false := by rw [hA]; exact bne_eq_false_iff_eq.2 (Decidable.not_not.1 hb)
 have ec : A.cmp .neq c 0 = false := by rw [hA]; exact bne_eq_false_iff_eq.2 (Decidable.not_not.1 hc)
 have ed : A.cmp .neq d 0 = false := by rw [hA]; exact bne_eq_false_iff_eq.2 (Decidable.not_not.1 hd)
 unfold bodyOf Try.f62
 cbv
 refine ABr.f ea ?_
 cbv
 refine ABr.f eb ?_
 cbv
 refine ABr.f ec ?_
 cbv
 refine ABr.f ed ?_
 cbv
 exact (Decidable.not_not.1 hd).symm
def cmpZ (x y : Nat) : Int := if x < y then -1 else if y < x then 1 else 0
theorem lexi {x0 x1 x2 x3 y0 y1 y2 y3 : Int} (hx0 : 0 ≤ x0 ∧ x0 < 18446744073709551616) (hx1 : 0 ≤ x1 ∧ x1 < 18446744073709551616) (hx2 : 0 ≤ x2 ∧ x2 < 18446744073709551616) (hx3 : 0 ≤ x3 ∧ x3 < 18446744073709551616) (hy0 : 0 ≤ y0 ∧ y0 < 18446744073709551616) (hy1 : 0 ≤ y1 ∧ y1 < 18446744073709551616) (hy2 : 0 ≤ y2 ∧ y2 < 18446744073709551616) (hy3 : 0 ≤ y3 ∧ y3 < 18446744073709551616)
   {x y : Nat} (hx : (x : Int) = x0 + 18446744073709551616 * (x1 + 18446744073709551616 * (x2 + 18446744073709551616 * x3))) (hy : (y : Int) = y0 + 18446744073709551616 * (y1 + 18446744073709551616 * (y2 + 18446744073709551616 * y3))) :
   cmpZ x y = if sgn x3 y3 ≠ 0 then sgn x3 y3 else if sgn x2 y2 ≠ 0 then sgn x2 y2 else if sgn x1 y1 ≠ 0 then sgn x1 y1 else sgn x0 y0 := by
 have key : ∀ u v : Int, (sgn u v = -1 ∧ u < v) ∨ (sgn u v = 1 ∧ v < u) ∨ (sgn u v = 0 ∧ u = v) := by
   intro u v
   unfold sgn
   by_cases h1 : u < v
   . rw [if_pos h1]; exact .inl ⟨rfl, h1⟩
   . rw [if_neg h1]
     by_cases h2 : v < u
     . rw [if_pos h2]; exact .inr (.inl ⟨rfl, h2⟩)
     . rw [if_neg h2]; exact .inr (.inr ⟨rfl, by omega⟩)
 have k3 := key x3 y3
 have k2 := key x2 y2
 have k1 := key x1 y1
 have k0 := key x0 y0
 generalize sgn x3 y3 = s3 at *
 generalize sgn x2 y2 = s2 at *
 generalize sgn x1 y1 = s1 at *
 generalize sgn x0 y0 = s0 at *
 unfold cmpZ
 have n1 : (-1 : Int) ≠ 0 := by decide
 have n2 : (1 : Int) ≠ 0 := by decide
 have nz : ¬ ((0 : Int) ≠ 0) := fun h => h rfl
 rcases k3 with ⟨rfl, h3⟩ | ⟨rfl, h3⟩ | ⟨rfl, h3⟩
 . rw [if_pos (by omega), if_pos n1]
 . rw [if_neg (by omega), if_pos (by omega), if_pos n2]
 rw [if_neg nz]
 rcases k2 with ⟨rfl, h2⟩ | ⟨rfl, h2⟩ | ⟨rfl, h2⟩
 . rw [if_pos (by omega), if_pos n1]
 . rw [if_neg (by omega), if_pos (by omega), if_pos n2]
 rw [if_neg nz]
 rcases k1 with ⟨rfl, h1⟩ | ⟨rfl, h1⟩ | ⟨rfl, h1⟩
 . rw [if_pos (by omega), if_pos n1]
 . rw [if_neg (by omega), if_pos (by omega), if_pos n2]
 rw [if_neg nz]
 rcases k0 with ⟨rfl, h0⟩ | ⟨rfl, h0⟩ | ⟨rfl, h0⟩
 . rw [if_pos (by omega)]
 . rw [if_neg (by omega), if_pos (by omega)]
 . rw [if_neg (by omega), if_neg (by omega)]
theorem cmpS {lim : Lim} (hl : lim = limR) (x y : Nat) (hx : x < 2 ^ 256) (hy : y < 2 ^ 256) : Sp 30 [u4 lim x, u4 lim y] (.s .i64 (cmpZ x y)) := by
 have rx := fun i => lim_range hl x i
 have ry := fun i => lim_range hl y i
 have hz := lexi (rx 0) (rx 1) (rx 2) (rx 3) (ry 0) (ry 1) (ry 2) (ry 3) (split4 hl x hx) (split4 hl y hy)
 generalize cmpZ x y = z at *
 obtain ⟨s, hs⟩ : ∃ s : Nat → Int, s = fun i => sgn (lim x i) (lim y i) := ⟨_, rfl⟩
 have c := fun i => compareS (lim x i) (lim y i) (s i) (by rw [hs])
 have c0 := c 0
 have c1 := c 1
 have c2 := c 2
 have c3 := c 3
 have co := orS (s 3) (s 2) (s 1) (s 0) z (by rw [hs]; exact hz)
 clear hs hz c
 refine mk Try.func30 rfl rfl L0 R2 (by decide +kernel) fun A S hA hS => ?_
 unfold bodyOf Try.f30
 cbv
 refine aF hS c3 ?_
 cbv
 refine aF hS c2 ?_
 cbv
 refine aF hS c1 ?_
 cbv
 refine aF hS c0 ?_
 cbv
 refine aF hS co ?_
 cbv
theorem ofS {lim : Lim} (hl : lim = limR) (n : Nat) (hn : n < 18446744073709551616) : Sp 22 [.s .u64 (n : Int)] (u4 lim n) := by
 have e0 : lim n 0 = (n : Int) := by rw [hl]; exact limR_word hn
 have es : ∀ i, i < 3 → lim n (i + 1) = 0 := fun i hi => by
   rw [hl]; show ((n / 2 ^ (64 * (i + 1)) % 2 ^ 64 : Nat) : Int) = 0
   rw [Nat.div_eq_of_lt (Nat.lt_of_lt_of_le hn (Nat.pow_le_pow_right (n := 2) (i := 64) (by decide) (by omega)))]; rfl
 generalize (n : Int) = z at *
 refine mk Try.func22 rfl rfl L0 R0 (by decide +kernel) fun A S hA hS => ?_
 unfold bodyOf Try.f22
 cbv
 repeat' (first | exact e0.symm | exact (es _ (by decide)).symm | exact trivial | constructor)
def IsLen (x n : Nat) : Prop := x < 2 ^ n ∧ (0 < n → 2 ^ (n - 1) ≤ x)
instance (x n : Nat) : Decidable (IsLen x n) := inferInstanceAs (Decidable (_ ∧ _))
theorem IsLen.le {x n k : Nat} (h : IsLen x n) (hx : 2 ^ k ≤ x) : k < n := by
 rcases Nat.lt_or_ge k n with h1 | h1
 . exact h1
 . have := Nat.pow_le_pow_right (n := 2) (by decide) h1
   have := h.1
   omega
theorem IsLen.ge {x n k : Nat} (h : IsLen x n) (hx : x < 2 ^ k) : n ≤ k := by
 rcases Nat.lt_or_ge k n with h1 | h1
 . have h2 := h.2 (by omega)
   have := Nat.pow_le_pow_right (n := 2) (by decide) (show k ≤ n - 1 by omega)
   omega
 . exact h1
theorem IsLen.div {x n k : Nat} (h : IsLen x n) (hx : 2 ^ k ≤ x) : IsLen (x / 2 ^ k) (n - k) := by
 have hk := h.le hx
 refine ⟨Nat.div_lt_of_lt_mul ?_, fun h0 => (Nat.le_div_iff_mul_le (Nat.two_pow_pos k)).2 ?_⟩
 . rw [← Nat.pow_add, show k + (n - k) = n by omega]; exact h.1
 . rw [← Nat.pow_add, show n - k - 1 + k = n - 1 by omega]; exact h.2 (by omega)
theorem isLen_ex (x : Nat) : ∃ n, IsLen x n := by
 by_cases h : x = 0
 . subst h; exact ⟨0, by decide⟩
 . refine ⟨Nat.log2 x + 1, Nat.lt_log2_self, fun _ => ?_⟩
   exact Nat.log2_self_le h
theorem IsLen.uniq {x n m : Nat} (h : IsLen x n) (k : IsLen x m) : n = m := Nat.le_antisymm (h.ge k.1) (k.ge h.1)
def lenTab : ByteArray := ⟨#[0, 1, 2, 2, 3, 3, 3, 3, 4, 4, 4, 4, 4, 4, 4, 4, 5, 5, 5, 5, 5, 5, 5, 5, 5, 5, 5, 5, 5, 5, 5, 5, 6, 6, 6, 6, 6, 6, 6, 6, 6, 6, 6, 6, 6, 6, 6, 6, 6, 6, 6, 6, 6, 6, 6, 6, 6, 6, 6, 6, 6, 6, 6, 6, 7, 7, 7, 7, 7, 7, 7, 7, 7, 7, 7, 7, 7, 7, 7, 7, 7, 7, 7, 7, 7, 7, 7, 7, 7, 7, 7, 7, 7, 7, 7, 7, 7, 7, 7, 7, 7, 7, 7, 7, 7, 7, 7, 7, 7, 7, 7, 7, 7, 7, 7, 7, 7, 7, 7, 7, 7, 7, 7, 7, 7, 7, 7, 7, 8, 8, 8, 8, 8, 8, 8, 8, 8, 8, 8, 8, 8, 8, 8, 8, 8, 8, 8, 8, 8, 8, 8, 8, 8, 8, 8, 8, 8, 8, 8, 8, 8, 8, 8, 8, 8, 8, 8, 8, 8, 8, 8, 8, 8, 8, 8, 8, 8, 8, 8, 8, 8, 8, 8, 8, 8, 8, 8, 8, 8, 8, 8, 8, 8, 8, 8, 8, 8, 8, 8, 8, 8, 8, 8, 8, 8, 8, 8, 8, 8, 8, 8, 8, 8, 8, 8, 8, 8, 8, 8, 8, 8, 8, 8, 8, 8, 8, 8, 8, 8, 8, 8, 8, 8, 8, 8, 8, 8, 8, 8, 8, 8, 8, 8, 8, 8, 8, 8, 8, 8, 8, 8, 8, 8, 8, 8, 8]⟩
theorem lenTab_ok : ∀ i, i < 256 → ∀ n, n < 9 → IsLen i n → Ar.real.byte lenTab i = (n : Int) := by decide +kernel
theorem u_ge {A : Ar} (hA : A = Ar.real) {x y : Int} : A.cmp .geq x y = decide (x ≥ y) := by rw [hA]; rfl
theorem len64S (x n : Nat) (hx : x < 18446744073709551616) (hn : IsLen x n) : Sp 116 [.s .u64 (x : Int)] (.s .i64 (n : Int)) := by
 have hn64 : n ≤ 64 := hn.ge (k := 64) (by simpa using hx)
 obtain ⟨xi, hxi⟩ : ∃ z : Int, z = (x : Int) := ⟨_, rfl⟩
 obtain ⟨ni, hni⟩ : ∃ z : Int, z = (n : Int) := ⟨_, rfl⟩
 rw [← hxi, ← hni]
 have shr : ∀ (y k : Nat), k ≤ 64 → rbin .shr .u64 (y : Int) (k : Int) = ((y / 2 ^ k : Nat) : Int) := fun y k hk => u_shr y k hk
 by_cases h1 : 2 ^ 32 ≤ x
 . obtain ⟨y1, e1⟩ : ∃ z, z = x / 2 ^ 32 := ⟨_, rfl⟩
   have q1 := hn.div h1
   rw [← e1] at q1
   have w1 := hn.le h1
   have b1 : y1 < 2 ^ 32 := by omega
   by_cases h2 : 2 ^ 16 ≤ y1
   . obtain ⟨y2, e2⟩ : ∃ z, z = y1 / 2 ^ 16 := ⟨_, rfl⟩
     have q2 := q1.div h2
     rw [← e2] at q2
     have w2 := q1.le h2
     have b2 : y2 < 2 ^ 16 := by omega
     by_cases h3 : 2 ^ 8 ≤ y2
     . obtain ⟨y3, e3⟩ : ∃ z, z = y2 / 2 ^ 8 := ⟨_, rfl⟩
       have q3 := q2.div h3
       rw [← e3] at q3
       have w3 := q2.le h3
       have b3 : y3 < 2 ^ 8 := by omega
       have f3 : ∀ A : Ar, A = Ar.real → A.cmp .geq xi 4294967296 = true ∧ A.cmp .geq (A.bin .shr .u64 xi 32) 65536 = true ∧ A.cmp .geq (A.bin .shr .u64 (A.bin .shr .u64 xi 32) 16) 256 = true ∧ A.wrap .u8 (A.bin .shr .u64 (A.bin .shr .u64 (A.bin .shr .u64 xi 32) 16) 8) = (y3 : Int) := by
         intro A hA
         subst hA
         rw [u_ge rfl, u_ge rfl, u_ge rfl]
         show decide (xi ≥ 4294967296) = _ ∧ decide (rbin .shr .u64 xi 32 ≥ 65536) = _ ∧ decide (rbin .shr .u64 (rbin .shr .u64 xi 32) 16 ≥ 256) = _ ∧ IntKind.u8.wrap (rbin .shr .u64 (rbin .shr .u64 (rbin .shr .u64 xi 32) 16) 8) = _
         rw [hxi]
         have g1 := shr x 32 (by decide)
         have g1 : rbin .shr .u64 (x : Int) 32 = (y1 : Int) := by rw [e1]; exact g1
         rw [g1]
         have g2 : rbin .shr .u64 (y1 : Int) 16 = (y2 : Int) := by rw [e2]; exact shr y1 16 (by decide)
         rw [g2]
         have g3 : rbin .shr .u64 (y2 : Int) 8 = (y3 : Int) := by rw [e3]; exact shr y2 8 (by decide)
         rw [g3]
         refine ⟨decide_eq_true (by omega), decide_eq_true (by omega), decide_eq_true (by omega), ?_⟩
         rw [wrap_u8]
         omega
       have hfin : rbin .add .i64 56 (IntKind.i64.wrap (Ar.real.byte lenTab y3)) = ni := by
         rw [lenTab_ok y3 (by omega) (n - 56) (by omega) q3, hni]
         rw [wrap_i64 _ (by omega)]
         show IntKind.i64.wrap (56 + ((n - 56 : Nat) : Int)) = _
         rw [wrap_i64 _ (by omega)]
         omega
       have hy3 : y3 < 256 := by omega
       clear shr
       refine mk Try.func116 rfl rfl L0 R1 (by decide +kernel) fun A S hA hS => ?_
       obtain ⟨t1, t2, t3, t4⟩ := f3 A hA
       clear f3
       unfold bodyOf Try.f116
       cbv
       refine ABr.t t1 ?_
       cbv
       refine ABr.t t2 ?_
       cbv
       refine ABr.t t3 ?_
       cbv
       refine .mk y3 t4 (by subst hA; exact hy3) ?_
       cbv
       subst hA
       exact hfin
     . obtain ⟨y3, e3⟩ : ∃ z, z = y2 := ⟨_, rfl⟩
       have q3 := q2
       rw [← e3] at q3
       have w3 := q2.ge (Nat.lt_of_not_le h3)
       have b3 : y3 < 2 ^ 8 := by omega
       have f3 : ∀ A : Ar, A = Ar.real → A.cmp .geq xi 4294967296 = true ∧ A.cmp .geq (A.bin .shr .u64 xi 32) 65536 = true ∧ A.cmp .geq (A.bin .shr .u64 (A.bin .shr .u64 xi 32) 16) 256 = false ∧ A.wrap .u8 (A.bin .shr .u64 (A.bin .shr .u64 xi 32) 16) = (y3 : Int) := by
         intro A hA
         subst hA
         rw [u_ge rfl, u_ge rfl, u_ge rfl]
         show decide (xi ≥ 4294967296) = _ ∧ decide (rbin .shr .u64 xi 32 ≥ 65536) = _ ∧ decide (rbin .shr .u64 (rbin .shr .u64 xi 32) 16 ≥ 256) = _ ∧ IntKind.u8.wrap (rbin .shr .u64 (rbin .shr .u64 xi 32) 16) = _
         rw [hxi]
         have g1 := shr x 32 (by decide)
         have g1 : rbin .shr .u64 (x : Int) 32 = (y1 : Int) := by rw [e1]; exact g1
         rw [g1]
         have g2 : rbin .shr .u64 (y1 : Int) 16 = (y2 : Int) := by rw [e2]; exact shr y1 16 (by decide)
         rw [g2]
         refine ⟨decide_eq_true (by omega), decide_eq_true (by omega), decide_eq_false (by omega), ?_⟩
         rw [wrap_u8]
         omega
       have hfin : rbin .add .i64 48 (IntKind.i64.wrap (Ar.real.byte lenTab y3)) = ni := by
         rw [lenTab_ok y3 (by omega) (n - 48) (by omega) q3, hni]
         rw [wrap_i64 _ (by omega)]
         show IntKind.i64.wrap (48 + ((n - 48 : Nat) : Int)) = _
         rw [wrap_i64 _ (by omega)]
         omega
       have hy3 : y3 < 256 := by omega
       clear shr
       refine mk Try.func116 rfl rfl L0 R1 (by decide +kernel) fun A S hA hS => ?_
       obtain ⟨t1, t2, t3, t4⟩ := f3 A hA
       clear f3
       unfold bodyOf Try.f116
       cbv
       refine ABr.t t1 ?_
       cbv
       refine ABr.t t2 ?_
       cbv
       refine ABr.f t3 ?_
       cbv
       refine .mk y3 t4 (by subst hA; exact hy3) ?_
       cbv
       subst hA
       exact hfin
   . obtain ⟨y2, e2⟩ : ∃ z, z = y1 := ⟨_, rfl⟩
     have q2 := q1
     rw [← e2] at q2
     have w2 := q1.ge (Nat.lt_of_not_le h2)
     have b2 : y2 < 2 ^ 16 := by omega
     by_cases h3 : 2 ^ 8 ≤ y2
     . obtain ⟨y3, e3⟩ : ∃ z, z = y2 / 2 ^ 8 := ⟨_, rfl⟩
       have q3 := q2.div h3
       rw [← e3] at q3
       have w3 := q2.le h3
       have b3 : y3 < 2 ^ 8 := by omega
       have f3 : ∀ A : Ar, A = Ar.real → A.cmp .geq xi 4294967296 = true ∧ A.cmp .geq (A.bin .shr .u64 xi 32) 65536 = false ∧ A.cmp .geq (A.bin .shr .u64 xi 32) 256 = true ∧ A.wrap .u8 (A.bin .shr .u64 (A.bin .shr .u64 xi 32) 8) = (y3 : Int) := by
         intro A hA
         subst hA
         rw [u_ge rfl, u_ge rfl, u_ge rfl]
         show decide (xi ≥ 4294967296) = _ ∧ decide (rbin .shr .u64 xi 32 ≥ 65536) = _ ∧ decide (rbin .shr .u64 xi 32 ≥ 256) = _ ∧ IntKind.u8.wrap (rbin .shr .u64 (rbin .shr .u64 xi 32) 8) = _
         rw [hxi]
         have g1 := shr x 32 (by decide)
         have g1 : rbin .shr .u64 (x : Int) 32 = (y1 : Int) := by rw [e1]; exact g1
         rw [g1]
         have g3 : rbin .shr .u64 (y2 : Int) 8 = (y3 : Int) := by rw [e3]; exact shr y2 8 (by decide)
         rw [← e2]
         rw [g3]
         refine ⟨decide_eq_true (by omega), decide_eq_false (by omega), decide_eq_true (by omega), ?_⟩
         rw [wrap_u8]
         omega
       have hfin : rbin .add .i64 40 (IntKind.i64.wrap (Ar.real.byte lenTab y3)) = ni := by
         rw [lenTab_ok y3 (by omega) (n - 40) (by omega) q3, hni]
         rw [wrap_i64 _ (by omega)]
         show IntKind.i64.wrap (40 + ((n - 40 : Nat) : Int)) = _
         rw [wrap_i64 _ (by omega)]
         omega
       have hy3 : y3 < 256 := by omega
       clear shr
       refine mk Try.func116 rfl rfl L0 R1 (by decide +kernel) fun A S hA hS => ?_
       obtain ⟨t1, t2, t3, t4⟩ := f3 A hA
       clear f3
       unfold bodyOf Try.f116
       cbv
       refine ABr.t t1 ?_
       cbv
       refine ABr.f t2 ?_
       cbv
       refine ABr.t t3 ?_
       cbv
       refine .mk y3 t4 (by subst hA; exact hy3) ?_
       cbv
       subst hA
       exact hfin
     . obtain ⟨y3, e3⟩ : ∃ z, z = y2 := ⟨_, rfl⟩
       have q3 := q2
       rw [← e3] at q3
       have w3 := q2.ge (Nat.lt_of_not_le h3)
       have b3 : y3 < 2 ^ 8 := by omega
       have f3 : ∀ A : Ar, A = Ar.real → A.cmp .geq xi 4294967296 = true ∧ A.cmp .geq (A.bin .shr .u64 xi 32) 65536 = false ∧ A.cmp .geq (A.bin .shr .u64 xi 32) 256 = false ∧ A.wrap .u8 (A.bin .shr .u64 xi 32) = (y3 : Int) := by
         intro A hA
         subst hA
         rw [u_ge rfl, u_ge rfl, u_ge rfl]
         show decide (xi ≥ 4294967296) = _ ∧ decide (rbin .shr .u64 xi 32 ≥ 65536) = _ ∧ decide (rbin .shr .u64 xi 32 ≥ 256) = _ ∧ IntKind.u8.wrap (rbin .shr .u64 xi 32) = _
         rw [hxi]
         have g1 := shr x 32 (by decide)
         have g1 : rbin .shr .u64 (x : Int) 32 = (y1 : Int) := by rw [e1]; exact g1
         rw [g1]
         refine ⟨decide_eq_true (by omega), decide_eq_false (by omega), decide_eq_false (by omega), ?_⟩
         rw [wrap_u8]
         omega
       have hfin : rbin .add .i64 32 (IntKind.i64.wrap (Ar.real.byte lenTab y3)) = ni := by
         rw [lenTab_ok y3 (by omega) (n - 32) (by omega) q3, hni]
         rw [wrap_i64 _ (by omega)]
         show IntKind.i64.wrap (32 + ((n - 32 : Nat) : Int)) = _
         rw [wrap_i64 _ (by omega)]
         omega
       have hy3 : y3 < 256 := by omega
       clear shr
       refine mk Try.func116 rfl rfl L0 R1 (by decide +kernel) fun A S hA hS => ?_
       obtain ⟨t1, t2, t3, t4⟩ := f3 A hA
       clear f3
       unfold bodyOf Try.f116
       cbv
       refine ABr.t t1 ?_
       cbv
       refine ABr.f t2 ?_
       cbv
       refine ABr.f t3 ?_
       cbv
       refine .mk y3 t4 (by subst hA; exact hy3) ?_
       cbv
       subst hA
       exact hfin
 . obtain ⟨y1, e1⟩ : ∃ z, z = x := ⟨_, rfl⟩
   have q1 := hn
   rw [← e1] at q1
   have w1 := hn.ge (Nat.lt_of_not_le h1)
   have b1 : y1 < 2 ^ 32 := by omega
   by_cases h2 : 2 ^ 16 ≤ y1
   . obtain ⟨y2, e2⟩ : ∃ z, z = y1 / 2 ^ 16 := ⟨_, rfl⟩
     have q2 := q1.div h2
     rw [← e2] at q2
     have w2 := q1.le h2
     have b2 : y2 < 2 ^ 16 := by omega
     by_cases h3 : 2 ^ 8 ≤ y2
     . obtain ⟨y3, e3⟩ : ∃ z, z = y2 / 2 ^ 8 := ⟨_, rfl⟩
       have q3 := q2.div h3
       rw [← e3] at q3
       have w3 := q2.le h3
       have b3 : y3 < 2 ^ 8 := by omega
       have f3 : ∀ A : Ar, A = Ar.real → A.cmp .geq xi 4294967296 = false ∧ A.cmp .geq (xi) 65536 = true ∧ A.cmp .geq (A.bin .shr .u64 (xi) 16) 256 = true ∧ A.wrap .u8 (A.bin .shr .u64 (A.bin .shr .u64 (xi) 16) 8) = (y3 : Int) := by
         intro A hA
         subst hA
         rw [u_ge rfl, u_ge rfl, u_ge rfl]
         show decide (xi ≥ 4294967296) = _ ∧ decide (xi ≥ 65536) = _ ∧ decide (rbin .shr .u64 (xi) 16 ≥ 256) = _ ∧ IntKind.u8.wrap (rbin .shr .u64 (rbin .shr .u64 (xi) 16) 8) = _
         rw [hxi]
         have g2 : rbin .shr .u64 (y1 : Int) 16 = (y2 : Int) := by rw [e2]; exact shr y1 16 (by decide)
         rw [← e1]
         rw [g2]
         have g3 : rbin .shr .u64 (y2 : Int) 8 = (y3 : Int) := by rw [e3]; exact shr y2 8 (by decide)
         rw [g3]
         refine ⟨decide_eq_false (by omega), decide_eq_true (by omega), decide_eq_true (by omega), ?_⟩
         rw [wrap_u8]
         omega
       have hfin : rbin .add .i64 24 (IntKind.i64.wrap (Ar.real.byte lenTab y3)) = ni := by
         rw [lenTab_ok y3 (by omega) (n - 24) (by omega) q3, hni]
         rw [wrap_i64 _ (by omega)]
         show IntKind.i64.wrap (24 + ((n - 24 : Nat) : Int)) = _
         rw [wrap_i64 _ (by omega)]
         omega
       have hy3 : y3 < 256 := by omega
       clear shr
       refine mk Try.func116 rfl rfl L0 R1 (by decide +kernel) fun A S hA hS => ?_
       obtain ⟨t1, t2, t3, t4⟩ := f3 A hA
       clear f3
       unfold bodyOf Try.f116
       cbv
       refine ABr.f t1 ?_
       cbv
       refine ABr.t t2 ?_
       cbv
       refine ABr.t t3 ?_
       cbv
       refine .mk y3 t4 (by subst hA; exact hy3) ?_
       cbv
       subst hA
       exact hfin
     . obtain ⟨y3, e3⟩ : ∃ z, z = y2 := ⟨_, rfl⟩
       have q3 := q2
       rw [← e3] at q3
       have w3 := q2.ge (Nat.lt_of_not_le h3)
       have b3 : y3 < 2 ^ 8 := by omega
       have f3 : ∀ A : Ar, A = Ar.real → A.cmp .geq xi 4294967296 = false ∧ A.cmp .geq (xi) 65536 = true ∧ A.cmp .geq (A.bin .shr .u64 (xi) 16) 256 = false ∧ A.wrap .u8 (A.bin .shr .u64 (xi) 16) = (y3 : Int) := by
         intro A hA
         subst hA
         rw [u_ge rfl, u_ge rfl, u_ge rfl]
         show decide (xi ≥ 4294967296) = _ ∧ decide (xi ≥ 65536) = _ ∧ decide (rbin .shr .u64 (xi) 16 ≥ 256) = _ ∧ IntKind.u8.wrap (rbin .shr .u64 (xi) 16) = _
         rw [hxi]
         have g2 : rbin .shr .u64 (y1 : Int) 16 = (y2 : Int) := by rw [e2]; exact shr y1 16 (by decide)
         rw [← e1]
         rw [g2]
         refine ⟨decide_eq_false (by omega), decide_eq_true (by omega), decide_eq_false (by omega), ?_⟩
         rw [wrap_u8]
         omega
       have hfin : rbin .add .i64 16 (IntKind.i64.wrap (Ar.real.byte lenTab y3)) = ni := by
         rw [lenTab_ok y3 (by omega) (n - 16) (by omega) q3, hni]
         rw [wrap_i64 _ (by omega)]
         show IntKind.i64.wrap (16 + ((n - 16 : Nat) : Int)) = _
         rw [wrap_i64 _ (by omega)]
         omega
       have hy3 : y3 < 256 := by omega
       clear shr
       refine mk Try.func116 rfl rfl L0 R1 (by decide +kernel) fun A S hA hS => ?_
       obtain ⟨t1, t2, t3, t4⟩ := f3 A hA
       clear f3
       unfold bodyOf Try.f116
       cbv
       refine ABr.f t1 ?_
       cbv
       refine ABr.t t2 ?_
       cbv
       refine ABr.f t3 ?_
       cbv
       refine .mk y3 t4 (by subst hA; exact hy3) ?_
       cbv
       subst hA
       exact hfin
   . obtain ⟨y2, e2⟩ : ∃ z, z = y1 := ⟨_, rfl⟩
     have q2 := q1
     rw [← e2] at q2
     have w2 := q1.ge (Nat.lt_of_not_le h2)
     have b2 : y2 < 2 ^ 16 := by omega
     by_cases h3 : 2 ^ 8 ≤ y2
     . obtain ⟨y3, e3⟩ : ∃ z, z = y2 / 2 ^ 8 := ⟨_, rfl⟩
       have q3 := q2.div h3
       rw [← e3] at q3
       have w3 := q2.le h3
       have b3 : y3 < 2 ^ 8 := by omega
       have f3 : ∀ A : Ar, A = Ar.real → A.cmp .geq xi 4294967296 = false ∧ A.cmp .geq (xi) 65536 = false ∧ A.cmp .geq (xi) 256 = true ∧ A.wrap .u8 (A.bin .shr .u64 (xi) 8) = (y3 : Int) := by
         intro A hA
         subst hA
         rw [u_ge rfl, u_ge rfl, u_ge rfl]
         show decide (xi ≥ 4294967296) = _ ∧ decide (xi ≥ 65536) = _ ∧ decide (xi ≥ 256) = _ ∧ IntKind.u8.wrap (rbin .shr .u64 (xi) 8) = _
         rw [hxi]
         have g3 : rbin .shr .u64 (y2 : Int) 8 = (y3 : Int) := by rw [e3]; exact shr y2 8 (by decide)
         rw [← e1, ← e2]
         rw [g3]
         refine ⟨decide_eq_false (by omega), decide_eq_false (by omega), decide_eq_true (by omega), ?_⟩
         rw [wrap_u8]
         omega
       have hfin : rbin .add .i64 8 (IntKind.i64.wrap (Ar.real.byte lenTab y3)) = ni := by
         rw [lenTab_ok y3 (by omega) (n - 8) (by omega) q3, hni]
         rw [wrap_i64 _ (by omega)]
         show IntKind.i64.wrap (8 + ((n - 8 : Nat) : Int)) = _
         rw [wrap_i64 _ (by omega)]
         omega
       have hy3 : y3 < 256 := by omega
       clear shr
       refine mk Try.func116 rfl rfl L0 R1 (by decide +kernel) fun A S hA hS => ?_
       obtain ⟨t1, t2, t3, t4⟩ := f3 A hA
       clear f3
       unfold bodyOf Try.f116
       cbv
       refine ABr.f t1 ?_
       cbv
       refine ABr.f t2 ?_
       cbv
       refine ABr.t t3 ?_
       cbv
       refine .mk y3 t4 (by subst hA; exact hy3) ?_
       cbv
       subst hA
       exact hfin
     . obtain ⟨y3, e3⟩ : ∃ z, z = y2 := ⟨_, rfl⟩
       have q3 := q2
       rw [← e3] at q3
       have w3 := q2.ge (Nat.lt_of_not_le h3)
       have b3 : y3 < 2 ^ 8 := by omega
       have f3 : ∀ A : Ar, A = Ar.real → A.cmp .geq xi 4294967296 = false ∧ A.cmp .geq (xi) 65536 = false ∧ A.cmp .geq (xi) 256 = false ∧ A.wrap .u8 (xi) = (y3 : Int) := by
         intro A hA
         subst hA
         rw [u_ge rfl, u_ge rfl, u_ge rfl]
         show decide (xi ≥ 4294967296) = _ ∧ decide (xi ≥ 65536) = _ ∧ decide (xi ≥ 256) = _ ∧ IntKind.u8.wrap (xi) = _
         rw [hxi]
         refine ⟨decide_eq_false (by omega), decide_eq_false (by omega), decide_eq_false (by omega), ?_⟩
         rw [wrap_u8]
         omega
       have hfin : rbin .add .i64 0 (IntKind.i64.wrap (Ar.real.byte lenTab y3)) = ni := by
         rw [lenTab_ok y3 (by omega) (n - 0) (by omega) q3, hni]
         rw [wrap_i64 _ (by omega)]
         show IntKind.i64.wrap (0 + ((n - 0 : Nat) : Int)) = _
         rw [wrap_i64 _ (by omega)]
         omega
       have hy3 : y3 < 256 := by omega
       clear shr
       refine mk Try.func116 rfl rfl L0 R1 (by decide +kernel) fun A S hA hS => ?_
       obtain ⟨t1, t2, t3, t4⟩ := f3 A hA
       clear f3
       unfold bodyOf Try.f116
       cbv
       refine ABr.f t1 ?_
       cbv
       refine ABr.f t2 ?_
       cbv
       refine ABr.f t3 ?_
       cbv
       refine .mk y3 t4 (by subst hA; exact hy3) ?_
       cbv
       subst hA
       exact hfin
def TopW (x k : Nat) : Prop := x < 2 ^ (64 * k) ∧ (0 < k → 2 ^ (64 * (k - 1)) ≤ x)
theorem topW_ex {x : Nat} (hx : x < 2 ^ 256) : ∃ k, k ≤ 4 ∧ TopW x k := by
 by_cases h3 : 2 ^ 192 ≤ x
 . exact ⟨4, by decide, hx, fun _ => h3⟩
 by_cases h2 : 2 ^ 128 ≤ x
 . exact ⟨3, by decide, Nat.lt_of_not_le h3, fun _ => h2⟩
 by_cases h1 : 2 ^ 64 ≤ x
 . exact ⟨2, by decide, Nat.lt_of_not_le h2, fun _ => h1⟩
 by_cases h0 : 2 ^ 0 ≤ x
 . exact ⟨1, by decide, Nat.lt_of_not_le h1, fun _ => h0⟩
 . exact ⟨0, by decide, Nat.lt_of_not_le h0, fun h => absurd h (by decide)⟩
theorem TopW.zero {x k : Nat} (h : TopW x k) {lim : Lim} (hl : lim = limR) {j : Nat} (hj : k ≤ j) : lim x j = 0 := by
 subst hl
 show ((x / 2 ^ (64 * j) % 2 ^ 64 : Nat) : Int) = 0
 rw [Nat.div_eq_of_lt (Nat.lt_of_lt_of_le h.1 (Nat.pow_le_pow_right (n := 2) (by decide) (by omega)))]; rfl
theorem TopW.top {x k : Nat} (h : TopW x (k + 1)) {lim : Lim} (hl : lim = limR) : lim x k = ((x / 2 ^ (64 * k) : Nat) : Int) ∧ x / 2 ^ (64 * k) < 18446744073709551616 ∧ lim x k ≠ 0 := by
 subst hl
 have h1 : x / 2 ^ (64 * k) < 2 ^ 64 := Nat.div_lt_of_lt_mul (by rw [← Nat.pow_add]; have := h.1; rwa [show 64 * k + 64 = 64 * (k + 1) by omega])
 have h2 : limR x k = ((x / 2 ^ (64 * k) : Nat) : Int) := by
   unfold limR; rw [Nat.mod_eq_of_lt h1]
 have h3 : 0 < x / 2 ^ (64 * k) := Nat.div_pos (h.2 (by omega)) (Nat.two_pow_pos _)
 exact ⟨h2, by simpa using h1, by rw [h2]; omega⟩
theorem eq0_t {A : Ar} (hA : A = Ar.real) {x : Int} (h : x = 0) : A.cmp .eql x 0 = true := by rw [hA]; exact beq_iff_eq.2 h
theorem eq0_f {A : Ar} (hA : A = Ar.real) {x : Int} (h : x ≠ 0) : A.cmp .eql x 0 = false := by rw [hA]; exact beq_eq_false_iff_ne.2 h
theorem trim0S {lim : Lim} (hl : lim = limR) (x : Nat) (ht : TopW x 0) : Sp 112 [.lst false 4 [.s .u64 (lim x 0), .s .u64 (lim x 1), .s .u64 (lim x 2), .s .u64 (lim x 3)]] (.lst false 0 []) := by
 have z0 := ht.zero hl (j := 0) (by decide)
 have z1 := ht.zero hl (j := 1) (by decide)
 have z2 := ht.zero hl (j := 2) (by decide)
 have z3 := ht.zero hl (j := 3) (by decide)
 refine mk Try.func112 rfl rfl L0 R1 (by decide +kernel) fun A S hA hS => ?_
 have z0 := eq0_t hA z0
 have z1 := eq0_t hA z1
 have z2 := eq0_t hA z2
 have z3 := eq0_t hA z3
 unfold bodyOf Try.f112
 cbv
 refine ABr.t z3 ?_
 cbv
 refine ABr.t z2 ?_
 cbv
 refine ABr.t z1 ?_
 cbv
 refine ABr.t z0 ?_
 cbv
theorem trim1S {lim : Lim} (hl : lim = limR) (x : Nat) (ht : TopW x 1) : Sp 112 [.lst false 4 [.s .u64 (lim x 0), .s .u64 (lim x 1), .s .u64 (lim x 2), .s .u64 (lim x 3)]] (.lst false 1 [.s .u64 (lim x 0)]) := by
 have z1 := ht.zero hl (j := 1) (by decide)
 have z2 := ht.zero hl (j := 2) (by decide)
 have z3 := ht.zero hl (j := 3) (by decide)
 obtain ⟨_, _, ez⟩ := ht.top (k := 0) hl
 refine mk Try.func112 rfl rfl L0 R1 (by decide +kernel) fun A S hA hS => ?_
 have z1 := eq0_t hA z1
 have z2 := eq0_t hA z2
 have z3 := eq0_t hA z3
 have ez := eq0_f hA ez
 unfold bodyOf Try.f112
 cbv
 refine ABr.t z3 ?_
 cbv
 refine ABr.t z2 ?_
 cbv
 refine ABr.t z1 ?_
 cbv
 refine ABr.f ez ?_
 cbv
theorem trim2S {lim : Lim} (hl : lim = limR) (x : Nat) (ht : TopW x 2) : Sp 112 [.lst false 4 [.s .u64 (lim x 0), .s .u64 (lim x 1), .s .u64 (lim x 2), .s .u64 (lim x 3)]] (.lst false 2 [.s .u64 (lim x 0), .s .u64 (lim x 1)]) := by
 have z2 := ht.zero hl (j := 2) (by decide)
 have z3 := ht.zero hl (j := 3) (by decide)
 obtain ⟨_, _, ez⟩ := ht.top (k := 1) hl
 refine mk Try.func112 rfl rfl L0 R1 (by decide +kernel) fun A S hA hS => ?_
 have z2 := eq0_t hA z2
 have z3 := eq0_t hA z3
 have ez := eq0_f hA ez
 unfold bodyOf Try.f112
 cbv
 refine ABr.t z3 ?_
 cbv
 refine ABr.t z2 ?_
 cbv
 refine ABr.f ez ?_
 cbv
theorem trim3S {lim : Lim} (hl : lim = limR) (x : Nat) (ht : TopW x 3) : Sp 112 [.lst false 4 [.s .u64 (lim x 0), .s .u64 (lim x 1), .s .u64 (lim x 2), .s .u64 (lim x 3)]] (.lst false 3 [.s .u64 (lim x 0), .s .u64 (lim x 1), .s .u64 (lim x 2)]) := by
 have z3 := ht.zero hl (j := 3) (by decide)
 obtain ⟨_, _, ez⟩ := ht.top (k := 2) hl
 refine mk Try.func112 rfl rfl L0 R1 (by decide +kernel) fun A S hA hS => ?_
 have z3 := eq0_t hA z3
 have ez := eq0_f hA ez
 unfold bodyOf Try.f112
 cbv
 refine ABr.t z3 ?_
 cbv
 refine ABr.f ez ?_
 cbv
theorem trim4S {lim : Lim} (hl : lim = limR) (x : Nat) (ht : TopW x 4) : Sp 112 [.lst false 4 [.s .u64 (lim x 0), .s .u64 (lim x 1), .s .u64 (lim x 2), .s .u64 (lim x 3)]] (.lst false 4 [.s .u64 (lim x 0), .s .u64 (lim x 1), .s .u64 (lim x 2), .s .u64 (lim x 3)]) := by
 obtain ⟨_, _, ez⟩ := ht.top (k := 3) hl
 refine mk Try.func112 rfl rfl L0 R1 (by decide +kernel) fun A S hA hS => ?_
 have ez := eq0_f hA ez
 unfold bodyOf Try.f112
 cbv
 refine ABr.f ez ?_
 cbv
theorem quo_u {x y : Nat} (hx : x < 18446744073709551616) : rbin .quo .u64 (x : Int) (y : Int) = ((x / y : Nat) : Int) := by
 show IntKind.u64.wrap (Int.tdiv x y) = _
 rw [wrap_u64]
 have : x / y ≤ x := Nat.div_le_self _ _
 rw [← Int.ofNat_tdiv]
 generalize x / y = q at *
 omega
theorem rem_u {x y : Nat} : rbin .rem .u64 (x : Int) (y : Int) = ((x % y : Nat) : Int) := Int.ofNat_tmod x y
theorem div0S (x y : Nat) (hx : x < 18446744073709551616) (hy : 0 < y) : Sp 61 [.i .u64 0, .s .u64 (x : Int), .s .u64 (y : Int)] (.tup [.s .u64 ((x / y : Nat) : Int), .s .u64 ((x % y : Nat) : Int)]) := by
 have q := quo_u (y := y) hx
 have r := rem_u (x := x) (y := y)
 generalize ((x / y : Nat) : Int) = qi at *
 generalize ((x % y : Nat) : Int) = ri at *
 obtain ⟨yi, hyi⟩ : ∃ z : Int, z = (y : Int) := ⟨_, rfl⟩
 have hy0 : yi ≠ 0 := by omega
 have hyp : ¬ yi ≤ 0 := by omega
 rw [← hyi] at q r ⊢
 generalize (x : Int) = xi at *
 clear hyi
 refine mk Try.func61 rfl rfl L0 R1 (by decide +kernel) fun A S hA hS => ?_
 have e1 := eq0_f hA hy0
 have e2 : A.cmp .leq yi 0 = false := by rw [hA]; exact decide_eq_false hyp
 have ok : A.okb .quo yi = true ∧ A.okb .rem yi = true := by
   rw [hA]
   have : rokb .quo yi = true := by show (!(yi == 0)) = true; rw [beq_eq_false_iff_ne.2 hy0]; rfl
   exact ⟨this, this⟩
 have q : A.bin .quo .u64 xi yi = qi := by rw [hA]; exact q
 have r : A.bin .rem .u64 xi yi = ri := by rw [hA]; exact r
 unfold bodyOf Try.f61
 cbv
 refine ABr.f e1 ?_
 cbv
 refine ABr.f e2 ?_
 cbv
 refine .mk ok.1 ?_
 cbv
 refine .mk ok.2 ?_
 cbv
 exact ⟨q, r⟩
end Go.Proofs.Ytkhipnhdbaahcaa
end
