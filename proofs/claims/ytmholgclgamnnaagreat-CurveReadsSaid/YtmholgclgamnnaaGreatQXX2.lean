import Derived.Test.YtmholgclgamnnaaGreatQXBB
import Derived.Test.YtmholgclgamnnaaGreatQXC
set_option linter.unusedVariables false
set_option linter.unusedSimpArgs false
set_option linter.unusedSectionVars false
set_option maxRecDepth 100000
set_option exponentiation.threshold 2000
set_option maxHeartbeats 4000000
section
namespace Go.Proofs.YtmholgclgamnnaaGreat
open Go Eng
theorem mod_step (a m t : Nat) : a / 2 ^ t % m = (2 * (a / 2 ^ (t + 1) % m) + a / 2 ^ t % 2) % m := by
 have e : a / 2 ^ (t + 1) = a / 2 ^ t / 2 := by rw [Nat.pow_succ, Nat.div_div_eq_div_mul]
 rw [e]
 generalize a / 2 ^ t = q
 rw [Nat.add_mod, Nat.mul_mod_mod, ← Nat.add_mod]
 congr 1
 omega
theorem limR_bit (a q s : Nat) (hs : s < 64) : (limR a q).toNat / 2 ^ s % 2 = a / 2 ^ (64 * q + s) % 2 := by
 unfold limR
 rw [Int.toNat_natCast, Nat.pow_add, ← Nat.div_div_eq_div_mul]
 generalize a / 2 ^ (64 * q) = x
 rw [show (2 : Nat) ^ 64 = 2 ^ s * 2 ^ (64 - s) by rw [← Nat.pow_add]; congr 1; omega, Nat.mod_mul_right_div_self, Nat.mod_mod_of_dvd]
 exact Nat.dvd_trans (by decide) (Nat.pow_dvd_pow 2 (show 1 ≤ 64 - s by omega))
theorem wrap_small {A : Ar} (hA : A = Ar.real) {x : Int} {k : Nat} (h : x = k) (hk : k < 1000000) : A.wrap .u64 x = (k : Int) := by
 rw [hA, h]
 exact (wrap_u64 _).trans (by omega)
theorem okb_small {A : Ar} (hA : A = Ar.real) {x : Int} {k : Nat} (h : x = k) (hk : k < 1000000) : A.okb .shr (A.wrap .u64 x) = true := by
 rw [wrap_small hA h hk]; exact (a_okbS hA (by omega)).1
theorem rMod4 {lim : Lim} (hl : lim = limR) {row : List AVal} {k a m r : Nat} (hrow : IsRow row (lim a) k) (hk : k < 1000) (ha : a < 2 ^ (64 * k)) (h0 : 0 < m) (hm : m < 2 ^ 256) (hr : r = a % m) :
   Sp 159 [.lst true k row, .lst false 4 (ws4 lim m)] (.lst false 4 (ws4 lim r)) := by
 obtain ⟨y, hy⟩ : ∃ y : Nat → Nat, y = fun j => a / 2 ^ (64 * j) % m := ⟨_, rfl⟩
 obtain ⟨z, hz⟩ : ∃ z : Nat → Nat → Nat, z = fun j q => a / 2 ^ (64 * j + q) % m := ⟨_, rfl⟩
 have hyk : y k = 0 := by rw [hy]; show a / 2 ^ (64 * k) % m = 0; rw [Nat.div_eq_of_lt ha, Nat.zero_mod]
 have hy0 : y 0 = r := by rw [hy, hr]; show a / 2 ^ (64 * 0) % m = _; rw [Nat.mul_zero, Nat.pow_zero, Nat.div_one]
 have hyz : ∀ j, z j 64 = y (j + 1) := fun j => by rw [hy, hz]; show a / 2 ^ (64 * j + 64) % m = a / 2 ^ (64 * (j + 1)) % m; rw [Nat.mul_succ]
 have hzy : ∀ j, z j 0 = y j := fun j => by rw [hy, hz]; rfl
 have hzm : ∀ j q, z j q < m := fun j q => by rw [hz]; exact Nat.mod_lt _ h0
 have hst : ∀ j q, z j q = (2 * z j (q + 1) + a / 2 ^ (64 * j + q) % 2) % m := fun j q => by rw [hz]; exact mod_step a m (64 * j + q)
 have le := fun x i => lim_range hl x i
 have hzero : ∀ i, lim 0 i = 0 := fun i => by rw [hl]; simp [limR]
 clear hy hz hr
 refine mk Tryz.func159 rfl rfl LN R2 (by decide +kernel) ?_
 intro A S hA hS
 unfold bodyOf Tryz.f159
 cbv
 refine .inv (α := Nat × Int) (fun p => ⟨[.lst true k row, .lst false 4 (ws4 lim m), .any, .any, .any, .lst false 4 (ws4 lim (y p.1)), .s .i64 p.2, .any, .any, .any, .any, .any, .any, .any, .any, .any, .any, .any, .any, .any, .any, .any, .any, .any, .any, .any, .any, .any, .any, .any, .any, .any, .any, .any], []⟩)
   (fun p => p.1 ≤ k ∧ p.2 = (p.1 : Int) - 1) (fun p => p.1) (k, (k : Int) - 1) ?_ ⟨Nat.le_refl _, rfl⟩ ?_
 . have e : A.bin .sub .i64 (A.len k) 1 = (k : Int) - 1 := e_sub hA (a_len hA k) rfl rfl (by omega)
   generalize (k : Int) - 1 = w at e
   rw [hyk]
   cbv
   simp only [and_true]
   exact ⟨⟨(hzero 0).symm, (hzero 1).symm, (hzero 2).symm, (hzero 3).symm⟩, e⟩
 rintro ⟨j, i⟩ ⟨hj, hi⟩
 dsimp only at hj hi ⊢
 by_cases h1 : i ≥ 0
 . obtain ⟨j, rfl⟩ : ∃ t, j = t + 1 := ⟨j - 1, by omega⟩
   have hij : i = (j : Int) := by omega
   have hge : A.cmp .geq i 0 = true := (i_ge hA).trans (decide_eq_true h1)
   have hjk : j < k := by omega
   have hsub : A.bin .sub .i64 i 1 = (j : Int) - 1 := e_sub hA hij rfl rfl (by omega)
   obtain ⟨w, hw⟩ : ∃ w : Int, w = (j : Int) - 1 := ⟨_, rfl⟩
   rw [← hw] at hsub
   have hle : j ≤ k := by omega
   have hmu : j < j + 1 := by omega
   have hy1 := hyz j
   have hz1 := hzy j
   have hrj := hrow.2 j hjk
   generalize y (j + 1) = yj at hy1 ⊢
   cbv
   refine ABr.t hge ?_
   cbv
   refine .inv (α := Nat × Int) (fun p => ⟨[.lst true k row, .lst false 4 (ws4 lim m), .any, .any, .any, .lst false 4 (ws4 lim (z j p.1)), .s .i64 i, .s .i64 p.2, .any, .any, .any, .any, .any, .any, .any, .any, .any, .any, .any, .any, .any, .any, .any, .any, .any, .any, .any, .any, .any, .any, .any, .any, .any, .any], []⟩)
     (fun p => p.1 ≤ 64 ∧ p.2 = (p.1 : Int) - 1) (fun p => p.1) (64, 63) ?_ ⟨Nat.le_refl _, rfl⟩ ?_
   . rw [hy1]
     cbv
   rintro ⟨q, v⟩ ⟨hq, hv⟩
   dsimp only at hq hv ⊢
   by_cases h2 : v ≥ 0
   . obtain ⟨q, rfl⟩ : ∃ t, q = t + 1 := ⟨q - 1, by omega⟩
     have hvq : v = (q : Int) := by omega
     have hge2 : A.cmp .geq v 0 = true := (i_ge hA).trans (decide_eq_true h2)
     have hsub2 : A.bin .sub .i64 v 1 = (q : Int) - 1 := e_sub hA hvq rfl rfl (by omega)
     obtain ⟨u, hu⟩ : ∃ u : Int, u = (q : Int) - 1 := ⟨_, rfl⟩
     rw [← hu] at hsub2
     have hle2 : q ≤ 64 := by omega
     have hmu2 : q < q + 1 := by omega
     have hbit : A.bin .and .u64 (A.bin .shr .u64 (lim a j) (A.wrap .u64 v)) 1 = ((a / 2 ^ (64 * j + q) % 2 : Nat) : Int) := by
       rw [u_bit hA (le a j) (wrap_small hA hvq (by omega)) (by omega), hl, limR_bit _ _ _ (by omega)]
     have hstep := hst j q
     obtain ⟨c, hc⟩ : ∃ c, c = a / 2 ^ (64 * j + q) % 2 := ⟨_, rfl⟩
     rw [← hc] at hbit hstep
     have hc1 : c ≤ 1 := by omega
     have htw := rtwice4 hl (z j (q + 1)) c m (z j q) hm (hzm _ _) hc1 hstep
     have hok := okb_small hA hvq (by omega)
     generalize z j (q + 1) = zq at htw ⊢
     cbv
     refine ABr.t hge2 ?_
     cbv
     refine .mk j hij hjk ?_
     cbv
     refine .mk _ hrj ?_
     cbv
     refine .mk hok ?_
     cbv
     refine ACall.mk _ (cg hS htw (by cbv; exact ⟨hbit, trivial⟩)) ?_
     cbv
     refine ⟨(q, u), ?_, ⟨hle2, hu⟩, hmu2⟩
     cbv
     simp only [and_true, true_and]
     exact hsub2
   . have hge2 : A.cmp .geq v 0 = false := (i_ge hA).trans (decide_eq_false h2)
     obtain rfl : q = 0 := by omega
     cbv
     refine ABr.f hge2 ?_
     cbv
     refine ⟨(j, w), ?_, ⟨hle, hw⟩, hmu⟩
     rw [← hz1]
     cbv
     simp only [and_true, true_and]
     exact hsub
 . have hge : A.cmp .geq i 0 = false := (i_ge hA).trans (decide_eq_false h1)
   obtain rfl : j = 0 := by omega
   cbv
   refine ABr.f hge ?_
   rw [hy0]
   cbv
theorem rAddMod4 {lim : Lim} (hl : lim = limR) (a b m r : Nat) (hm : m < 2 ^ 256) (ha : a < m) (hb : b < m) (hr : r = (a + b) % m) :
   Sp 162 [.lst false 4 (ws4 lim a), .lst false 4 (ws4 lim b), .lst false 4 (ws4 lim m)] (.new false 4 1 (ws4 lim r)) := by
 obtain ⟨s, hs⟩ : ∃ s, s = (a + b) % 2 ^ 256 := ⟨_, rfl⟩
 obtain ⟨c, hc⟩ : ∃ s, s = (a + b) / 2 ^ 256 := ⟨_, rfl⟩
 have hadd := rAdd4 hl a b s c (by omega) (by omega) hs hc
 have hsm : s < 2 ^ 256 := by rw [hs]; exact Nat.mod_lt _ (Nat.two_pow_pos _)
 have hab : (a + b) % m = if a + b < m then a + b else a + b - m := by
   split
   . exact Nat.mod_eq_of_lt (by omega)
   . rw [Nat.mod_eq_sub_mod (by omega)]; exact Nat.mod_eq_of_lt (by omega)
 rw [hab] at hr
 have hrm : r < 2 ^ 256 := by split at hr <;> omega
 have hcase : (c = 1 ∧ r + m = s + 2 ^ 256 * 1) ∨ (c = 0 ∧ ¬ s < m ∧ r + m = s + 2 ^ 256 * 0) ∨ (c = 0 ∧ s < m ∧ r = s) := by
   have h1 : c = 0 ∨ c = 1 := by omega
   rcases h1 with h1 | h1
   . by_cases h2 : s < m
     . refine .inr (.inr ⟨h1, h2, ?_⟩)
       split at hr <;> omega
     . refine .inr (.inl ⟨h1, h2, ?_⟩)
       split at hr <;> omega
   . refine .inl ⟨h1, ?_⟩
     split at hr <;> omega
 have hless := rLess4 hl s m hsm hm
 clear hr hab hs hc
 refine mk Tryz.func162 rfl rfl L0 R0 (by decide +kernel) ?_
 intro A S hA hS
 unfold bodyOf Tryz.f162
 cbv
 refine aF hS hadd ?_
 cbv
 have hcmp : A.cmp .eql (c : Int) 1 = decide ((c : Int) = 1) := i_eq hA
 rcases hcase with ⟨rfl, h2⟩ | ⟨rfl, h1, h2⟩ | ⟨rfl, h1, rfl⟩
 . replace hcmp := hcmp.trans (decide_eq_true rfl)
   repeat (refine ABr.t hcmp ?_; cbv)
   refine ACall.mk _ (cf hS (rSub4 hl s m r 1 hsm hm h2 hrm)) ?_
   cbv
 . replace hcmp := hcmp.trans (decide_eq_false (by decide))
   repeat (refine ABr.f hcmp ?_; cbv)
   refine ACall.mk _ (cf hS (hless false (decide_eq_false h1).symm)) ?_
   cbv
   repeat (refine ABr.f hcmp ?_; cbv)
   have hn := a_not hA false
   repeat (refine ABr.t hn ?_; cbv)
   refine ACall.mk _ (cf hS (rSub4 hl s m r 0 hsm hm h2 hrm)) ?_
   cbv
 . replace hcmp := hcmp.trans (decide_eq_false (by decide))
   repeat (refine ABr.f hcmp ?_; cbv)
   refine ACall.mk _ (cf hS (hless true (decide_eq_true h1).symm)) ?_
   cbv
   repeat (refine ABr.f hcmp ?_; cbv)
   have hn := a_not hA true
   repeat (refine ABr.f hn ?_; cbv)
theorem rSubMod4 {lim : Lim} (hl : lim = limR) (a b m r : Nat) (hm : m < 2 ^ 256) (ha : a < m) (hb : b < m) (hr : r = (a + m - b) % m) :
   Sp 152 [.lst false 4 (ws4 lim a), .lst false 4 (ws4 lim b), .lst false 4 (ws4 lim m)] (.new false 4 1 (ws4 lim r)) := by
 obtain ⟨d, hd⟩ : ∃ d, d = if a < b then a + 2 ^ 256 - b else a - b := ⟨_, rfl⟩
 obtain ⟨k, h1, h2, h3⟩ := less_dif (a := a) (b := b) (n := 2 ^ 256) (by omega) (by omega) (decide (a < b)) rfl hd
 have hsub := rSub4 hl a b d k (by omega) (by omega) h1 h2
 have hab : (a + m - b) % m = if a < b then a + m - b else a - b := by
   split
   . exact Nat.mod_eq_of_lt (by omega)
   . rw [Nat.mod_eq_sub_mod (by omega)]; exact (Nat.mod_eq_of_lt (by omega)).trans (by omega)
 rw [hab] at hr
 have hadd : a < b → _ := fun (h : a < b) => rAdd4 hl d m r 1 h2 hm (by rw [if_pos h] at hr hd; omega) (by rw [if_pos h] at hr hd; omega)
 have hcase : (k = 1 ∧ a < b) ∨ (k = 0 ∧ r = d) := by
   by_cases h : a < b
   . simp [h] at h3; exact .inl ⟨h3, h⟩
   . simp [h] at h3; rw [if_neg h] at hr hd; exact .inr ⟨h3, by omega⟩
 clear hr hab hd h3 h1
 refine mk Tryz.func152 rfl rfl L0 R0 (by decide +kernel) ?_
 intro A S hA hS
 unfold bodyOf Tryz.f152
 cbv
 refine aF hS hsub ?_
 cbv
 have hcmp : A.cmp .eql (k : Int) 1 = decide ((k : Int) = 1) := i_eq hA
 rcases hcase with ⟨rfl, h⟩ | ⟨rfl, rfl⟩
 . replace hcmp := hcmp.trans (decide_eq_true rfl)
   repeat (refine ABr.t hcmp ?_; cbv)
   refine ACall.mk _ (cf hS (hadd h)) ?_
   cbv
 . replace hcmp := hcmp.trans (decide_eq_false (by decide))
   repeat (refine ABr.f hcmp ?_; cbv)
theorem rMod6 {lim : Lim} (hl : lim = limR) {row : List AVal} {k a m r : Nat} (hrow : IsRow row (lim a) k) (hk : k < 1000) (ha : a < 2 ^ (64 * k)) (h0 : 0 < m) (hm : m < 2 ^ 384) (hr : r = a % m) :
   Sp 159 [.lst true k row, .lst false 6 (ws6 lim m)] (.lst false 6 (ws6 lim r)) := by
 obtain ⟨y, hy⟩ : ∃ y : Nat → Nat, y = fun j => a / 2 ^ (64 * j) % m := ⟨_, rfl⟩
 obtain ⟨z, hz⟩ : ∃ z : Nat → Nat → Nat, z = fun j q => a / 2 ^ (64 * j + q) % m := ⟨_, rfl⟩
 have hyk : y k = 0 := by rw [hy]; show a / 2 ^ (64 * k) % m = 0; rw [Nat.div_eq_of_lt ha, Nat.zero_mod]
 have hy0 : y 0 = r := by rw [hy, hr]; show a / 2 ^ (64 * 0) % m = _; rw [Nat.mul_zero, Nat.pow_zero, Nat.div_one]
 have hyz : ∀ j, z j 64 = y (j + 1) := fun j => by rw [hy, hz]; show a / 2 ^ (64 * j + 64) % m = a / 2 ^ (64 * (j + 1)) % m; rw [Nat.mul_succ]
 have hzy : ∀ j, z j 0 = y j := fun j => by rw [hy, hz]; rfl
 have hzm : ∀ j q, z j q < m := fun j q => by rw [hz]; exact Nat.mod_lt _ h0
 have hst : ∀ j q, z j q = (2 * z j (q + 1) + a / 2 ^ (64 * j + q) % 2) % m := fun j q => by rw [hz]; exact mod_step a m (64 * j + q)
 have le := fun x i => lim_range hl x i
 have hzero : ∀ i, lim 0 i = 0 := fun i => by rw [hl]; simp [limR]
 clear hy hz hr
 refine mk Tryz.func159 rfl rfl LN R2 (by decide +kernel) ?_
 intro A S hA hS
 unfold bodyOf Tryz.f159
 cbv
 refine .inv (α := Nat × Int) (fun p => ⟨[.lst true k row, .lst false 6 (ws6 lim m), .any, .any, .any, .lst false 6 (ws6 lim (y p.1)), .s .i64 p.2, .any, .any, .any, .any, .any, .any, .any, .any, .any, .any, .any, .any, .any, .any, .any, .any, .any, .any, .any, .any, .any, .any, .any, .any, .any, .any, .any], []⟩)
   (fun p => p.1 ≤ k ∧ p.2 = (p.1 : Int) - 1) (fun p => p.1) (k, (k : Int) - 1) ?_ ⟨Nat.le_refl _, rfl⟩ ?_
 . have e : A.bin .sub .i64 (A.len k) 1 = (k : Int) - 1 := e_sub hA (a_len hA k) rfl rfl (by omega)
   generalize (k : Int) - 1 = w at e
   rw [hyk]
   cbv
   simp only [and_true]
   exact ⟨⟨(hzero 0).symm, (hzero 1).symm, (hzero 2).symm, (hzero 3).symm, (hzero 4).symm, (hzero 5).symm⟩, e⟩
 rintro ⟨j, i⟩ ⟨hj, hi⟩
 dsimp only at hj hi ⊢
 by_cases h1 : i ≥ 0
 . obtain ⟨j, rfl⟩ : ∃ t, j = t + 1 := ⟨j - 1, by omega⟩
   have hij : i = (j : Int) := by omega
   have hge : A.cmp .geq i 0 = true := (i_ge hA).trans (decide_eq_true h1)
   have hjk : j < k := by omega
   have hsub : A.bin .sub .i64 i 1 = (j : Int) - 1 := e_sub hA hij rfl rfl (by omega)
   obtain ⟨w, hw⟩ : ∃ w : Int, w = (j : Int) - 1 := ⟨_, rfl⟩
   rw [← hw] at hsub
   have hle : j ≤ k := by omega
   have hmu : j < j + 1 := by omega
   have hy1 := hyz j
   have hz1 := hzy j
   have hrj := hrow.2 j hjk
   generalize y (j + 1) = yj at hy1 ⊢
   cbv
   refine ABr.t hge ?_
   cbv
   refine .inv (α := Nat × Int) (fun p => ⟨[.lst true k row, .lst false 6 (ws6 lim m), .any, .any, .any, .lst false 6 (ws6 lim (z j p.1)), .s .i64 i, .s .i64 p.2, .any, .any, .any, .any, .any, .any, .any, .any, .any, .any, .any, .any, .any, .any, .any, .any, .any, .any, .any, .any, .any, .any, .any, .any, .any, .any], []⟩)
     (fun p => p.1 ≤ 64 ∧ p.2 = (p.1 : Int) - 1) (fun p => p.1) (64, 63) ?_ ⟨Nat.le_refl _, rfl⟩ ?_
   . rw [hy1]
     cbv
   rintro ⟨q, v⟩ ⟨hq, hv⟩
   dsimp only at hq hv ⊢
   by_cases h2 : v ≥ 0
   . obtain ⟨q, rfl⟩ : ∃ t, q = t + 1 := ⟨q - 1, by omega⟩
     have hvq : v = (q : Int) := by omega
     have hge2 : A.cmp .geq v 0 = true := (i_ge hA).trans (decide_eq_true h2)
     have hsub2 : A.bin .sub .i64 v 1 = (q : Int) - 1 := e_sub hA hvq rfl rfl (by omega)
     obtain ⟨u, hu⟩ : ∃ u : Int, u = (q : Int) - 1 := ⟨_, rfl⟩
     rw [← hu] at hsub2
     have hle2 : q ≤ 64 := by omega
     have hmu2 : q < q + 1 := by omega
     have hbit : A.bin .and .u64 (A.bin .shr .u64 (lim a j) (A.wrap .u64 v)) 1 = ((a / 2 ^ (64 * j + q) % 2 : Nat) : Int) := by
       rw [u_bit hA (le a j) (wrap_small hA hvq (by omega)) (by omega), hl, limR_bit _ _ _ (by omega)]
     have hstep := hst j q
     obtain ⟨c, hc⟩ : ∃ c, c = a / 2 ^ (64 * j + q) % 2 := ⟨_, rfl⟩
     rw [← hc] at hbit hstep
     have hc1 : c ≤ 1 := by omega
     have htw := rtwice6 hl (z j (q + 1)) c m (z j q) hm (hzm _ _) hc1 hstep
     have hok := okb_small hA hvq (by omega)
     generalize z j (q + 1) = zq at htw ⊢
     cbv
     refine ABr.t hge2 ?_
     cbv
     refine .mk j hij hjk ?_
     cbv
     refine .mk _ hrj ?_
     cbv
     refine .mk hok ?_
     cbv
     refine ACall.mk _ (cg hS htw (by cbv; exact ⟨hbit, trivial⟩)) ?_
     cbv
     refine ⟨(q, u), ?_, ⟨hle2, hu⟩, hmu2⟩
     cbv
     simp only [and_true, true_and]
     exact hsub2
   . have hge2 : A.cmp .geq v 0 = false := (i_ge hA).trans (decide_eq_false h2)
     obtain rfl : q = 0 := by omega
     cbv
     refine ABr.f hge2 ?_
     cbv
     refine ⟨(j, w), ?_, ⟨hle, hw⟩, hmu⟩
     rw [← hz1]
     cbv
     simp only [and_true, true_and]
     exact hsub
 . have hge : A.cmp .geq i 0 = false := (i_ge hA).trans (decide_eq_false h1)
   obtain rfl : j = 0 := by omega
   cbv
   refine ABr.f hge ?_
   rw [hy0]
   cbv
theorem rAddMod6 {lim : Lim} (hl : lim = limR) (a b m r : Nat) (hm : m < 2 ^ 384) (ha : a < m) (hb : b < m) (hr : r = (a + b) % m) :
   Sp 162 [.lst false 6 (ws6 lim a), .lst false 6 (ws6 lim b), .lst false 6 (ws6 lim m)] (.new false 6 1 (ws6 lim r)) := by
 obtain ⟨s, hs⟩ : ∃ s, s = (a + b) % 2 ^ 384 := ⟨_, rfl⟩
 obtain ⟨c, hc⟩ : ∃ s, s = (a + b) / 2 ^ 384 := ⟨_, rfl⟩
 have hadd := rAdd6 hl a b s c (by omega) (by omega) hs hc
 have hsm : s < 2 ^ 384 := by rw [hs]; exact Nat.mod_lt _ (Nat.two_pow_pos _)
 have hab : (a + b) % m = if a + b < m then a + b else a + b - m := by
   split
   . exact Nat.mod_eq_of_lt (by omega)
   . rw [Nat.mod_eq_sub_mod (by omega)]; exact Nat.mod_eq_of_lt (by omega)
 rw [hab] at hr
 have hrm : r < 2 ^ 384 := by split at hr <;> omega
 have hcase : (c = 1 ∧ r + m = s + 2 ^ 384 * 1) ∨ (c = 0 ∧ ¬ s < m ∧ r + m = s + 2 ^ 384 * 0) ∨ (c = 0 ∧ s < m ∧ r = s) := by
   have h1 : c = 0 ∨ c = 1 := by omega
   rcases h1 with h1 | h1
   . by_cases h2 : s < m
     . refine .inr (.inr ⟨h1, h2, ?_⟩)
       split at hr <;> omega
     . refine .inr (.inl ⟨h1, h2, ?_⟩)
       split at hr <;> omega
   . refine .inl ⟨h1, ?_⟩
     split at hr <;> omega
 have hless := rLess6 hl s m hsm hm
 clear hr hab hs hc
 refine mk Tryz.func162 rfl rfl L0 R0 (by decide +kernel) ?_
 intro A S hA hS
 unfold bodyOf Tryz.f162
 cbv
 refine aF hS hadd ?_
 cbv
 have hcmp : A.cmp .eql (c : Int) 1 = decide ((c : Int) = 1) := i_eq hA
 rcases hcase with ⟨rfl, h2⟩ | ⟨rfl, h1, h2⟩ | ⟨rfl, h1, rfl⟩
 . replace hcmp := hcmp.trans (decide_eq_true rfl)
   repeat (refine ABr.t hcmp ?_; cbv)
   refine ACall.mk _ (cf hS (rSub6 hl s m r 1 hsm hm h2 hrm)) ?_
   cbv
 . replace hcmp := hcmp.trans (decide_eq_false (by decide))
   repeat (refine ABr.f hcmp ?_; cbv)
   refine ACall.mk _ (cf hS (hless false (decide_eq_false h1).symm)) ?_
   cbv
   repeat (refine ABr.f hcmp ?_; cbv)
   have hn := a_not hA false
   repeat (refine ABr.t hn ?_; cbv)
   refine ACall.mk _ (cf hS (rSub6 hl s m r 0 hsm hm h2 hrm)) ?_
   cbv
 . replace hcmp := hcmp.trans (decide_eq_false (by decide))
   repeat (refine ABr.f hcmp ?_; cbv)
   refine ACall.mk _ (cf hS (hless true (decide_eq_true h1).symm)) ?_
   cbv
   repeat (refine ABr.f hcmp ?_; cbv)
   have hn := a_not hA true
   repeat (refine ABr.f hn ?_; cbv)
theorem rSubMod6 {lim : Lim} (hl : lim = limR) (a b m r : Nat) (hm : m < 2 ^ 384) (ha : a < m) (hb : b < m) (hr : r = (a + m - b) % m) :
   Sp 152 [.lst false 6 (ws6 lim a), .lst false 6 (ws6 lim b), .lst false 6 (ws6 lim m)] (.new false 6 1 (ws6 lim r)) := by
 obtain ⟨d, hd⟩ : ∃ d, d = if a < b then a + 2 ^ 384 - b else a - b := ⟨_, rfl⟩
 obtain ⟨k, h1, h2, h3⟩ := less_dif (a := a) (b := b) (n := 2 ^ 384) (by omega) (by omega) (decide (a < b)) rfl hd
 have hsub := rSub6 hl a b d k (by omega) (by omega) h1 h2
 have hab : (a + m - b) % m = if a < b then a + m - b else a - b := by
   split
   . exact Nat.mod_eq_of_lt (by omega)
   . rw [Nat.mod_eq_sub_mod (by omega)]; exact (Nat.mod_eq_of_lt (by omega)).trans (by omega)
 rw [hab] at hr
 have hadd : a < b → _ := fun (h : a < b) => rAdd6 hl d m r 1 h2 hm (by rw [if_pos h] at hr hd; omega) (by rw [if_pos h] at hr hd; omega)
 have hcase : (k = 1 ∧ a < b) ∨ (k = 0 ∧ r = d) := by
   by_cases h : a < b
   . simp [h] at h3; exact .inl ⟨h3, h⟩
   . simp [h] at h3; rw [if_neg h] at hr hd; exact .inr ⟨h3, by omega⟩
 clear hr hab hd h3 h1
 refine mk Tryz.func152 rfl rfl L0 R0 (by decide +kernel) ?_
 intro A S hA hS
 unfold bodyOf Tryz.f152
 cbv
 refine aF hS hsub ?_
 cbv
 have hcmp : A.cmp .eql (k : Int) 1 = decide ((k : Int) = 1) := i_eq hA
 rcases hcase with ⟨rfl, h⟩ | ⟨rfl, rfl⟩
 . replace hcmp := hcmp.trans (decide_eq_true rfl)
   repeat (refine ABr.t hcmp ?_; cbv)
   refine ACall.mk _ (cf hS (hadd h)) ?_
   cbv
 . replace hcmp := hcmp.trans (decide_eq_false (by decide))
   repeat (refine ABr.f hcmp ?_; cbv)
def V (o : Nat → Nat) : Nat → Nat
 | 0 => 0
 | n + 1 => V o n + o n * 18446744073709551616 ^ n
def upd (o : Nat → Nat) (j v : Nat) : Nat → Nat := fun m => if m = j then v else o m
theorem upd_eq (o : Nat → Nat) (j v : Nat) : upd o j v j = v := if_pos rfl
theorem upd_ne (o : Nat → Nat) (j v m : Nat) (h : m ≠ j) : upd o j v m = o m := if_neg h
theorem V_congr {o p : Nat → Nat} : ∀ n, (∀ j, j < n → o j = p j) → V o n = V p n
 | 0, _ => rfl
 | n + 1, h => by rw [V, V, V_congr n (fun j hj => h j (by omega)), h n (by omega)]
theorem V_upd (o : Nat → Nat) (j v : Nat) : ∀ n, j < n → V (upd o j v) n + o j * 18446744073709551616 ^ j = V o n + v * 18446744073709551616 ^ j
 | 0, h => by omega
 | n + 1, h => by
   rw [V, V]
   by_cases e : j = n
   . subst e
     rw [upd_eq, V_congr (o := upd o j v) (p := o) j (fun m hm => upd_ne _ _ _ _ (by omega))]
     omega
   . rw [upd_ne _ _ _ _ (fun h => e h.symm)]
     have := V_upd o j v n (by omega)
     omega
theorem V_lt {o : Nat → Nat} : ∀ n, (∀ j, j < n → o j < 18446744073709551616) → V o n < 18446744073709551616 ^ n
 | 0, _ => by simp [V]
 | n + 1, h => by
   have h1 := V_lt n (fun j hj => h j (by omega))
   have h2 : (o n + 1) * 18446744073709551616 ^ n ≤ 18446744073709551616 * 18446744073709551616 ^ n := Nat.mul_le_mul_right _ (h n (by omega))
   rw [V, Nat.pow_succ, Nat.mul_comm (18446744073709551616 ^ n)]
   rw [Nat.add_mul, Nat.one_mul] at h2
   omega
theorem V_dig {o : Nat → Nat} : ∀ n, (∀ j, j < n → o j < 18446744073709551616) → ∀ j, j < n → V o n / 18446744073709551616 ^ j % 18446744073709551616 = o j
 | 0, _, j, hj => by omega
 | n + 1, h, j, hj => by
   rw [V]
   have hp : 0 < 18446744073709551616 ^ j := Nat.pow_pos (by decide)
   by_cases e : j = n
   . subst e
     rw [Nat.add_mul_div_right _ _ hp, Nat.div_eq_of_lt (V_lt j (fun i hi => h i (by omega))), Nat.zero_add, Nat.mod_eq_of_lt (h j (by omega))]
   . have ih := V_dig n (fun i hi => h i (by omega)) j (by omega)
     rw [show n = j + 1 + (n - j - 1) by omega, Nat.pow_add, Nat.pow_succ, ← show n = j + 1 + (n - j - 1) by omega]
     rw [show o n * (18446744073709551616 ^ j * 18446744073709551616 * 18446744073709551616 ^ (n - j - 1)) = 18446744073709551616 ^ j * (18446744073709551616 * (o n * 18446744073709551616 ^ (n - j - 1))) by ac_rfl]
     rw [Nat.add_mul_div_left _ _ hp, Nat.add_mul_mod_self_left]
     exact ih
theorem pow_W (i : Nat) : 2 ^ (64 * i) = 18446744073709551616 ^ i := by rw [Nat.pow_mul]
theorem limR_V {o : Nat → Nat} {n : Nat} (h : ∀ j, j < n → o j < 18446744073709551616) {j : Nat} (hj : j < n) : limR (V o n) j = (o j : Int) := by
 unfold limR
 rw [pow_W]
 exact congrArg Int.ofNat (V_dig n h j hj)
theorem V_lim {a : Nat} : ∀ n, V (fun i => (limR a i).toNat) n = a % 18446744073709551616 ^ n
 | 0 => by rw [V, Nat.pow_zero, Nat.mod_one]
 | n + 1 => by
   rw [V, V_lim n, Nat.mod_pow_succ]
   show _ + (limR a n).toNat * _ = _
   unfold limR
   rw [Int.toNat_natCast, pow_W, Nat.mul_comm]
theorem V_zero {n : Nat} {o : Nat → Nat} (h : ∀ j, j < n → o j = 0) : V o n = 0 := by
 induction n with
 | zero => rfl
 | succ n ih => rw [V, ih (fun j hj => h j (by omega)), h n (by omega), Nat.zero_mul]
theorem V_shift (o : Nat → Nat) (n : Nat) : ∀ k, V o (n + k) = V o n + 18446744073709551616 ^ n * V (fun j => o (n + j)) k
 | 0 => by simp [V]
 | k + 1 => by
   rw [← Nat.add_assoc, V, V_shift o n k, V, Nat.mul_add, Nat.pow_add]
   have : 18446744073709551616 ^ n * (o (n + k) * 18446744073709551616 ^ k) = o (n + k) * (18446744073709551616 ^ n * 18446744073709551616 ^ k) := Nat.mul_left_comm _ _ _
   omega
theorem mac_num {V0 V1 o Z hi c x y P E : Nat} (h1 : V1 + o * P = V0 + Z * P) (h2 : Z + 18446744073709551616 * hi = x * y + o + c) (h3 : V0 + c * P = E) : V1 + hi * (P * 18446744073709551616) = E + x * y * P := by
 have h := congrArg (· * P) h2
 simp only [Nat.add_mul] at h
 have e : hi * (P * 18446744073709551616) = 18446744073709551616 * hi * P := by rw [Nat.mul_comm P, ← Nat.mul_assoc, Nat.mul_comm hi]
 rw [e]
 generalize 18446744073709551616 * hi * P = u at *
 generalize x * y * P = q at *
 generalize o * P = r at *
 generalize Z * P = s at *
 generalize c * P = t at *
 omega
theorem macj {A : Ar} (hA : A = Ar.real) {x y o c hi lo : Nat} (hx : x < 18446744073709551616) (hy : y < 18446744073709551616) (ho : o < 18446744073709551616) (hc : c < 18446744073709551616) (h : lo + 18446744073709551616 * hi = x * y) (hlo : lo < 18446744073709551616) :
   ∃ v1 v2 Z : Nat, (A.cmp .lss (A.bin .add .u64 (lo : Int) (o : Int)) (o : Int) = true → A.bin .add .u64 (hi : Int) 1 = (v1 : Int)) ∧ (A.cmp .lss (A.bin .add .u64 (lo : Int) (o : Int)) (o : Int) = false → (hi : Int) = v1) ∧
     (A.cmp .lss (A.bin .add .u64 (A.bin .add .u64 (lo : Int) (o : Int)) (c : Int)) (c : Int) = true → A.bin .add .u64 (v1 : Int) 1 = (v2 : Int)) ∧ (A.cmp .lss (A.bin .add .u64 (A.bin .add .u64 (lo : Int) (o : Int)) (c : Int)) (c : Int) = false → (v1 : Int) = v2) ∧
     A.bin .add .u64 (A.bin .add .u64 (lo : Int) (o : Int)) (c : Int) = (Z : Int) ∧ Z + 18446744073709551616 * v2 = x * y + o + c ∧ v2 < 18446744073709551616 ∧ Z < 18446744073709551616 := by
 have hxy : x * y ≤ 18446744073709551615 * 18446744073709551615 := Nat.mul_le_mul (by omega) (by omega)
 rw [← h] at hxy
 obtain ⟨s, hs⟩ : ∃ s, s = (lo + o) % 18446744073709551616 := ⟨_, rfl⟩
 obtain ⟨Z, hZ⟩ : ∃ Z, Z = (s + c) % 18446744073709551616 := ⟨_, rfl⟩
 obtain ⟨v1, hv1⟩ : ∃ v, v = if s < o then hi + 1 else hi := ⟨_, rfl⟩
 obtain ⟨v2, hv2⟩ : ∃ v, v = if Z < c then v1 + 1 else v1 := ⟨_, rfl⟩
 have e1 : A.bin .add .u64 (lo : Int) (o : Int) = (s : Int) := by rw [hA, hs]; exact u_add lo o
 have e2 : A.bin .add .u64 (s : Int) (c : Int) = (Z : Int) := by rw [hA, hZ]; exact u_add s c
 have e3 : ∀ u : Nat, u + 1 < 18446744073709551616 → A.bin .add .u64 (u : Int) 1 = ((u + 1 : Nat) : Int) := fun u hu => by
   rw [hA]; exact (u_add u 1).trans (congrArg Int.ofNat (Nat.mod_eq_of_lt hu))
 have hh : hi + 1 < 18446744073709551616 := by omega
 have hb : v1 + 1 < 18446744073709551616 ∨ (¬ Z < c) := by split at hv1 <;> omega
 rw [e1, e2]
 refine ⟨v1, v2, Z, fun e => ?_, fun e => ?_, fun e => ?_, fun e => ?_, rfl, ?_, ?_, ?_⟩
 . rw [i_lt hA] at e
   have := of_decide_eq_true e
   rw [e3 hi hh, hv1, if_pos (by omega)]
 . rw [i_lt hA] at e
   have := of_decide_eq_false e
   rw [hv1, if_neg (by omega)]
 . rw [i_lt hA] at e
   have := of_decide_eq_true e
   rw [e3 v1 (by omega), hv2, if_pos (by omega)]
 . rw [i_lt hA] at e
   have := of_decide_eq_false e
   rw [hv2, if_neg (by omega)]
 . rw [← h]
   split at hv1 <;> split at hv2 <;> omega
 . split at hv1 <;> split at hv2 <;> omega
 . omega
abbrev dg (a i : Nat) : Nat := a / 18446744073709551616 ^ i % 18446744073709551616
theorem lim_dg {lim : Lim} (hl : lim = limR) (a i : Nat) : lim a i = ((dg a i : Nat) : Int) := by
 rw [hl]; unfold limR dg; rw [pow_W]
theorem dg_lt (a i : Nat) : dg a i < 18446744073709551616 := Nat.mod_lt _ (by decide)
abbrev wo4 (o : Nat → Nat) : List AVal := [.s .u64 ((o 0 : Nat) : Int), .s .u64 ((o 1 : Nat) : Int), .s .u64 ((o 2 : Nat) : Int), .s .u64 ((o 3 : Nat) : Int), .s .u64 ((o 4 : Nat) : Int), .s .u64 ((o 5 : Nat) : Int), .s .u64 ((o 6 : Nat) : Int), .s .u64 ((o 7 : Nat) : Int)]
theorem rowx4 (lim : Lim) (a : Nat) : IsRow (ws4 lim a) (lim a) 4 := by
 refine ⟨rfl, fun i hi => ?_⟩
 rcases (by omega : i = 0 ∨ i = 1 ∨ i = 2 ∨ i = 3) with rfl | rfl | rfl | rfl
 all_goals rfl
theorem wo_get4 {A : Ar} (hA : A = Ar.real) (o : Nat → Nat) (j : Nat) (hj : j < 2 * 4) : lsub (wo4 o) (A.offs 0 j 1) 1 = some [.s .u64 ((o j : Nat) : Int)] := by
 subst hA
 rcases (by omega : j = 0 ∨ j = 1 ∨ j = 2 ∨ j = 3 ∨ j = 4 ∨ j = 5 ∨ j = 6 ∨ j = 7) with rfl | rfl | rfl | rfl | rfl | rfl | rfl | rfl
 all_goals rfl
theorem wo_put4 {A : Ar} (hA : A = Ar.real) (o o2 : Nat → Nat) (j : Nat) (hj : j < 2 * 4) {x : Int} (hx : x = (o2 j : Nat)) (h : ∀ m, m ≠ j → o2 m = o m) : lput (wo4 o) (A.offs 0 j 1) [.s .u64 x] = some (wo4 o2) := by
 subst hA
 subst hx
 have h0 := h 0
 have h1 := h 1
 have h2 := h 2
 have h3 := h 3
 have h4 := h 4
 have h5 := h 5
 have h6 := h 6
 have h7 := h 7
 clear h
 rcases (by omega : j = 0 ∨ j = 1 ∨ j = 2 ∨ j = 3 ∨ j = 4 ∨ j = 5 ∨ j = 6 ∨ j = 7) with rfl | rfl | rfl | rfl | rfl | rfl | rfl | rfl
 all_goals
   unfold wo4
   try rw [h0 (by decide)]
   try rw [h1 (by decide)]
   try rw [h2 (by decide)]
   try rw [h3 (by decide)]
   try rw [h4 (by decide)]
   try rw [h5 (by decide)]
   try rw [h6 (by decide)]
   try rw [h7 (by decide)]
   rfl
theorem rMul4 {lim : Lim} (hl : lim = limR) (a b : Nat) (ha : a < 2 ^ 256) (hb : b < 2 ^ 256) :
   Sp 223 [.lst false 4 (ws4 lim a), .lst false 4 (ws4 lim b)] (.new false (2 * 4) 1 [.s .u64 (lim (a * b) 0), .s .u64 (lim (a * b) 1), .s .u64 (lim (a * b) 2), .s .u64 (lim (a * b) 3), .s .u64 (lim (a * b) 4), .s .u64 (lim (a * b) 5), .s .u64 (lim (a * b) 6), .s .u64 (lim (a * b) 7)]) := by
 obtain ⟨da, hda⟩ : ∃ d : Nat → Nat, d = dg a := ⟨_, rfl⟩
 obtain ⟨db, hdb⟩ : ∃ d : Nat → Nat, d = dg b := ⟨_, rfl⟩
 have la : ∀ i, lim a i = (da i : Int) := fun i => by rw [hda]; exact lim_dg hl a i
 have lb : ∀ i, lim b i = (db i : Int) := fun i => by rw [hdb]; exact lim_dg hl b i
 have ra : ∀ i, da i < 18446744073709551616 := fun i => by rw [hda]; exact dg_lt a i
 have rb : ∀ i, db i < 18446744073709551616 := fun i => by rw [hdb]; exact dg_lt b i
 obtain ⟨E, hE⟩ : ∃ E : Nat → Nat → Nat, E = fun i k => a % 18446744073709551616 ^ i * b + da i * 18446744073709551616 ^ i * (b % 18446744073709551616 ^ k) := ⟨_, rfl⟩
 have hE1 : ∀ i k, E i (k + 1) = E i k + da i * db k * 18446744073709551616 ^ (i + k) := by
   intro i k
   rw [hE, hdb]
   show a % 18446744073709551616 ^ i * b + da i * 18446744073709551616 ^ i * (b % 18446744073709551616 ^ (k + 1)) = a % 18446744073709551616 ^ i * b + da i * 18446744073709551616 ^ i * (b % 18446744073709551616 ^ k) + da i * (b / 18446744073709551616 ^ k % 18446744073709551616) * 18446744073709551616 ^ (i + k)
   rw [Nat.mod_pow_succ, Nat.mul_add, Nat.pow_add]
   have : da i * 18446744073709551616 ^ i * (18446744073709551616 ^ k * (b / 18446744073709551616 ^ k % 18446744073709551616)) = da i * (b / 18446744073709551616 ^ k % 18446744073709551616) * (18446744073709551616 ^ i * 18446744073709551616 ^ k) := by ac_rfl
   omega
 have hE0 : ∀ i, E i 0 = a % 18446744073709551616 ^ i * b := by
   intro i
   rw [hE]
   show a % 18446744073709551616 ^ i * b + da i * 18446744073709551616 ^ i * (b % 18446744073709551616 ^ 0) = _
   rw [Nat.pow_zero, Nat.mod_one, Nat.mul_zero, Nat.add_zero]
 have hEn : ∀ i, E i 4 = a % 18446744073709551616 ^ (i + 1) * b := by
   intro i
   rw [hE, hda]
   show a % 18446744073709551616 ^ i * b + a / 18446744073709551616 ^ i % 18446744073709551616 * 18446744073709551616 ^ i * (b % 18446744073709551616 ^ 4) = _
   have e : a % 18446744073709551616 ^ (i + 1) = a % 18446744073709551616 ^ i + 18446744073709551616 ^ i * (a / 18446744073709551616 ^ i % 18446744073709551616) := Nat.mod_pow_succ
   rw [e, Nat.add_mul, Nat.mod_eq_of_lt (a := b) (by rw [← pow_W]; exact hb), Nat.mul_comm (18446744073709551616 ^ i)]
 have hfin : a % 18446744073709551616 ^ 4 * b = a * b := by rw [Nat.mod_eq_of_lt]; rw [← pow_W]; exact ha
 clear hE hda hdb
 have hhalf : ∀ i k, ∃ hi lo : Nat, lo + 18446744073709551616 * hi = da i * db k ∧ lo < 18446744073709551616 ∧ Sp 228 [.s .u64 (lim a i), .s .u64 (lim b k)] (.tup [.s .u64 hi, .s .u64 lo]) := fun i k =>
   ⟨da i * db k / 18446744073709551616, da i * db k % 18446744073709551616, by omega, by omega, by rw [la, lb]; exact rhalf _ _ _ _ (ra i) (rb k) (by omega) (by omega)⟩
 refine mk Tryz.func223 rfl rfl LN RJ (by decide +kernel) ?_
 intro A S hA hS
 unfold bodyOf Tryz.f223
 cbv
 refine .inv (α := Nat × (Nat → Nat)) (fun p => ⟨[.lst false 4 (ws4 lim a), .lst false 4 (ws4 lim b), .any, .any, .any, .osl false 0 0 (2 * 4) 1, .any, .any, .any, .any, .any, .any, .any, .any, .any, .any, .any, .any, .any, .lst false 4 (ws4 lim a), .i .i64 (4 : Nat), .s .i64 (p.1 : Nat), .any, .any, .any, .any, .any, .any, .any, .any, .any, .any, .any, .any, .any, .any, .any, .any, .any, .any, .any, .any, .any, .any, .any, .any, .any, .any, .any, .any, .any, .any, .any, .any, .any, .any, .any, .any, .any, .any, .any, .any, .any, .any, .any, .any, .any, .any, .any, .any, .any, .any, .any, .any, .any, .any, .any, .any, .any, .any, .any, .any],
     [⟨true, true, wo4 p.2⟩]⟩) (fun p => p.1 ≤ 4 ∧ (∀ j, p.2 j < 18446744073709551616) ∧ (∀ j, 4 + p.1 ≤ j → p.2 j = 0) ∧ V p.2 (2 * 4) = a % 18446744073709551616 ^ p.1 * b) (fun p => 4 - p.1) (0, fun _ => 0) ?_
     ⟨Nat.zero_le _, fun _ => (by decide : 0 < 18446744073709551616), fun _ _ => rfl, by rw [V_zero (fun _ _ => rfl), Nat.pow_zero, Nat.mod_one, Nat.zero_mul]⟩ ?_
 . cbv
   repeat' (first | exact rfl | exact trivial | constructor)
 rintro ⟨i, o⟩ ⟨h1, h2, h3, h4⟩
 dsimp only at h1 h2 h3 h4 ⊢
 by_cases hi : i < 4
 . have key : ∀ (K : List Nat), True := fun _ => trivial
   have hin := hE0 i
   rw [← h4] at hin
   have hEi := hE1 i
   have hEe := hEn i
   have hih := hhalf i
   have hai := la i
   have hri := ra i
   have hle : i + 1 ≤ 4 := hi
   have hmu : 4 - (i + 1) < 4 - i := by omega
   have hend : ∀ (p : Nat × (Nat → Nat) × Nat), V p.2.1 (2 * 4) + p.2.2 * 18446744073709551616 ^ (i + 4) = E i 4 → (∀ j, 4 + i ≤ j → p.2.1 j = 0) → V (upd p.2.1 (i + 4) p.2.2) (2 * 4) = a % 18446744073709551616 ^ (i + 1) * b := by
     intro p e1 e2
     have := V_upd p.2.1 (i + 4) p.2.2 (2 * 4) (by omega)
     rw [e2 _ (by omega), Nat.zero_mul, Nat.add_zero] at this
     rw [this, ← hEe, ← e1]
   have step : ∀ (o : Nat → Nat) (k Z c v : Nat) (E0 : Nat), k < 4 → Z < 18446744073709551616 → (∀ j, o j < 18446744073709551616) → (∀ j, 4 + i ≤ j → o j = 0) → V o (2 * 4) + c * 18446744073709551616 ^ (i + k) = E i k → Z + 18446744073709551616 * v = da i * db k + o (i + k) + c →
       ∃ o2 : Nat → Nat, o2 (i + k) = Z ∧ (∀ j, j ≠ i + k → o2 j = o j) ∧ (∀ j, o2 j < 18446744073709551616) ∧ (∀ j, 4 + i ≤ j → o2 j = 0) ∧ V o2 (2 * 4) + v * 18446744073709551616 ^ (i + (k + 1)) = E i (k + 1) := by
     intro o k Z c v _ hk hZ g1 g2 g3 g4
     refine ⟨upd o (i + k) Z, upd_eq _ _ _, fun j hj => upd_ne _ _ _ _ hj, fun j => ?_, fun j hj => ?_, ?_⟩
     . by_cases e : j = i + k
       . rw [e, upd_eq]; exact hZ
       . rw [upd_ne _ _ _ _ e]; exact g1 j
     . rw [upd_ne _ _ _ _ (by omega)]; exact g2 j hj
     . have hu := V_upd o (i + k) Z (2 * 4) (by omega)
       rw [hEi k, ← Nat.add_assoc, Nat.pow_succ]
       exact mac_num hu g4 g3
   have hcmp : A.cmp .lss ((i : Nat) : Int) ((4 : Nat) : Int) = true := (i_lt hA).trans (decide_eq_true (by omega))
   have hrow := (rowx4 lim a).2 i hi
   have hrowb := fun k hk => (rowx4 lim b).2 k hk
   have hnext : A.bin .add .i64 ((i : Nat) : Int) 1 = ((i + 1 : Nat) : Int) := e_add hA rfl rfl (by omega) (by omega)
   have hie : A.bin .add .i64 ((i : Nat) : Int) ((4 : Nat) : Int) = ((i + 4 : Nat) : Int) := e_add hA rfl rfl (by omega) (by omega)
   cbv
   refine ABr.t hcmp ?_
   cbv
   refine .sym i rfl hi ?_
   cbv
   refine .mk _ hrow ?_
   cbv
   refine .inv (α := Nat × (Nat → Nat) × Nat) (fun p => ⟨[.lst false 4 (ws4 lim a), .lst false 4 (ws4 lim b), .any, .any, .any, .osl false 0 0 (2 * 4) 1, .s .i64 (i : Nat), .s .u64 (lim a i), .s .u64 (p.2.2 : Nat), .any, .any, .any, .any, .any, .any, .any, .any, .any, .any, .lst false 4 (ws4 lim a), .i .i64 (4 : Nat), .s .i64 (i : Nat), .any, .any, .any, .any, .lst false 4 (ws4 lim b), .i .i64 (4 : Nat), .s .i64 (p.1 : Nat), .any, .any, .any, .any, .any, .any, .any, .any, .any, .any, .any, .any, .any, .any, .any, .any, .any, .any, .any, .any, .any, .any, .any, .any, .any, .any, .any, .any, .any, .any, .any, .any, .any, .any, .any, .any, .any, .any, .any, .any, .any, .any, .any, .any, .any, .any, .any, .any, .any, .any, .any, .any, .any],
         [⟨true, true, wo4 p.2.1⟩]⟩) (fun p => p.1 ≤ 4 ∧ (∀ j, p.2.1 j < 18446744073709551616) ∧ (∀ j, 4 + i ≤ j → p.2.1 j = 0) ∧ p.2.2 < 18446744073709551616 ∧ V p.2.1 (2 * 4) + p.2.2 * 18446744073709551616 ^ (i + p.1) = E i p.1) (fun p => 4 - p.1) (0, o, 0) ?_
         ⟨Nat.zero_le _, h2, h3, (by decide : 0 < 18446744073709551616), by rw [Nat.zero_mul, Nat.add_zero]; exact hin.symm⟩ ?_
   . cbv
     repeat' (first | exact rfl | exact trivial | constructor)
   rintro ⟨k, o, c⟩ ⟨g1, g2, g3, g4, g5⟩
   dsimp only at g1 g2 g3 g4 g5 ⊢
   by_cases hk : k < 4
   . obtain ⟨hi', lo', u1, u2, u3⟩ := hih k
     obtain ⟨v1, v2, Z, p1, q1, p2, q2, eZ, eq, rv, rZ⟩ := macj hA hri (rb k) (g2 (i + k)) g4 u1 u2
     obtain ⟨o2, w1, w2, w3, w4, w5⟩ := step o k Z c v2 0 hk rZ g2 g3 g5 eq
     have hlek : k + 1 ≤ 4 := hk
     have hmuk : 4 - (k + 1) < 4 - k := by omega
     rw [← w1] at eZ
     have hik : i + k < 2 * 4 := by omega
     have hcmpk : A.cmp .lss ((k : Nat) : Int) ((4 : Nat) : Int) = true := (i_lt hA).trans (decide_eq_true (by omega))
     have hadd : A.bin .add .i64 ((i : Nat) : Int) ((k : Nat) : Int) = ((i + k : Nat) : Int) := e_add hA rfl rfl (by omega) (by omega)
     have hnextk : A.bin .add .i64 ((k : Nat) : Int) 1 = ((k + 1 : Nat) : Int) := e_add hA rfl rfl (by omega) (by omega)
     have hrowk := hrowb k hk
     have hgetk := wo_get4 hA o (i + k) hik
     have hputk := wo_put4 hA o o2 (i + k) hik eZ w2
     clear w1 w2 eZ eq step hend
     generalize i + k = ik at *
     generalize k + 1 = k1 at *
     cbv
     refine ABr.t hcmpk ?_
     cbv
     refine .sym k rfl hk ?_
     cbv
     refine .mk _ hrowk ?_
     cbv
     refine aF hS u3 ?_
     cbv
     refine .sym ik hadd hik ?_
     cbv
     refine .mk _ hgetk ?_
     cbv
     refine .sym ik hadd hik ?_
     cbv
     refine .mk _ hgetk ?_
     cbv
     refine AJ.mk _ p1 q1 ?_
     cbv
     refine AJ.mk _ p2 q2 ?_
     cbv
     refine .sym ik hadd hik ?_
     cbv
     refine .mk _ hputk ?_
     cbv
     refine ⟨(k1, o2, v2), ?_, ⟨hlek, w3, w4, rv, w5⟩, hmuk⟩
     cbv
     repeat' (first | exact hnextk | exact trivial | exact rfl | constructor)
   . obtain rfl : k = 4 := by omega
     have hV := hend (0, o, c) g5 g3
     obtain ⟨o2, ho2⟩ : ∃ o2, o2 = upd o (i + 4) c := ⟨_, rfl⟩
     have w1 : o2 (i + 4) = c := by rw [ho2]; exact upd_eq _ _ _
     have w2 : ∀ j, j ≠ i + 4 → o2 j = o j := fun j hj => by rw [ho2]; exact upd_ne _ _ _ _ hj
     have w3 : ∀ j, o2 j < 18446744073709551616 := fun j => by
       by_cases e : j = i + 4
       . rw [e, w1]; exact g4
       . rw [w2 j e]; exact g2 j
     have w4 : ∀ j, 4 + (i + 1) ≤ j → o2 j = 0 := fun j hj => by rw [w2 j (by omega)]; exact g3 j (by omega)
     dsimp only at hV
     rw [← ho2] at hV
     have hin2 : i + 4 < 2 * 4 := by omega
     have hput := wo_put4 hA o o2 (i + 4) hin2 (congrArg Int.ofNat w1.symm) w2
     have hcmpk : A.cmp .lss ((4 : Nat) : Int) ((4 : Nat) : Int) = false := (i_lt hA).trans (decide_eq_false (by omega))
     clear ho2 step hend w1 w2
     generalize i + 4 = ik at *
     generalize i + 1 = i1 at *
     cbv
     refine ABr.f hcmpk ?_
     cbv
     refine .sym ik hie hin2 ?_
     cbv
     refine .mk _ hput ?_
     cbv
     refine ⟨(i1, o2), ?_, ⟨hle, w3, w4, hV⟩, hmu⟩
     cbv
     repeat' (first | exact hnext | exact trivial | exact rfl | constructor)
 . obtain rfl : i = 4 := by omega
   rw [hfin] at h4
   have hd : ∀ j, j < 2 * 4 → (o j : Int) = lim (a * b) j := fun j hj => by rw [hl, ← h4]; exact (limR_V (fun j _ => h2 j) hj).symm
   have hcmp : A.cmp .lss ((4 : Nat) : Int) ((4 : Nat) : Int) = false := (i_lt hA).trans (decide_eq_false (by omega))
   cbv
   refine ABr.f hcmp ?_
   cbv
   exact ⟨hd 0 (by decide), hd 1 (by decide), hd 2 (by decide), hd 3 (by decide), hd 4 (by decide), hd 5 (by decide), hd 6 (by decide), hd 7 (by decide)⟩
abbrev wo6 (o : Nat → Nat) : List AVal := [.s .u64 ((o 0 : Nat) : Int), .s .u64 ((o 1 : Nat) : Int), .s .u64 ((o 2 : Nat) : Int), .s .u64 ((o 3 : Nat) : Int), .s .u64 ((o 4 : Nat) : Int), .s .u64 ((o 5 : Nat) : Int), .s .u64 ((o 6 : Nat) : Int), .s .u64 ((o 7 : Nat) : Int), .s .u64 ((o 8 : Nat) : Int), .s .u64 ((o 9 : Nat) : Int), .s .u64 ((o 10 : Nat) : Int), .s .u64 ((o 11 : Nat) : Int)]
theorem rowx6 (lim : Lim) (a : Nat) : IsRow (ws6 lim a) (lim a) 6 := by
 refine ⟨rfl, fun i hi => ?_⟩
 rcases (by omega : i = 0 ∨ i = 1 ∨ i = 2 ∨ i = 3 ∨ i = 4 ∨ i = 5) with rfl | rfl | rfl | rfl | rfl | rfl
 all_goals rfl
theorem wo_get6 {A : Ar} (hA : A = Ar.real) (o : Nat → Nat) (j : Nat) (hj : j < 2 * 6) : lsub (wo6 o) (A.offs 0 j 1) 1 = some [.s .u64 ((o j : Nat) : Int)] := by
 subst hA
 rcases (by omega : j = 0 ∨ j = 1 ∨ j = 2 ∨ j = 3 ∨ j = 4 ∨ j = 5 ∨ j = 6 ∨ j = 7 ∨ j = 8 ∨ j = 9 ∨ j = 10 ∨ j = 11) with rfl | rfl | rfl | rfl | rfl | rfl | rfl | rfl | rfl | rfl | rfl | rfl
 all_goals rfl
theorem wo_put6 {A : Ar} (hA : A = Ar.real) (o o2 : Nat → Nat) (j : Nat) (hj : j < 2 * 6) {x : Int} (hx : x = (o2 j : Nat)) (h : ∀ m, m ≠ j → o2 m = o m) : lput (wo6 o) (A.offs 0 j 1) [.s .u64 x] = some (wo6 o2) := by
 subst hA
 subst hx
 have h0 := h 0
 have h1 := h 1
 have h2 := h 2
 have h3 := h 3
 have h4 := h 4
 have h5 := h 5
 have h6 := h 6
 have h7 := h 7
 have h8 := h 8
 have h9 := h 9
 have h10 := h 10
 have h11 := h 11
 clear h
 rcases (by omega : j = 0 ∨ j = 1 ∨ j = 2 ∨ j = 3 ∨ j = 4 ∨ j = 5 ∨ j = 6 ∨ j = 7 ∨ j = 8 ∨ j = 9 ∨ j = 10 ∨ j = 11) with rfl | rfl | rfl | rfl | rfl | rfl | rfl | rfl | rfl | rfl | rfl | rfl
 all_goals
   unfold wo6
   try rw [h0 (by decide)]
   try rw [h1 (by decide)]
   try rw [h2 (by decide)]
   try rw [h3 (by decide)]
   try rw [h4 (by decide)]
   try rw [h5 (by decide)]
   try rw [h6 (by decide)]
   try rw [h7 (by decide)]
   try rw [h8 (by decide)]
   try rw [h9 (by decide)]
   try rw [h10 (by decide)]
   try rw [h11 (by decide)]
   rfl
theorem rMul6 {lim : Lim} (hl : lim = limR) (a b : Nat) (ha : a < 2 ^ 384) (hb : b < 2 ^ 384) :
   Sp 223 [.lst false 6 (ws6 lim a), .lst false 6 (ws6 lim b)] (.new false (2 * 6) 1 [.s .u64 (lim (a * b) 0), .s .u64 (lim (a * b) 1), .s .u64 (lim (a * b) 2), .s .u64 (lim (a * b) 3), .s .u64 (lim (a * b) 4), .s .u64 (lim (a * b) 5), .s .u64 (lim (a * b) 6), .s .u64 (lim (a * b) 7), .s .u64 (lim (a * b) 8), .s .u64 (lim (a * b) 9), .s .u64 (lim (a * b) 10), .s .u64 (lim (a * b) 11)]) := by
 obtain ⟨da, hda⟩ : ∃ d : Nat → Nat, d = dg a := ⟨_, rfl⟩
 obtain ⟨db, hdb⟩ : ∃ d : Nat → Nat, d = dg b := ⟨_, rfl⟩
 have la : ∀ i, lim a i = (da i : Int) := fun i => by rw [hda]; exact lim_dg hl a i
 have lb : ∀ i, lim b i = (db i : Int) := fun i => by rw [hdb]; exact lim_dg hl b i
 have ra : ∀ i, da i < 18446744073709551616 := fun i => by rw [hda]; exact dg_lt a i
 have rb : ∀ i, db i < 18446744073709551616 := fun i => by rw [hdb]; exact dg_lt b i
 obtain ⟨E, hE⟩ : ∃ E : Nat → Nat → Nat, E = fun i k => a % 18446744073709551616 ^ i * b + da i * 18446744073709551616 ^ i * (b % 18446744073709551616 ^ k) := ⟨_, rfl⟩
 have hE1 : ∀ i k, E i (k + 1) = E i k + da i * db k * 18446744073709551616 ^ (i + k) := by
   intro i k
   rw [hE, hdb]
   show a % 18446744073709551616 ^ i * b + da i * 18446744073709551616 ^ i * (b % 18446744073709551616 ^ (k + 1)) = a % 18446744073709551616 ^ i * b + da i * 18446744073709551616 ^ i * (b % 18446744073709551616 ^ k) + da i * (b / 18446744073709551616 ^ k % 18446744073709551616) * 18446744073709551616 ^ (i + k)
   rw [Nat.mod_pow_succ, Nat.mul_add, Nat.pow_add]
   have : da i * 18446744073709551616 ^ i * (18446744073709551616 ^ k * (b / 18446744073709551616 ^ k % 18446744073709551616)) = da i * (b / 18446744073709551616 ^ k % 18446744073709551616) * (18446744073709551616 ^ i * 18446744073709551616 ^ k) := by ac_rfl
   omega
 have hE0 : ∀ i, E i 0 = a % 18446744073709551616 ^ i * b := by
   intro i
   rw [hE]
   show a % 18446744073709551616 ^ i * b + da i * 18446744073709551616 ^ i * (b % 18446744073709551616 ^ 0) = _
   rw [Nat.pow_zero, Nat.mod_one, Nat.mul_zero, Nat.add_zero]
 have hEn : ∀ i, E i 6 = a % 18446744073709551616 ^ (i + 1) * b := by
   intro i
   rw [hE, hda]
   show a % 18446744073709551616 ^ i * b + a / 18446744073709551616 ^ i % 18446744073709551616 * 18446744073709551616 ^ i * (b % 18446744073709551616 ^ 6) = _
   have e : a % 18446744073709551616 ^ (i + 1) = a % 18446744073709551616 ^ i + 18446744073709551616 ^ i * (a / 18446744073709551616 ^ i % 18446744073709551616) := Nat.mod_pow_succ
   rw [e, Nat.add_mul, Nat.mod_eq_of_lt (a := b) (by rw [← pow_W]; exact hb), Nat.mul_comm (18446744073709551616 ^ i)]
 have hfin : a % 18446744073709551616 ^ 6 * b = a * b := by rw [Nat.mod_eq_of_lt]; rw [← pow_W]; exact ha
 clear hE hda hdb
 have hhalf : ∀ i k, ∃ hi lo : Nat, lo + 18446744073709551616 * hi = da i * db k ∧ lo < 18446744073709551616 ∧ Sp 228 [.s .u64 (lim a i), .s .u64 (lim b k)] (.tup [.s .u64 hi, .s .u64 lo]) := fun i k =>
   ⟨da i * db k / 18446744073709551616, da i * db k % 18446744073709551616, by omega, by omega, by rw [la, lb]; exact rhalf _ _ _ _ (ra i) (rb k) (by omega) (by omega)⟩
 refine mk Tryz.func223 rfl rfl LN RJ (by decide +kernel) ?_
 intro A S hA hS
 unfold bodyOf Tryz.f223
 cbv
 refine .inv (α := Nat × (Nat → Nat)) (fun p => ⟨[.lst false 6 (ws6 lim a), .lst false 6 (ws6 lim b), .any, .any, .any, .osl false 0 0 (2 * 6) 1, .any, .any, .any, .any, .any, .any, .any, .any, .any, .any, .any, .any, .any, .lst false 6 (ws6 lim a), .i .i64 (6 : Nat), .s .i64 (p.1 : Nat), .any, .any, .any, .any, .any, .any, .any, .any, .any, .any, .any, .any, .any, .any, .any, .any, .any, .any, .any, .any, .any, .any, .any, .any, .any, .any, .any, .any, .any, .any, .any, .any, .any, .any, .any, .any, .any, .any, .any, .any, .any, .any, .any, .any, .any, .any, .any, .any, .any, .any, .any, .any, .any, .any, .any, .any, .any, .any, .any, .any],
     [⟨true, true, wo6 p.2⟩]⟩) (fun p => p.1 ≤ 6 ∧ (∀ j, p.2 j < 18446744073709551616) ∧ (∀ j, 6 + p.1 ≤ j → p.2 j = 0) ∧ V p.2 (2 * 6) = a % 18446744073709551616 ^ p.1 * b) (fun p => 6 - p.1) (0, fun _ => 0) ?_
     ⟨Nat.zero_le _, fun _ => (by decide : 0 < 18446744073709551616), fun _ _ => rfl, by rw [V_zero (fun _ _ => rfl), Nat.pow_zero, Nat.mod_one, Nat.zero_mul]⟩ ?_
 . cbv
   repeat' (first | exact rfl | exact trivial | constructor)
 rintro ⟨i, o⟩ ⟨h1, h2, h3, h4⟩
 dsimp only at h1 h2 h3 h4 ⊢
 by_cases hi : i < 6
 . have key : ∀ (K : List Nat), True := fun _ => trivial
   have hin := hE0 i
   rw [← h4] at hin
   have hEi := hE1 i
   have hEe := hEn i
   have hih := hhalf i
   have hai := la i
   have hri := ra i
   have hle : i + 1 ≤ 6 := hi
   have hmu : 6 - (i + 1) < 6 - i := by omega
   have hend : ∀ (p : Nat × (Nat → Nat) × Nat), V p.2.1 (2 * 6) + p.2.2 * 18446744073709551616 ^ (i + 6) = E i 6 → (∀ j, 6 + i ≤ j → p.2.1 j = 0) → V (upd p.2.1 (i + 6) p.2.2) (2 * 6) = a % 18446744073709551616 ^ (i + 1) * b := by
     intro p e1 e2
     have := V_upd p.2.1 (i + 6) p.2.2 (2 * 6) (by omega)
     rw [e2 _ (by omega), Nat.zero_mul, Nat.add_zero] at this
     rw [this, ← hEe, ← e1]
   have step : ∀ (o : Nat → Nat) (k Z c v : Nat) (E0 : Nat), k < 6 → Z < 18446744073709551616 → (∀ j, o j < 18446744073709551616) → (∀ j, 6 + i ≤ j → o j = 0) → V o (2 * 6) + c * 18446744073709551616 ^ (i + k) = E i k → Z + 18446744073709551616 * v = da i * db k + o (i + k) + c →
       ∃ o2 : Nat → Nat, o2 (i + k) = Z ∧ (∀ j, j ≠ i + k → o2 j = o j) ∧ (∀ j, o2 j < 18446744073709551616) ∧ (∀ j, 6 + i ≤ j → o2 j = 0) ∧ V o2 (2 * 6) + v * 18446744073709551616 ^ (i + (k + 1)) = E i (k + 1) := by
     intro o k Z c v _ hk hZ g1 g2 g3 g4
     refine ⟨upd o (i + k) Z, upd_eq _ _ _, fun j hj => upd_ne _ _ _ _ hj, fun j => ?_, fun j hj => ?_, ?_⟩
     . by_cases e : j = i + k
       . rw [e, upd_eq]; exact hZ
       . rw [upd_ne _ _ _ _ e]; exact g1 j
     . rw [upd_ne _ _ _ _ (by omega)]; exact g2 j hj
     . have hu := V_upd o (i + k) Z (2 * 6) (by omega)
       rw [hEi k, ← Nat.add_assoc, Nat.pow_succ]
       exact mac_num hu g4 g3
   have hcmp : A.cmp .lss ((i : Nat) : Int) ((6 : Nat) : Int) = true := (i_lt hA).trans (decide_eq_true (by omega))
   have hrow := (rowx6 lim a).2 i hi
   have hrowb := fun k hk => (rowx6 lim b).2 k hk
   have hnext : A.bin .add .i64 ((i : Nat) : Int) 1 = ((i + 1 : Nat) : Int) := e_add hA rfl rfl (by omega) (by omega)
   have hie : A.bin .add .i64 ((i : Nat) : Int) ((6 : Nat) : Int) = ((i + 6 : Nat) : Int) := e_add hA rfl rfl (by omega) (by omega)
   cbv
   refine ABr.t hcmp ?_
   cbv
   refine .sym i rfl hi ?_
   cbv
   refine .mk _ hrow ?_
   cbv
   refine .inv (α := Nat × (Nat → Nat) × Nat) (fun p => ⟨[.lst false 6 (ws6 lim a), .lst false 6 (ws6 lim b), .any, .any, .any, .osl false 0 0 (2 * 6) 1, .s .i64 (i : Nat), .s .u64 (lim a i), .s .u64 (p.2.2 : Nat), .any, .any, .any, .any, .any, .any, .any, .any, .any, .any, .lst false 6 (ws6 lim a), .i .i64 (6 : Nat), .s .i64 (i : Nat), .any, .any, .any, .any, .lst false 6 (ws6 lim b), .i .i64 (6 : Nat), .s .i64 (p.1 : Nat), .any, .any, .any, .any, .any, .any, .any, .any, .any, .any, .any, .any, .any, .any, .any, .any, .any, .any, .any, .any, .any, .any, .any, .any, .any, .any, .any, .any, .any, .any, .any, .any, .any, .any, .any, .any, .any, .any, .any, .any, .any, .any, .any, .any, .any, .any, .any, .any, .any, .any, .any, .any, .any],
         [⟨true, true, wo6 p.2.1⟩]⟩) (fun p => p.1 ≤ 6 ∧ (∀ j, p.2.1 j < 18446744073709551616) ∧ (∀ j, 6 + i ≤ j → p.2.1 j = 0) ∧ p.2.2 < 18446744073709551616 ∧ V p.2.1 (2 * 6) + p.2.2 * 18446744073709551616 ^ (i + p.1) = E i p.1) (fun p => 6 - p.1) (0, o, 0) ?_
         ⟨Nat.zero_le _, h2, h3, (by decide : 0 < 18446744073709551616), by rw [Nat.zero_mul, Nat.add_zero]; exact hin.symm⟩ ?_
   . cbv
     repeat' (first | exact rfl | exact trivial | constructor)
   rintro ⟨k, o, c⟩ ⟨g1, g2, g3, g4, g5⟩
   dsimp only at g1 g2 g3 g4 g5 ⊢
   by_cases hk : k < 6
   . obtain ⟨hi', lo', u1, u2, u3⟩ := hih k
     obtain ⟨v1, v2, Z, p1, q1, p2, q2, eZ, eq, rv, rZ⟩ := macj hA hri (rb k) (g2 (i + k)) g4 u1 u2
     obtain ⟨o2, w1, w2, w3, w4, w5⟩ := step o k Z c v2 0 hk rZ g2 g3 g5 eq
     have hlek : k + 1 ≤ 6 := hk
     have hmuk : 6 - (k + 1) < 6 - k := by omega
     rw [← w1] at eZ
     have hik : i + k < 2 * 6 := by omega
     have hcmpk : A.cmp .lss ((k : Nat) : Int) ((6 : Nat) : Int) = true := (i_lt hA).trans (decide_eq_true (by omega))
     have hadd : A.bin .add .i64 ((i : Nat) : Int) ((k : Nat) : Int) = ((i + k : Nat) : Int) := e_add hA rfl rfl (by omega) (by omega)
     have hnextk : A.bin .add .i64 ((k : Nat) : Int) 1 = ((k + 1 : Nat) : Int) := e_add hA rfl rfl (by omega) (by omega)
     have hrowk := hrowb k hk
     have hgetk := wo_get6 hA o (i + k) hik
     have hputk := wo_put6 hA o o2 (i + k) hik eZ w2
     clear w1 w2 eZ eq step hend
     generalize i + k = ik at *
     generalize k + 1 = k1 at *
     cbv
     refine ABr.t hcmpk ?_
     cbv
     refine .sym k rfl hk ?_
     cbv
     refine .mk _ hrowk ?_
     cbv
     refine aF hS u3 ?_
     cbv
     refine .sym ik hadd hik ?_
     cbv
     refine .mk _ hgetk ?_
     cbv
     refine .sym ik hadd hik ?_
     cbv
     refine .mk _ hgetk ?_
     cbv
     refine AJ.mk _ p1 q1 ?_
     cbv
     refine AJ.mk _ p2 q2 ?_
     cbv
     refine .sym ik hadd hik ?_
     cbv
     refine .mk _ hputk ?_
     cbv
     refine ⟨(k1, o2, v2), ?_, ⟨hlek, w3, w4, rv, w5⟩, hmuk⟩
     cbv
     repeat' (first | exact hnextk | exact trivial | exact rfl | constructor)
   . obtain rfl : k = 6 := by omega
     have hV := hend (0, o, c) g5 g3
     obtain ⟨o2, ho2⟩ : ∃ o2, o2 = upd o (i + 6) c := ⟨_, rfl⟩
     have w1 : o2 (i + 6) = c := by rw [ho2]; exact upd_eq _ _ _
     have w2 : ∀ j, j ≠ i + 6 → o2 j = o j := fun j hj => by rw [ho2]; exact upd_ne _ _ _ _ hj
     have w3 : ∀ j, o2 j < 18446744073709551616 := fun j => by
       by_cases e : j = i + 6
       . rw [e, w1]; exact g4
       . rw [w2 j e]; exact g2 j
     have w4 : ∀ j, 6 + (i + 1) ≤ j → o2 j = 0 := fun j hj => by rw [w2 j (by omega)]; exact g3 j (by omega)
     dsimp only at hV
     rw [← ho2] at hV
     have hin2 : i + 6 < 2 * 6 := by omega
     have hput := wo_put6 hA o o2 (i + 6) hin2 (congrArg Int.ofNat w1.symm) w2
     have hcmpk : A.cmp .lss ((6 : Nat) : Int) ((6 : Nat) : Int) = false := (i_lt hA).trans (decide_eq_false (by omega))
     clear ho2 step hend w1 w2
     generalize i + 6 = ik at *
     generalize i + 1 = i1 at *
     cbv
     refine ABr.f hcmpk ?_
     cbv
     refine .sym ik hie hin2 ?_
     cbv
     refine .mk _ hput ?_
     cbv
     refine ⟨(i1, o2), ?_, ⟨hle, w3, w4, hV⟩, hmu⟩
     cbv
     repeat' (first | exact hnext | exact trivial | exact rfl | constructor)
 . obtain rfl : i = 6 := by omega
   rw [hfin] at h4
   have hd : ∀ j, j < 2 * 6 → (o j : Int) = lim (a * b) j := fun j hj => by rw [hl, ← h4]; exact (limR_V (fun j _ => h2 j) hj).symm
   have hcmp : A.cmp .lss ((6 : Nat) : Int) ((6 : Nat) : Int) = false := (i_lt hA).trans (decide_eq_false (by omega))
   cbv
   refine ABr.f hcmp ?_
   cbv
   exact ⟨hd 0 (by decide), hd 1 (by decide), hd 2 (by decide), hd 3 (by decide), hd 4 (by decide), hd 5 (by decide), hd 6 (by decide), hd 7 (by decide), hd 8 (by decide), hd 9 (by decide), hd 10 (by decide), hd 11 (by decide)⟩
end Go.Proofs.YtmholgclgamnnaaGreat
end
section
namespace Go.Proofs.YtmholgclgamnnaaGreat
open Go Eng
open Go.ChangeShapes Go.RowKit
theorem slice_val {W : World} {t e : TypeId} {v : Value} {base : Nat} (hu : Tryz.prog.underlying t = some (.slice e)) (h : Value.okWide Tryz.prog W .any base t v) {a : Option Addr} {n c : Nat} (hv : v.cells.toList = [.slice a n c]) : v = .slice a n c := by
 unfold Value.okWide at h
 rw [hu] at h
 have h : Cell.okWide Tryz.prog W .any base t v := h
 unfold Cell.okWide at h
 rw [hu] at h
 have h : Cell.ok Tryz.prog W .any base t v := h
 unfold Cell.ok at h
 rw [hu] at h
 cases v with
 | slice b m c' => simpa [Value.cells] using hv
 | _ => exact h.elim
theorem lsub_one : ∀ (l : List AVal) (i : Nat) (x : AVal), l[i]? = some x → lsub l i 1 = some [x]
 | [], i, x, h => by simp at h
 | y :: l, 0, x, h => by
   simp at h
   subst h
   cases l <;> rfl
 | y :: l, i + 1, x, h => by
   rw [lsub]
   exact lsub_one l i x (by simpa using h)
end Go.Proofs.YtmholgclgamnnaaGreat
end
