import Derived.Test.YtkhipnhdbaahcaaQAP
set_option linter.unusedVariables false
set_option linter.unusedSimpArgs false
set_option linter.unusedSectionVars false
set_option maxRecDepth 100000
set_option exponentiation.threshold 2000
set_option maxHeartbeats 4000000
section
namespace NT
theorem pr_271 : Pr 271 := small (by kernel_rfl)
theorem pr1 : Pr 1627 := cert (l := [(271, 0, 2)]) (by kernel_rfl) (by
 intro r hr
 simp only [List.mem_cons, List.not_mem_nil, or_false] at hr
 rcases hr with rfl
 . exact pr_271)
theorem pr_83 : Pr 83 := small (by kernel_rfl)
theorem pr3 : Pr 2657 := cert (l := [(83, 0, 2)]) (by kernel_rfl) (by
 intro r hr
 simp only [List.mem_cons, List.not_mem_nil, or_false] at hr
 rcases hr with rfl
 . exact pr_83)
theorem pr_2 : Pr 2 := small (by kernel_rfl)
theorem pr_3 : Pr 3 := small (by kernel_rfl)
theorem pr_11 : Pr 11 := small (by kernel_rfl)
theorem pr7 : Pr 4423 := cert (l := [(2, 0, 3), (3, 0, 3), (11, 0, 2)]) (by kernel_rfl) (by
 intro r hr
 simp only [List.mem_cons, List.not_mem_nil, or_false] at hr
 rcases hr with rfl | rfl | rfl
 . exact pr_2
 . exact pr_3
 . exact pr_11)
theorem pr_5 : Pr 5 := small (by kernel_rfl)
theorem pr9 : Pr 41201 := cert (l := [(2, 3, 3), (5, 1, 3)]) (by kernel_rfl) (by
 intro r hr
 simp only [List.mem_cons, List.not_mem_nil, or_false] at hr
 rcases hr with rfl | rfl
 . exact pr_2
 . exact pr_5)
theorem pr_101 : Pr 101 := small (by kernel_rfl)
theorem pr11 : Pr 96557 := cert (l := [(2, 1, 2), (101, 0, 2)]) (by kernel_rfl) (by
 intro r hr
 simp only [List.mem_cons, List.not_mem_nil, or_false] at hr
 rcases hr with rfl | rfl
 . exact pr_2
 . exact pr_101)
theorem pr12 : Pr 255515944373312847190720520512484175977 := cert (l := [(1627, 0, 2), (2657, 0, 2), (4423, 0, 2), (41201, 0, 2), (96557, 0, 2)]) (by kernel_rfl) (by
 intro r hr
 simp only [List.mem_cons, List.not_mem_nil, or_false] at hr
 rcases hr with rfl | rfl | rfl | rfl | rfl
 . exact pr1
 . exact pr3
 . exact pr7
 . exact pr9
 . exact pr11)
theorem pr13 : Pr 205115282021455665897114700593932402728804164701536103180137503955397371 := cert (l := [(255515944373312847190720520512484175977, 0, 2)]) (by kernel_rfl) (by
 intro r hr
 simp only [List.mem_cons, List.not_mem_nil, or_false] at hr
 rcases hr with rfl
 . exact pr12)
theorem pr14 : Pr 115792089237316195423570985008687907853269984665640564039457584007908834671663 := cert (l := [(205115282021455665897114700593932402728804164701536103180137503955397371, 0, 2)]) (by kernel_rfl) (by
 intro r hr
 simp only [List.mem_cons, List.not_mem_nil, or_false] at hr
 rcases hr with rfl
 . exact pr13)
theorem prime_secpP : Pr 115792089237316195423570985008687907853269984665640564039457584007908834671663 := pr14
theorem pr_631 : Pr 631 := small (by kernel_rfl)
theorem pr16 : Pr 16699 := cert (l := [(3, 0, 3), (11, 1, 2)]) (by kernel_rfl) (by
 intro r hr
 simp only [List.mem_cons, List.not_mem_nil, or_false] at hr
 rcases hr with rfl | rfl
 . exact pr_3
 . exact pr_11)
theorem pr17 : Pr 2861 := cert (l := [(5, 0, 2), (11, 0, 2)]) (by kernel_rfl) (by
 intro r hr
 simp only [List.mem_cons, List.not_mem_nil, or_false] at hr
 rcases hr with rfl | rfl
 . exact pr_5
 . exact pr_11)
theorem pr18 : Pr 85831 := cert (l := [(2861, 0, 2)]) (by kernel_rfl) (by
 intro r hr
 simp only [List.mem_cons, List.not_mem_nil, or_false] at hr
 rcases hr with rfl
 . exact pr17)
theorem pr19 : Pr 107361793816595537 := cert (l := [(16699, 0, 2), (85831, 0, 2)]) (by kernel_rfl) (by
 intro r hr
 simp only [List.mem_cons, List.not_mem_nil, or_false] at hr
 rcases hr with rfl | rfl
 . exact pr16
 . exact pr18)
theorem pr_59 : Pr 59 := small (by kernel_rfl)
theorem pr21 : Pr 4051 := cert (l := [(3, 3, 3)]) (by kernel_rfl) (by
 intro r hr
 simp only [List.mem_cons, List.not_mem_nil, or_false] at hr
 rcases hr with rfl
 . exact pr_3)
theorem pr_7 : Pr 7 := small (by kernel_rfl)
theorem pr_19 : Pr 19 := small (by kernel_rfl)
theorem pr24 : Pr 120233 := cert (l := [(2, 2, 3), (7, 0, 3), (19, 0, 2)]) (by kernel_rfl) (by
 intro r hr
 simp only [List.mem_cons, List.not_mem_nil, or_false] at hr
 rcases hr with rfl | rfl | rfl
 . exact pr_2
 . exact pr_7
 . exact pr_19)
theorem pr25 : Pr 174723607534414371449 := cert (l := [(59, 0, 2), (4051, 0, 2), (120233, 0, 2)]) (by kernel_rfl) (by
 intro r hr
 simp only [List.mem_cons, List.not_mem_nil, or_false] at hr
 rcases hr with rfl | rfl | rfl
 . exact pr_59
 . exact pr21
 . exact pr24)
theorem pr26 : Pr 115792089237316195423570985008687907852837564279074904382605163141518161494337 := cert (l := [(631, 0, 2), (107361793816595537, 0, 2), (174723607534414371449, 0, 2)]) (by kernel_rfl) (by
 intro r hr
 simp only [List.mem_cons, List.not_mem_nil, or_false] at hr
 rcases hr with rfl | rfl | rfl
 . exact pr_631
 . exact pr19
 . exact pr25)
theorem prime_secpN : Pr 115792089237316195423570985008687907852837564279074904382605163141518161494337 := pr26
theorem pr27 : Pr 1853641 := cert (l := [(2, 2, 7), (3, 1, 2), (19, 0, 2)]) (by kernel_rfl) (by
 intro r hr
 simp only [List.mem_cons, List.not_mem_nil, or_false] at hr
 rcases hr with rfl | rfl | rfl
 . exact pr_2
 . exact pr_3
 . exact pr_19)
theorem pr_17 : Pr 17 := small (by kernel_rfl)
theorem pr_109 : Pr 109 := small (by kernel_rfl)
theorem pr30 : Pr 4562087 := cert (l := [(2, 0, 5), (17, 0, 2), (109, 0, 2)]) (by kernel_rfl) (by
 intro r hr
 simp only [List.mem_cons, List.not_mem_nil, or_false] at hr
 rcases hr with rfl | rfl | rfl
 . exact pr_2
 . exact pr_17
 . exact pr_109)
theorem pr31 : Pr 2221 := cert (l := [(2, 1, 2), (3, 0, 2), (5, 0, 2)]) (by kernel_rfl) (by
 intro r hr
 simp only [List.mem_cons, List.not_mem_nil, or_false] at hr
 rcases hr with rfl | rfl | rfl
 . exact pr_2
 . exact pr_3
 . exact pr_5)
theorem pr32 : Pr 13327 := cert (l := [(2221, 0, 2)]) (by kernel_rfl) (by
 intro r hr
 simp only [List.mem_cons, List.not_mem_nil, or_false] at hr
 rcases hr with rfl
 . exact pr31)
theorem pr33 : Pr 173171039 := cert (l := [(13327, 0, 2)]) (by kernel_rfl) (by
 intro r hr
 simp only [List.mem_cons, List.not_mem_nil, or_false] at hr
 rcases hr with rfl
 . exact pr32)
theorem pr34 : Pr 13427688667394608761327070753331941386769 := cert (l := [(1853641, 0, 2), (4562087, 0, 2), (173171039, 0, 2)]) (by kernel_rfl) (by
 intro r hr
 simp only [List.mem_cons, List.not_mem_nil, or_false] at hr
 rcases hr with rfl | rfl | rfl
 . exact pr27
 . exact pr30
 . exact pr33)
theorem pr35 : Pr 21888242871839275222246405745257275088696311157297823662689037894645226208583 := cert (l := [(13427688667394608761327070753331941386769, 0, 2)]) (by kernel_rfl) (by
 intro r hr
 simp only [List.mem_cons, List.not_mem_nil, or_false] at hr
 rcases hr with rfl
 . exact pr34)
theorem prime_bnP : Pr 21888242871839275222246405745257275088696311157297823662689037894645226208583 := pr35
theorem pr_13 : Pr 13 := small (by kernel_rfl)
theorem pr_29 : Pr 29 := small (by kernel_rfl)
theorem pr_983 : Pr 983 := small (by kernel_rfl)
theorem pr39 : Pr 5501 := cert (l := [(5, 2, 2)]) (by kernel_rfl) (by
 intro r hr
 simp only [List.mem_cons, List.not_mem_nil, or_false] at hr
 rcases hr with rfl
 . exact pr_5)
theorem pr40 : Pr 11003 := cert (l := [(5501, 0, 2)]) (by kernel_rfl) (by
 intro r hr
 simp only [List.mem_cons, List.not_mem_nil, or_false] at hr
 rcases hr with rfl
 . exact pr39)
theorem pr41 : Pr 237073 := cert (l := [(2, 3, 5), (3, 0, 3), (11, 0, 2)]) (by kernel_rfl) (by
 intro r hr
 simp only [List.mem_cons, List.not_mem_nil, or_false] at hr
 rcases hr with rfl | rfl | rfl
 . exact pr_2
 . exact pr_3
 . exact pr_11)
theorem pr42 : Pr 3691 := cert (l := [(2, 0, 2), (3, 1, 2), (5, 0, 2)]) (by kernel_rfl) (by
 intro r hr
 simp only [List.mem_cons, List.not_mem_nil, or_false] at hr
 rcases hr with rfl | rfl | rfl
 . exact pr_2
 . exact pr_3
 . exact pr_5)
theorem pr43 : Pr 405928799 := cert (l := [(11, 0, 2), (3691, 0, 2)]) (by kernel_rfl) (by
 intro r hr
 simp only [List.mem_cons, List.not_mem_nil, or_false] at hr
 rcases hr with rfl | rfl
 . exact pr_11
 . exact pr42)
theorem pr_661 : Pr 661 := small (by kernel_rfl)
theorem pr45 : Pr 12048837557 := cert (l := [(2, 1, 2), (7, 1, 2), (661, 0, 2)]) (by kernel_rfl) (by
 intro r hr
 simp only [List.mem_cons, List.not_mem_nil, or_false] at hr
 rcases hr with rfl | rfl | rfl
 . exact pr_2
 . exact pr_7
 . exact pr_661)
theorem pr46 : Pr 5156902474397 := cert (l := [(12048837557, 0, 2)]) (by kernel_rfl) (by
 intro r hr
 simp only [List.mem_cons, List.not_mem_nil, or_false] at hr
 rcases hr with rfl
 . exact pr45)
theorem pr47 : Pr 1670836401704629 := cert (l := [(5156902474397, 0, 2)]) (by kernel_rfl) (by
 intro r hr
 simp only [List.mem_cons, List.not_mem_nil, or_false] at hr
 rcases hr with rfl
 . exact pr46)
theorem pr48 : Pr 21888242871839275222246405745257275088548364400416034343698204186575808495617 := cert (l := [(13, 0, 5), (29, 0, 2), (983, 0, 2), (11003, 0, 2), (237073, 0, 2), (405928799, 0, 2), (1670836401704629, 0, 2)]) (by kernel_rfl) (by
 intro r hr
 simp only [List.mem_cons, List.not_mem_nil, or_false] at hr
 rcases hr with rfl | rfl | rfl | rfl | rfl | rfl | rfl
 . exact pr_13
 . exact pr_29
 . exact pr_983
 . exact pr40
 . exact pr41
 . exact pr43
 . exact pr47)
theorem prime_bnR : Pr 21888242871839275222246405745257275088548364400416034343698204186575808495617 := pr48
theorem pr49 : Pr 10177 := cert (l := [(2, 5, 5), (3, 0, 2)]) (by kernel_rfl) (by
 intro r hr
 simp only [List.mem_cons, List.not_mem_nil, or_false] at hr
 rcases hr with rfl | rfl
 . exact pr_2
 . exact pr_3)
theorem pr_523 : Pr 523 := small (by kernel_rfl)
theorem pr51 : Pr 20921 := cert (l := [(523, 0, 2)]) (by kernel_rfl) (by
 intro r hr
 simp only [List.mem_cons, List.not_mem_nil, or_false] at hr
 rcases hr with rfl
 . exact pr_523)
theorem pr52 : Pr 125527 := cert (l := [(20921, 0, 2)]) (by kernel_rfl) (by
 intro r hr
 simp only [List.mem_cons, List.not_mem_nil, or_false] at hr
 rcases hr with rfl
 . exact pr51)
theorem pr53 : Pr 47737 := cert (l := [(3, 2, 3), (13, 0, 2)]) (by kernel_rfl) (by
 intro r hr
 simp only [List.mem_cons, List.not_mem_nil, or_false] at hr
 rcases hr with rfl | rfl
 . exact pr_3
 . exact pr_13)
theorem pr54 : Pr 859267 := cert (l := [(47737, 0, 2)]) (by kernel_rfl) (by
 intro r hr
 simp only [List.mem_cons, List.not_mem_nil, or_false] at hr
 rcases hr with rfl
 . exact pr53)
theorem pr_73 : Pr 73 := small (by kernel_rfl)
theorem pr56 : Pr 1607 := cert (l := [(73, 0, 2)]) (by kernel_rfl) (by
 intro r hr
 simp only [List.mem_cons, List.not_mem_nil, or_false] at hr
 rcases hr with rfl
 . exact pr_73)
theorem pr57 : Pr 906349 := cert (l := [(1607, 0, 2)]) (by kernel_rfl) (by
 intro r hr
 simp only [List.mem_cons, List.not_mem_nil, or_false] at hr
 rcases hr with rfl
 . exact pr56)
theorem pr58 : Pr 52435875175126190479447740508185965837690552500527637822603658699938581184513 := cert (l := [(2, 31, 5), (11, 0, 2), (19, 0, 2), (10177, 0, 2), (125527, 0, 2), (859267, 0, 2), (906349, 1, 2)]) (by kernel_rfl) (by
 intro r hr
 simp only [List.mem_cons, List.not_mem_nil, or_false] at hr
 rcases hr with rfl | rfl | rfl | rfl | rfl | rfl | rfl
 . exact pr_2
 . exact pr_11
 . exact pr_19
 . exact pr49
 . exact pr52
 . exact pr54
 . exact pr57)
theorem prime_blsR : Pr 52435875175126190479447740508185965837690552500527637822603658699938581184513 := pr58
end NT
end
section
namespace Go.Proofs.Ytkhipnhdbaahcaa
open Go Eng
def R34 : Nat → Md := fun r => match r with | 3 => .res [14] | 4 => .res [] | _ => .mid
theorem add_cancel {p q u m : Nat} (h : (p + u) % m = (q + u) % m) : p % m = q % m := by
 have h1 : ((p : Int) + u) % m = ((q : Int) + u) % m := by
   have := congrArg (fun n : Nat => (n : Int)) h
   simpa using this
 have h2 : (p : Int) % m = (q : Int) % m := by
   have := Int.emod_emod_of_dvd
   rw [Int.emod_eq_emod_iff_emod_sub_eq_zero] at h1 ⊢
   rwa [show (p : Int) + u - (q + u) = p - q by omega] at h1
 have h3 : ((p % m : Nat) : Int) = ((q % m : Nat) : Int) := by simpa using h2
 omega
structure GI (m a u v x y : Nat) : Prop where
 u0 : 0 < u
 v0 : 0 < v
 um : u ≤ m
 vm : v ≤ m
 xm : x < m
 ym : y < m
 ux : a * x % m = u % m
 vy : a * y % m = v % m
 co : Nat.Coprime u v
theorem hv_lt {m x : Nat} (hm : m % 2 = 1) (hx : x < m) : hv m x < m := by
 unfold hv
 split <;> omega
theorem hv_two {m x : Nat} (hm : m % 2 = 1) : 2 * hv m x % m = x % m := by
 unfold hv
 split
 . rw [show 2 * (x / 2) = x by omega]
 . rw [show 2 * ((x + m) / 2) = x + m by omega, Nat.add_mod_right]
theorem two_coprime {m : Nat} (hm : m % 2 = 1) : Nat.Coprime 2 m := by
 unfold Nat.Coprime
 rw [Nat.gcd_rec, hm]
 rfl
theorem half_step {m a u x : Nat} (hm : m % 2 = 1) (hu : u % 2 = 0) (h : a * x % m = u % m) : a * hv m x % m = u / 2 % m := by
 refine NT.cancel (two_coprime hm) ?_
 rw [Nat.mul_left_comm, Nat.mul_mod, hv_two hm, ← Nat.mul_mod, h, show 2 * (u / 2) = u by omega]
theorem sub_step {m a u v x y : Nat} (hx : x < m) (huv : u ≤ v) (h1 : a * x % m = u % m) (h2 : a * y % m = v % m) : a * ((y + m - x) % m) % m = (v - u) % m := by
 refine add_cancel (u := u) ?_
 rw [Nat.sub_add_cancel huv, Nat.add_mod, ← h1, ← Nat.add_mod, ← Nat.mul_add, Nat.mul_mod, Nat.mod_add_mod, Nat.sub_add_cancel (by omega), Nat.add_mod_right, ← Nat.mul_mod, h2]
theorem GI.start {m a : Nat} (hm : 1 < m) (ha : 0 < a) (ham : a < m) (hc : Nat.Coprime a m) : GI m a a m 1 0 :=
 ⟨ha, by omega, by omega, by omega, hm, by omega, by rw [Nat.mul_one], by simp, hc⟩
theorem GI.halfU {m a u v x y : Nat} (hm : m % 2 = 1) (h : GI m a u v x y) (hu : u % 2 = 0) : GI m a (u / 2) v (hv m x) y :=
 ⟨by have := h.u0; omega, h.v0, by have := h.um; omega, h.vm, hv_lt hm h.xm, h.ym, half_step hm hu h.ux, h.vy, Nat.Coprime.coprime_dvd_left ⟨2, by omega⟩ h.co⟩
theorem GI.halfV {m a u v x y : Nat} (hm : m % 2 = 1) (h : GI m a u v x y) (hv' : v % 2 = 0) : GI m a u (v / 2) x (hv m y) :=
 ⟨h.u0, by have := h.v0; omega, h.um, by have := h.vm; omega, h.xm, hv_lt hm h.ym, h.ux, half_step hm hv' h.vy, Nat.Coprime.coprime_dvd_right ⟨2, by omega⟩ h.co⟩
theorem GI.subV {m a u v x y : Nat} (h : GI m a u v x y) (huv : u < v) : GI m a u (v - u) x ((y + m - x) % m) :=
 ⟨h.u0, by omega, h.um, by have := h.vm; omega, h.xm, Nat.mod_lt _ (by have := h.xm; omega), h.ux, sub_step h.xm (by omega) h.ux h.vy, by
   have := h.co
   unfold Nat.Coprime at this ⊢
   rw [← this, ← Nat.gcd_sub_self_right (m := u) (n := v) (by omega)]⟩
theorem GI.subU {m a u v x y : Nat} (h : GI m a u v x y) (huv : v < u) : GI m a (u - v) v ((x + m - y) % m) y :=
 ⟨by omega, h.v0, by have := h.um; omega, h.vm, Nat.mod_lt _ (by have := h.xm; omega), h.ym, sub_step h.ym (by omega) h.vy h.ux, h.vy, by
   have := h.co
   unfold Nat.Coprime at this ⊢
   rw [← this, ← Nat.gcd_sub_self_left (m := v) (n := u) (by omega)]⟩
theorem GI.ne {m a u v x y : Nat} (h : GI m a u v x y) (hu : u ≠ 1 ∨ v ≠ 1) : u ≠ v := by
 rintro rfl
 have := h.co
 unfold Nat.Coprime at this
 rw [Nat.gcd_self] at this
 omega
theorem eqsOne4 {A : Ar} (hA : A = Ar.real) {lim : Lim} (hl : lim = limR) {u : Nat} (hu : u < 2 ^ 256) : A.eqs [(.s .u64 (lim u 0), .i .u64 1), (.s .u64 (lim u 1), .i .u64 0), (.s .u64 (lim u 2), .i .u64 0), (.s .u64 (lim u 3), .i .u64 0)] = decide (u = 1) := by
 rw [eqs_real hA]
 simp only [List.all_cons, List.all_nil, leafEq_si, Bool.and_true]
 have e := split4 hl u hu
 have hr := fun i => lim_range hl u i
 have r0 := hr 0
 have r1 := hr 1
 have r2 := hr 2
 have r3 := hr 3
 clear hr
 by_cases h : u = 1
 . rw [decide_eq_true h]
   simp only [Bool.and_eq_true, decide_eq_true_eq]
   refine ⟨?_, ?_, ?_, ?_⟩ <;> omega
 . rw [decide_eq_false h]
   refine Bool.eq_false_iff.2 fun h' => h ?_
   simp only [Bool.and_eq_true, decide_eq_true_eq] at h'
   omega
def gcdSt4 (H : H5) (m a u v x y : Nat) : St := ⟨[.ref (R4 H m) 0, .agg [.s .u64 (H.lim a 0), .s .u64 (H.lim a 1), .s .u64 (H.lim a 2), .s .u64 (H.lim a 3)], .tup [], .own 0 0, .own 1 0, .own 2 0, .own 3 0, .own 4 0, .own 5 0, .own 6 0, .any, .any, .any, .any, .any, .any, .any, .any, .any, .any, .any, .any, .any, .any, .any, .any, .any, .any, .any, .any, .any, .any, .any, .any, .any, .any, .any, .any, .any, .any, .any, .any, .any, .any, .any, .any, .any, .any, .any, .any, .any, .any, .any, .any, .any, .any, .any, .any, .any, .any, .any, .any, .any, .any, .any, .any, .any, .any, .any, .any, .any, .any],
 [⟨true, true, [.s .u64 (H.lim a 0), .s .u64 (H.lim a 1), .s .u64 (H.lim a 2), .s .u64 (H.lim a 3)]⟩, ⟨true, true, [.i .u64 0, .i .u64 0, .i .u64 0, .i .u64 0]⟩, ⟨true, true, [.i .u64 1, .i .u64 0, .i .u64 0, .i .u64 0]⟩, ⟨true, true, [.s .u64 (H.lim u 0), .s .u64 (H.lim u 1), .s .u64 (H.lim u 2), .s .u64 (H.lim u 3)]⟩, ⟨true, true, [.s .u64 (H.lim v 0), .s .u64 (H.lim v 1), .s .u64 (H.lim v 2), .s .u64 (H.lim v 3)]⟩,
  ⟨true, true, [.s .u64 (H.lim x 0), .s .u64 (H.lim x 1), .s .u64 (H.lim x 2), .s .u64 (H.lim x 3)]⟩, ⟨true, true, [.s .u64 (H.lim y 0), .s .u64 (H.lim y 1), .s .u64 (H.lim y 2), .s .u64 (H.lim y 3)]⟩]⟩
theorem gcdS4 {H : H5} (hH : H = H5.real) {m a z : Nat} (hR : Mod 256 m) (ha : 0 < a) (ham : a < m) (hc : Nat.Coprime a m) (hz : z < m) (haz : a * z % m = 1) :
   Sp 77 [.ref (R4 H m) 0, u4 H.lim a] (u4 H.lim z) := by
 have hl := H5.hlim hH
 have hlim := hR.lt
 have h1m := hR.one
 have hodd := hR.odd
 have uniq : ∀ w, w < m → a * w % m = 1 → w = z := by
   intro w hw h
   have := NT.cancel hc (h.trans haz.symm)
   rwa [Nat.mod_eq_of_lt hw, Nat.mod_eq_of_lt hz] at this
 have l0 : ∀ i, H.lim 0 i = 0 := by intro i; rw [hH]; show ((0 / 2 ^ (64 * i) % 2 ^ 64 : Nat) : Int) = 0; rw [Nat.zero_div]; rfl
 have l10 : H.lim 1 0 = 1 := by rw [hH]; rfl
 have l1s : ∀ i, i < 4 - 1 → H.lim 1 (i + 1) = 0 := by
   intro i hi; rw [hH]; show ((1 / 2 ^ (64 * (i + 1)) % 2 ^ 64 : Nat) : Int) = 0
   rw [Nat.div_eq_of_lt (Nat.one_lt_two_pow (by omega))]; rfl
 refine mk Try.func77 rfl rfl LN R34 (by decide +kernel) fun A S hA hS => ?_
 unfold bodyOf Try.f77
 cbv
 refine aF hS none4S ?_
 cbv
 refine .inv (α := Nat × Nat × Nat × Nat) (fun p => gcdSt4 H m a p.1 p.2.1 p.2.2.1 p.2.2.2) (fun p => GI m a p.1 p.2.1 p.2.2.1 p.2.2.2) (fun p => p.1 + p.2.1) (a, m, 1, 0) ?_ (GI.start h1m ha ham hc) ?_
 . cbv
   repeat' (first | exact (l0 _).symm | exact l10.symm | exact (l1s _ (by omega)).symm | constructor)
 rintro ⟨u, v, x, y⟩ hG
 dsimp only at hG ⊢
 have hun : u < 2 ^ 256 := Nat.lt_of_le_of_lt hG.um hlim
 have hvn : v < 2 ^ 256 := Nat.lt_of_le_of_lt hG.vm hlim
 have eu := eqsOne4 hA hl hun
 have ev' := eqsOne4 hA hl hvn
 by_cases hu1 : u = 1
 . obtain rfl : x = z := uniq x hG.xm (hG.ux.trans (by rw [hu1, Nat.mod_eq_of_lt h1m]))
   rw [decide_eq_true hu1] at eu
   have nu := (a_not hA (A.eqs [(.s .u64 (H.lim u 0), .i .u64 1), (.s .u64 (H.lim u 1), .i .u64 0), (.s .u64 (H.lim u 2), .i .u64 0), (.s .u64 (H.lim u 3), .i .u64 0)])).trans (by rw [eu]; rfl : _ = false)
   cbv
   repeat ((first | refine ABr.f (by assumption) ?_ | refine ABr.t (by assumption) ?_); cbv)
 rw [decide_eq_false hu1] at eu
 have nu := (a_not hA (A.eqs [(.s .u64 (H.lim u 0), .i .u64 1), (.s .u64 (H.lim u 1), .i .u64 0), (.s .u64 (H.lim u 2), .i .u64 0), (.s .u64 (H.lim u 3), .i .u64 0)])).trans (by rw [eu]; rfl : _ = true)
 by_cases hv1 : v = 1
 . obtain rfl : y = z := uniq y hG.ym (hG.vy.trans (by rw [hv1, Nat.mod_eq_of_lt h1m]))
   rw [decide_eq_true hv1] at ev'
   have nv := (a_not hA (A.eqs [(.s .u64 (H.lim v 0), .i .u64 1), (.s .u64 (H.lim v 1), .i .u64 0), (.s .u64 (H.lim v 2), .i .u64 0), (.s .u64 (H.lim v 3), .i .u64 0)])).trans (by rw [ev']; rfl : _ = false)
   cbv
   repeat ((first | refine ABr.f (by assumption) ?_ | refine ABr.t (by assumption) ?_); cbv)
 rw [decide_eq_false hv1] at ev'
 have nv := (a_not hA (A.eqs [(.s .u64 (H.lim v 0), .i .u64 1), (.s .u64 (H.lim v 1), .i .u64 0), (.s .u64 (H.lim v 2), .i .u64 0), (.s .u64 (H.lim v 3), .i .u64 0)])).trans (by rw [ev']; rfl : _ = true)
 have hstart : GI m a u v x y ∧ u ≤ u ∧ (u = u ∨ u % 2 = 0) := ⟨hG, Nat.le_refl _, .inl rfl⟩
 cbv
 repeat ((first | refine ABr.f (by assumption) ?_ | refine ABr.t (by assumption) ?_); cbv)
 clear eu ev' nu nv
 refine .inv (α := Nat × Nat) (fun p => gcdSt4 H m a p.1 v p.2 y) (fun p => GI m a p.1 v p.2 y ∧ p.1 ≤ u ∧ (p.1 = u ∨ u % 2 = 0)) (fun p => p.1) (u, x) (by cbv) hstart ?_
 rintro ⟨u', x'⟩ ⟨hG', hle, hor⟩
 dsimp only at hG' hle hor ⊢
 have ee := even_lim4 hA hl u'
 by_cases he : u' % 2 = 0
 . rw [decide_eq_true he] at ee
   obtain ⟨u2, hu2⟩ : ∃ u2, u2 = u' / 2 := ⟨_, rfl⟩
   obtain ⟨x2, hx2⟩ : ∃ x2, x2 = hv m x' := ⟨_, rfl⟩
   have hP : GI m a u2 v x2 y ∧ u2 ≤ u ∧ (u2 = u ∨ u % 2 = 0) := by
     rw [hu2, hx2]
     exact ⟨hG'.halfU hodd he, by omega, by omega⟩
   have hμ : u2 < u' := by have := hG'.u0; omega
   have c1 := halfS4 hl (a := u') (top := 0) (h := u2) (Nat.lt_of_le_of_lt hG'.um hlim) (by omega) (by rw [hu2]; omega)
   have c2 := halvedS4 hl hR (inv := H.minv m) (H.fast4 m) (H.mf 256 m 1) (H.mf (2 * 256) m 1) x' x2 hG'.xm hx2
   cbv
   refine ABr.t ee ?_
   cbv
   refine ACall.mk _ (cg hS c1 (by cbv)) ?_
   cbv
   refine aF hS c2 ?_
   cbv
   exact ⟨(u2, x2), by cbv, hP, hμ⟩
 rw [decide_eq_false he] at ee
 have hstart2 : GI m a u' v x' y ∧ v ≤ v ∧ (v = v ∨ v % 2 = 0) := ⟨hG', Nat.le_refl _, .inl rfl⟩
 cbv
 refine ABr.f ee ?_
 cbv
 clear ee
 refine .inv (α := Nat × Nat) (fun p => gcdSt4 H m a u' p.1 x' p.2) (fun p => GI m a u' p.1 x' p.2 ∧ p.1 ≤ v ∧ (p.1 = v ∨ v % 2 = 0)) (fun p => p.1) (v, y) (by cbv) hstart2 ?_
 rintro ⟨v', y'⟩ ⟨hG2, hle2, hor2⟩
 dsimp only at hG2 hle2 hor2 ⊢
 have ee := even_lim4 hA hl v'
 by_cases he2 : v' % 2 = 0
 . rw [decide_eq_true he2] at ee
   obtain ⟨v2, hv2⟩ : ∃ v2, v2 = v' / 2 := ⟨_, rfl⟩
   obtain ⟨y2, hy2⟩ : ∃ y2, y2 = hv m y' := ⟨_, rfl⟩
   have hP : GI m a u' v2 x' y2 ∧ v2 ≤ v ∧ (v2 = v ∨ v % 2 = 0) := by
     rw [hv2, hy2]
     exact ⟨hG2.halfV hodd he2, by omega, by omega⟩
   have hμ : v2 < v' := by have := hG2.v0; omega
   have c1 := halfS4 hl (a := v') (top := 0) (h := v2) (Nat.lt_of_le_of_lt hG2.vm hlim) (by omega) (by rw [hv2]; omega)
   have c2 := halvedS4 hl hR (inv := H.minv m) (H.fast4 m) (H.mf 256 m 1) (H.mf (2 * 256) m 1) y' y2 hG2.ym hy2
   cbv
   refine ABr.t ee ?_
   cbv
   refine ACall.mk _ (cg hS c1 (by cbv)) ?_
   cbv
   refine aF hS c2 ?_
   cbv
   exact ⟨(v2, y2), by cbv, hP, hμ⟩
 rw [decide_eq_false he2] at ee
 have hne : u' ≠ v' := by
   refine hG2.ne ?_
   refine Classical.byContradiction fun h => ?_
   have e1 : u' = 1 := by omega
   have e2 : v' = 1 := by omega
   have := Nat.dvd_gcd (Nat.dvd_of_mod_eq_zero (show u % 2 = 0 by omega)) (Nat.dvd_of_mod_eq_zero (show v % 2 = 0 by omega))
   rw [show Nat.gcd u v = 1 from hG.co] at this
   have := Nat.le_of_dvd (by omega) this
   omega
 have hu'n : u' < 2 ^ 256 := Nat.lt_of_le_of_lt hG2.um hlim
 have hv'n : v' < 2 ^ 256 := Nat.lt_of_le_of_lt hG2.vm hlim
 by_cases hlt : u' < v'
 . obtain ⟨d, hd⟩ : ∃ d, d = v' - u' := ⟨_, rfl⟩
   obtain ⟨y2, hy2⟩ : ∃ y2, y2 = (y' + m - x') % m := ⟨_, rfl⟩
   have hP : GI m a u' d x' y2 := by rw [hd, hy2]; exact hG2.subV hlt
   have hμ : u' + d < u + v := by have := hG2.u0; omega
   have c1 := less4S hl u' v' hu'n hv'n true (decide_eq_true hlt).symm
   have c2 := minus4 hl v' u' d 0 hv'n hu'n (by omega) (by omega)
   have c3 := rlessS4 hl hR (inv := H.minv m) (H.fast4 m) (H.mf 256 m 1) (H.mf (2 * 256) m 1) y' x' y2 hG2.ym hG2.xm hy2
   cbv
   refine ABr.f ee ?_
   cbv
   refine aF hS c1 ?_
   cbv
   refine ABr.t rfl ?_
   cbv
   refine aF hS c2 ?_
   cbv
   refine aF hS c3 ?_
   cbv
   exact ⟨(u', d, x', y2), by cbv, hP, hμ⟩
 . obtain ⟨d, hd⟩ : ∃ d, d = u' - v' := ⟨_, rfl⟩
   obtain ⟨x2, hx2⟩ : ∃ x2, x2 = (x' + m - y') % m := ⟨_, rfl⟩
   have hP : GI m a d v' x2 y' := by rw [hd, hx2]; exact hG2.subU (by omega)
   have hμ : d + v' < u + v := by have := hG2.v0; omega
   have c1 := less4S hl u' v' hu'n hv'n false (decide_eq_false hlt).symm
   have c2 := minus4 hl u' v' d 0 hu'n hv'n (by omega) (by omega)
   have c3 := rlessS4 hl hR (inv := H.minv m) (H.fast4 m) (H.mf 256 m 1) (H.mf (2 * 256) m 1) x' y' x2 hG2.xm hG2.ym hx2
   cbv
   refine ABr.f ee ?_
   cbv
   refine aF hS c1 ?_
   cbv
   refine ABr.f rfl ?_
   cbv
   refine aF hS c2 ?_
   cbv
   refine aF hS c3 ?_
   cbv
   exact ⟨(d, v', x2, y'), by cbv, hP, hμ⟩
def RRoot : Nat → Md := fun r => match r with | 6 => .own | _ => .mid
theorem primes4_pr {m : Nat} (h : m ∈ primes4) : NT.Pr m := by
 simp only [primes4, List.mem_cons, List.not_mem_nil, or_false] at h
 rcases h with rfl | rfl | rfl | rfl | rfl
 . exact NT.prime_secpP
 . exact NT.prime_secpN
 . exact NT.prime_bnP
 . exact NT.prime_bnR
 . exact NT.prime_blsR
theorem pr_coprime {m a : Nat} (hp : NT.Pr m) (h0 : a ≠ 0) (ha : a < m) : Nat.Coprime a m :=
 hp.coprime fun h => by have := Nat.le_of_dvd (by omega) h; omega
theorem inv_mf {m a z b : Nat} (hp : NT.Pr m) (h0 : a ≠ 0) (ha : a < m) (hz : a * 2 ^ b % m * z % m = 1) : z * 2 ^ b % m = a ^ (m - 2) % m := by
 have hc := pr_coprime hp h0 ha
 have h1 := hp.1
 refine NT.cancel hc ?_
 have hf := NT.fermat hp (a := a) (fun h => by have := Nat.le_of_dvd (by omega) h; omega)
 rw [show a * a ^ (m - 2) = a ^ (m - 1) by rw [← Nat.pow_succ']; congr 1; omega, hf, ← hz, Nat.mod_mul_mod]
 congr 1
 simp only [Nat.mul_assoc, Nat.mul_left_comm, Nat.mul_comm]
theorem mf_coprime {m b : Nat} (hm : m % 2 = 1) : Nat.Coprime (2 ^ b) m := Nat.Coprime.pow_left _ (two_coprime hm)
theorem mf_inj {m b x y : Nat} (hm : m % 2 = 1) (hx : x < m) (hy : y < m) (h : x * 2 ^ b % m = y * 2 ^ b % m) : x = y := by
 rw [Nat.mul_comm x, Nat.mul_comm y] at h
 have := NT.cancel (mf_coprime hm) h
 rwa [Nat.mod_eq_of_lt hx, Nat.mod_eq_of_lt hy] at this
theorem limR_quarter (n i : Nat) : limR (n / 4) i = limR n i / 4 + 4611686018427387904 * (limR n (i + 1) % 4) := by
 unfold limR
 obtain ⟨q, hq⟩ : ∃ q, q = n / 2 ^ (64 * i) := ⟨_, rfl⟩
 have h1 : n / 4 / 2 ^ (64 * i) = q / 4 := by rw [hq, Nat.div_div_eq_div_mul, Nat.mul_comm 4, ← Nat.div_div_eq_div_mul]
 have h2 : n / 2 ^ (64 * (i + 1)) = q / 18446744073709551616 := by rw [hq, Nat.div_div_eq_div_mul, show (18446744073709551616 : Nat) = 2 ^ 64 from rfl, ← Nat.pow_add]; rfl
 rw [h1, h2, ← hq]
 omega
theorem quarter_word {A : Ar} (hA : A = Ar.real) {x y : Int} (hx : 0 ≤ x ∧ x < 18446744073709551616) (hy : 0 ≤ y ∧ y < 18446744073709551616) : A.bin .or .u64 (A.bin .shr .u64 x 2) (A.bin .shl .u64 y 62) = x / 4 + 4611686018427387904 * (y % 4) := by
 obtain ⟨a, rfl⟩ : ∃ n : Nat, x = n := ⟨x.toNat, by omega⟩
 obtain ⟨b, rfl⟩ : ∃ n : Nat, y = n := ⟨y.toNat, by omega⟩
 rw [hA]
 show rbin .or .u64 (rbin .shr .u64 (Int.ofNat a) (Int.ofNat 2)) (rbin .shl .u64 (Int.ofNat b) (Int.ofNat 62)) = _
 have e : b * 2 ^ 62 % 18446744073709551616 = 2 ^ 62 * (b % 4) := by omega
 rw [u_shr a 2 (by omega), u_shl _ 62 (by omega), e, u_or_add _ _ 62 (by omega) (by omega) (by omega)]
 show ((a / 2 ^ 2 + 2 ^ 62 * (b % 4) : Nat) : Int) = _
 omega
theorem shr_two {A : Ar} (hA : A = Ar.real) {x : Int} (hx : 0 ≤ x) : A.bin .shr .u64 x 2 = x / 4 := by
 obtain ⟨a, rfl⟩ : ∃ n : Nat, x = n := ⟨x.toNat, by omega⟩
 rw [hA]
 show rbin .shr .u64 (Int.ofNat a) (Int.ofNat 2) = _
 rw [u_shr a 2 (by omega)]
 show ((a / 2 ^ 2 : Nat) : Int) = _
 omega
theorem row4 (lim : Lim) (hl : lim = limR) (e : Nat) : IsRow [.s .u64 (lim e 0), .s .u64 (lim e 1), .s .u64 (lim e 2), .s .u64 (lim e 3)] (limR e) 4 := by
 subst hl
 refine ⟨rfl, fun i hi => ?_⟩
 rcases (by omega : i = 0 ∨ i = 1 ∨ i = 2 ∨ i = 3) with rfl | rfl | rfl | rfl <;> rfl
theorem zeq4 {A : Ar} (hA : A = Ar.real) {lim : Lim} (hl : lim = limR) {x : Nat} (hx : x < 2 ^ 256) : A.eqs [(.s .u64 (lim x 0), .i .u64 0), (.s .u64 (lim x 1), .i .u64 0), (.s .u64 (lim x 2), .i .u64 0), (.s .u64 (lim x 3), .i .u64 0)] = decide (x = 0) := by
 rw [eqs_real hA]
 simp only [List.all_cons, List.all_nil, leafEq_si, Bool.and_true]
 have e := split4 hl x hx
 have hr := fun i => lim_range hl x i
 have r0 := hr 0
 have r1 := hr 1
 have r2 := hr 2
 have r3 := hr 3
 clear hr
 by_cases h : x = 0
 . rw [decide_eq_true h]
   simp only [Bool.and_eq_true, decide_eq_true_eq]
   refine ⟨?_, ?_, ?_, ?_⟩ <;> omega
 . rw [decide_eq_false h]
   refine Bool.eq_false_iff.2 fun h' => h ?_
   simp only [Bool.and_eq_true, decide_eq_true_eq] at h'
   omega
theorem InvS4 {H : H5} (hH : H = H5.real) {m a : Nat} (hR : Mod 256 m) (ha : a < m) : Sp 43 [.ref (R4 H m) 0, el4 H m a] (el4 H m (H.pow m a (m - 2))) := by
 have hl := H5.hlim hH
 have hlim := hR.lt
 have h1m := hR.one
 have hodd := hR.odd
 obtain ⟨x, hx⟩ : ∃ x, x = H.mf 256 m a := ⟨_, rfl⟩
 have hx' : x = a * 2 ^ 256 % m := by rw [hx, hH]; rfl
 have hxm : x < m := by rw [hx']; exact Nat.mod_lt _ hR.pos
 have hx0 : x = 0 ↔ a = 0 := by
   rw [hx']
   constructor
   . intro h; exact mf_inj hodd ha hR.pos (h.trans (by rw [Nat.zero_mul, Nat.zero_mod]))
   . rintro rfl; rw [Nat.zero_mul, Nat.zero_mod]
 obtain ⟨e, he⟩ : ∃ e, e = m - 2 := ⟨_, rfl⟩
 have l20 : H.lim 2 0 = 2 := by rw [hH]; rfl
 have l2s : ∀ i, i < 4 - 1 → H.lim 2 (i + 1) = 0 := by
   intro i hi; rw [hH]; show ((2 / 2 ^ (64 * (i + 1)) % 2 ^ 64 : Nat) : Int) = 0
   rw [Nat.div_eq_of_lt (Nat.lt_of_lt_of_le (show 2 < 2 ^ 2 by decide) (Nat.pow_le_pow_right (by omega) (by omega)))]; rfl
 have c2 := minus4 hl m 2 e 0 hlim (by omega) (by omega) (by omega)
 have c3 := wordsS4 (H := H) e
 have c4 := ExpS4 hH hR ha (row4 H.lim hl e) (by omega) (by omega : e < 2 ^ (64 * 4))
 unfold el4 at c4 ⊢
 rw [← hx] at c4 ⊢
 have hfast : (A : Ar) → A = Ar.real → A.cmp .eql ((H.fast4 m : Nat) : Int) 1 = decide (m ∈ primes4) := by
   intro A hA
   rw [i_eq hA, hH]
   show decide (((if m ∈ primes4 then 1 else 0 : Nat) : Int) = 1) = _
   by_cases h : m ∈ primes4
   . rw [if_pos h, decide_eq_true h]; rfl
   . rw [if_neg h, decide_eq_false h]; rfl
 rw [← he]
 refine mk Try.func43 rfl rfl LN R1 (by decide +kernel) fun A S hA hS => ?_
 have hfast := hfast A hA
 unfold bodyOf Try.f43
 cbv
 refine ACall.mk _ (cf hS (isS4 (H := H) m)) ?_
 cbv
 have c1 := less4S hl x m (Nat.lt_trans hxm hlim) hlim true (decide_eq_true hxm).symm
 have tail : Sp 78 [u4 H.lim m, .agg [.i .u64 2, .i .u64 0, .i .u64 0, .i .u64 0]] (.tup [u4 H.lim e, .s .u64 (0 : Nat)]) := Spec.args c2 (by
   cbv
   repeat' (first | exact l20.symm | exact (l2s _ (by omega)).symm | constructor))
 by_cases hp : m ∈ primes4
 . rw [decide_eq_true hp] at hfast
   have hpr := primes4_pr hp
   have ez := zeq4 hA hl (Nat.lt_trans hxm hlim)
   by_cases h0 : a = 0
   . rw [decide_eq_true (hx0.2 h0)] at ez
     have nz := (a_not hA (A.eqs [(.s .u64 (H.lim x 0), .i .u64 0), (.s .u64 (H.lim x 1), .i .u64 0), (.s .u64 (H.lim x 2), .i .u64 0), (.s .u64 (H.lim x 3), .i .u64 0)])).trans (by rw [ez]; rfl : _ = false)
     repeat ((first | refine ABr.t (by assumption) ?_ | refine ABr.f (by assumption) ?_); cbv)
     refine aF hS c1 ?_
     cbv
     repeat (first | (refine ABr.t (by assumption) ?_; cbv) | (refine ABr.f (by assumption) ?_; cbv) | (refine ABr.t rfl ?_; cbv))
     refine aF hS none4S ?_
     cbv
     repeat (first | (refine ABr.t (by assumption) ?_; cbv) | (refine ABr.f (by assumption) ?_; cbv) | (refine ABr.t rfl ?_; cbv))
     refine aF hS tail ?_
     cbv
     refine aF hS c3 ?_
     cbv
     refine ACall.mk _ (cg hS c4 (by cbv)) ?_
     cbv
   . rw [decide_eq_false (fun h => h0 (hx0.1 h))] at ez
     have nz := (a_not hA (A.eqs [(.s .u64 (H.lim x 0), .i .u64 0), (.s .u64 (H.lim x 1), .i .u64 0), (.s .u64 (H.lim x 2), .i .u64 0), (.s .u64 (H.lim x 3), .i .u64 0)])).trans (by rw [ez]; rfl : _ = true)
     have hxc := pr_coprime hpr (fun h => h0 (hx0.1 h)) hxm
     obtain ⟨z, hzm, hxz⟩ := NT.inv_mod hxc h1m
     have hinv := inv_mf hpr h0 ha (by rw [← hx']; exact hxz)
     obtain ⟨r1, hr1⟩ : ∃ r1, r1 = z * 2 ^ 256 % m := ⟨_, rfl⟩
     obtain ⟨r2, hr2⟩ : ∃ r2, r2 = H.mf 256 m (H.pow m a e) := ⟨_, rfl⟩
     have hr2' : r2 = a ^ e % m * 2 ^ 256 % m := by rw [hr2, hH]; rfl
     obtain ⟨tw, htw⟩ : ∃ tw, tw = H.mf (2 * 256) m 1 := ⟨_, rfl⟩
     have htw' : tw = 2 ^ (2 * 256) % m := by rw [htw, hH]; show 1 * 2 ^ (2 * 256) % m = _; rw [Nat.one_mul]
     have htm : tw < m := by rw [htw']; exact Nat.mod_lt _ hR.pos
     have hr1m : r1 < m := by rw [hr1]; exact Nat.mod_lt _ hR.pos
     have hr2m : r2 < m := by rw [hr2']; exact Nat.mod_lt _ hR.pos
     have g1 := gcdS4 hH hR (by have := hx0.1; omega) hxm hxc hzm hxz
     have g2 := mulS4 hl hR (inv := H.minv m) (by rw [hH]; rfl) (H.fast4 m) (H.mf 256 m 1) tw z tw r1 (Nat.lt_trans hzm hlim) (Nat.lt_trans htm hlim) (.inl hzm) hr1m (by
       rw [hr1, htw', Nat.mul_mod_mod, Nat.mod_mul_mod, Nat.mul_assoc, ← Nat.pow_add])
     have g3 := mulS4 hl hR (inv := H.minv m) (by rw [hH]; rfl) (H.fast4 m) (H.mf 256 m 1) tw r1 tw r2 (Nat.lt_trans hr1m hlim) (Nat.lt_trans htm hlim) (.inl hr1m) hr2m (by
       rw [hr2', htw', hr1, hinv, ← he, Nat.mul_mod_mod, Nat.mod_mul_mod, Nat.mul_assoc, ← Nat.pow_add])
     rw [htw] at g2 g3
     repeat ((first | refine ABr.t (by assumption) ?_ | refine ABr.f (by assumption) ?_); cbv)
     refine aF hS c1 ?_
     cbv
     repeat (first | (refine ABr.t (by assumption) ?_; cbv) | (refine ABr.f (by assumption) ?_; cbv) | (refine ABr.t rfl ?_; cbv))
     refine aF hS none4S ?_
     cbv
     repeat (first | (refine ABr.t (by assumption) ?_; cbv) | (refine ABr.f (by assumption) ?_; cbv) | (refine ABr.t rfl ?_; cbv))
     refine aF hS g1 ?_
     cbv
     refine aF hS g2 ?_
     cbv
     refine aF hS g3 ?_
     rw [hr2]
     cbv
 . rw [decide_eq_false hp] at hfast
   repeat (refine ABr.f hfast ?_; cbv)
   refine aF hS tail ?_
   cbv
   refine aF hS c3 ?_
   cbv
   refine ACall.mk _ (cg hS c4 (by cbv)) ?_
   cbv
theorem lim_app4 {a t : Nat} (ha : a < 2 ^ 256) (ht : t < 2 ^ 64) : (∀ i, i < 4 → limR (a + 2 ^ 256 * t) i = limR a i) ∧ limR (a + 2 ^ 256 * t) 4 = (t : Int) := by
 constructor
 . intro i hi
   unfold limR
   congr 1
   rw [show 2 ^ 256 * t = 2 ^ (64 * i) * (2 ^ 64 * (2 ^ (256 - 64 * i - 64) * t)) by
     rw [← Nat.mul_assoc, ← Nat.mul_assoc, ← Nat.pow_add, ← Nat.pow_add]; congr 2; omega]
   rw [Nat.add_mul_div_left _ _ (Nat.two_pow_pos _), Nat.add_mul_mod_self_left]
 . unfold limR
   congr 1
   show (a + 2 ^ 256 * t) / 2 ^ 256 % 2 ^ 64 = t
   rw [Nat.add_mul_div_left _ _ (Nat.two_pow_pos _), Nat.div_eq_of_lt ha]
   omega
theorem neqs4 {A : Ar} (hA : A = Ar.real) {lim : Lim} (hl : lim = limR) (a b : Nat) (ha : a < 2 ^ 256) (hb : b < 2 ^ 256) : A.not (A.eqs [(.s .u64 (lim a 0), .s .u64 (lim b 0)), (.s .u64 (lim a 1), .s .u64 (lim b 1)), (.s .u64 (lim a 2), .s .u64 (lim b 2)), (.s .u64 (lim a 3), .s .u64 (lim b 3))]) = !decide (a = b) := by
 rw [a_not hA, eqs4 hA hl a b ha hb]
theorem rowl4 (lim : Lim) (hl : lim = limR) (e : Nat) : IsRow [.s .u64 (lim e 0), .s .u64 (lim e 1), .s .u64 (lim e 2), .s .u64 (lim e 3), .s .u64 (lim e 4)] (limR e) (4 + 1) := by
 subst hl
 refine ⟨rfl, fun i hi => ?_⟩
 rcases (by omega : i = 0 ∨ i = 1 ∨ i = 2 ∨ i = 3 ∨ i = 4) with rfl | rfl | rfl | rfl | rfl <;> rfl
theorem RootS4 {H : H5} (hH : H = H5.real) {m a : Nat} (hR : Mod 256 m) (ha : a < m) (r : Nat) (hr : r = H.pow m a ((m + 1) / 4)) :
   (H.mul m r r = a → Sp 70 [.ref (R4 H m) 0, el4 H m a] (.tup [el4 H m r, .b true])) ∧ (H.mul m r r ≠ a → Sp 70 [.ref (R4 H m) 0, el4 H m a] (.tup [u4 H.lim 0, .b false])) := by
 have hl := H5.hlim hH
 have hlim := hR.lt
 have h1m := hR.one
 have hodd := hR.odd
 obtain ⟨e, he⟩ : ∃ e, e = (m + 1) % 2 ^ 256 := ⟨_, rfl⟩
 obtain ⟨c, hc⟩ : ∃ c, c = (m + 1) / 2 ^ 256 := ⟨_, rfl⟩
 obtain ⟨q, hq⟩ : ∃ q, q = (m + 1) / 4 := ⟨_, rfl⟩
 have hN : m + 1 = e + 2 ^ 256 * c := by omega
 have hc1 : c ≤ 1 := by omega
 have he1 : e < 2 ^ 256 := by omega
 obtain ⟨ha1, ha2⟩ := lim_app4 he1 (show c < 2 ^ 64 by omega)
 rw [← hN] at ha1 ha2
 have le := fun i => lim_range hl e i
 have hcr : (0 : Int) ≤ (c : Int) ∧ (c : Int) < 18446744073709551616 := by omega
 rw [← hq] at hr
 have l0 : ∀ i, H.lim 0 i = 0 := by intro i; rw [hH]; show ((0 / 2 ^ (64 * i) % 2 ^ 64 : Nat) : Int) = 0; rw [Nat.zero_div]; rfl
 have l10 : H.lim 1 0 = 1 := by rw [hH]; rfl
 have l1s : ∀ i, i < 4 - 1 → H.lim 1 (i + 1) = 0 := by
   intro i hi; rw [hH]; show ((1 / 2 ^ (64 * (i + 1)) % 2 ^ 64 : Nat) : Int) = 0
   rw [Nat.div_eq_of_lt (Nat.one_lt_two_pow (by omega))]; rfl
 have cp := plus4 hl m 1 e c hlim (by omega) (by omega) he1
 have cp : Sp 98 [u4 H.lim m, .agg [.i .u64 1, .i .u64 0, .i .u64 0, .i .u64 0]] (.tup [u4 H.lim e, .s .u64 c]) := Spec.args cp (by
   cbv
   repeat' (first | exact l10.symm | exact (l1s _ (by omega)).symm | constructor))
 have cw := wordsS4 (H := H) e
 have ce := ExpS4 hH hR ha (rowl4 H.lim hl q) (by omega) (show q < 2 ^ (64 * (4 + 1)) by omega)
 rw [← hr] at ce
 have cm := mulE4 hH hR (a := r) (b := r)
 obtain ⟨s, hs⟩ : ∃ s, s = H.mul m r r := ⟨_, rfl⟩
 rw [← hs] at cm ⊢
 have hsm : s < m := by rw [hs, hH]; exact Nat.mod_lt _ hR.pos
 have hinj : H.mf 256 m s = H.mf 256 m a → s = a := by rw [hH]; exact mf_inj hodd hsm ha
 have hb1 : H.mf 256 m s < 2 ^ 256 := by refine Nat.lt_trans ?_ hlim; rw [hH]; exact mf_lt hR.pos
 have hb2 : H.mf 256 m a < 2 ^ 256 := by refine Nat.lt_trans ?_ hlim; rw [hH]; exact mf_lt hR.pos
 have words : ∀ (A : Ar), A = Ar.real → A.bin .or .u64 (A.bin .shr .u64 (H.lim e 0) 2) (A.bin .shl .u64 (H.lim e 1) 62) = H.lim q 0 ∧ A.bin .or .u64 (A.bin .shr .u64 (H.lim e 1) 2) (A.bin .shl .u64 (H.lim e 2) 62) = H.lim q 1 ∧ A.bin .or .u64 (A.bin .shr .u64 (H.lim e 2) 2) (A.bin .shl .u64 (H.lim e 3) 62) = H.lim q 2 ∧ A.bin .or .u64 (A.bin .shr .u64 (H.lim e 3) 2) (A.bin .shl .u64 (c : Int) 62) = H.lim q 3 ∧ A.bin .shr .u64 (c : Int) 2 = H.lim q 4 := by
   intro A hA
   have hqi : ∀ i, H.lim q i = limR (m + 1) i / 4 + 4611686018427387904 * (limR (m + 1) (i + 1) % 4) := by intro i; rw [hl, hq]; exact limR_quarter _ _
   have htop : limR (m + 1) (4 + 1) = 0 := by
     unfold limR
     rw [Nat.div_eq_of_lt (by omega)]; rfl
   refine ⟨?_, ?_, ?_, ?_, ?_⟩
   . rw [quarter_word hA (le 0) (le 1), hqi, ha1 0 (by omega), ha1 1 (by omega), hl]
   . rw [quarter_word hA (le 1) (le 2), hqi, ha1 1 (by omega), ha1 2 (by omega), hl]
   . rw [quarter_word hA (le 2) (le 3), hqi, ha1 2 (by omega), ha1 3 (by omega), hl]
   . rw [quarter_word hA (le 3) hcr, hqi, ha1 3 (by omega), ha2, hl]
   . rw [shr_two hA hcr.1, hqi, ha2, htop]; rfl
 constructor
 . intro hsa
   refine mk Try.func70 rfl rfl L0 RRoot (by decide +kernel) fun A S hA hS => ?_
   have hw := words A hA
   have hne := (neqs4 hA hl _ _ hb1 hb2).trans (by rw [hsa, decide_eq_true rfl]; rfl : _ = false)
   unfold bodyOf Try.f70
   cbv
   refine ACall.mk _ (cf hS (isS4 (H := H) m)) ?_
   cbv
   refine aF hS cp ?_
   cbv
   refine aF hS cw ?_
   cbv
   refine ACall.mk _ (cg hS ce (by cbv; exact hw)) ?_
   cbv
   refine aF hS cm ?_
   cbv
   refine ABr.f hne ?_
   cbv
 . intro hsa
   refine mk Try.func70 rfl rfl L0 RRoot (by decide +kernel) fun A S hA hS => ?_
   have hw := words A hA
   have hne := (neqs4 hA hl _ _ hb1 hb2).trans (by rw [decide_eq_false (fun h => hsa (hinj h))]; rfl : _ = true)
   unfold bodyOf Try.f70
   cbv
   refine ACall.mk _ (cf hS (isS4 (H := H) m)) ?_
   cbv
   refine aF hS cp ?_
   cbv
   refine aF hS cw ?_
   cbv
   refine ACall.mk _ (cg hS ce (by cbv; exact hw)) ?_
   cbv
   refine aF hS cm ?_
   cbv
   refine ABr.t hne ?_
   cbv
   refine aF hS none4S ?_
   cbv
   repeat' (first | exact (l0 _).symm | constructor)
end Go.Proofs.Ytkhipnhdbaahcaa
end
section
namespace Gp
structure Op (α : Type) where
 add : α → α → α
 sub : α → α → α
 mul : α → α → α
 zero : α
 one : α
structure CR {α : Type} (O : Op α) : Prop where
 add_comm : ∀ a b, O.add a b = O.add b a
 add_assoc : ∀ a b c, O.add (O.add a b) c = O.add a (O.add b c)
 zero_add : ∀ a, O.add O.zero a = a
 sub_add : ∀ a b, O.add (O.sub a b) b = a
 mul_comm : ∀ a b, O.mul a b = O.mul b a
 mul_assoc : ∀ a b c, O.mul (O.mul a b) c = O.mul a (O.mul b c)
 one_mul : ∀ a, O.mul O.one a = a
 mul_add : ∀ a b c, O.mul a (O.add b c) = O.add (O.mul a b) (O.mul a c)
inductive E where
 | v (i : Nat)
 | o
 | a (x y : E)
 | s (x y : E)
 | m (x y : E)
section
variable {α : Type} (O : Op α)
def E.ev (ρ : Nat → α) : E → α
 | .v i => ρ i
 | .o => O.one
 | .a x y => O.add (x.ev ρ) (y.ev ρ)
 | .s x y => O.sub (x.ev ρ) (y.ev ρ)
 | .m x y => O.mul (x.ev ρ) (y.ev ρ)
def quad (f : α) : Op (α × α) := ⟨fun x y => (O.add x.1 y.1, O.add x.2 y.2), fun x y => (O.sub x.1 y.1, O.sub x.2 y.2),
 fun x y => (O.add (O.mul x.1 y.1) (O.mul f (O.mul x.2 y.2)), O.add (O.mul x.1 y.2) (O.mul x.2 y.1)), (O.zero, O.zero), (O.one, O.zero)⟩
end
structure Hom {α β : Type} (O : Op α) (O' : Op β) (f : α → β) : Prop where
 add : ∀ a b, f (O.add a b) = O'.add (f a) (f b)
 sub : ∀ a b, f (O.sub a b) = O'.sub (f a) (f b)
 mul : ∀ a b, f (O.mul a b) = O'.mul (f a) (f b)
 zero : f O.zero = O'.zero
 one : f O.one = O'.one
theorem Hom.ev {α β : Type} {O : Op α} {O' : Op β} {f : α → β} (h : Hom O O' f) (ρ : Nat → α) (e : E) : f (e.ev O ρ) = e.ev O' (fun i => f (ρ i)) := by
 induction e with
 | v i => rfl
 | o => exact h.one
 | a x y hx hy => simp only [E.ev, h.add, hx, hy]
 | s x y hx hy => simp only [E.ev, h.sub, hx, hy]
 | m x y hx hy => simp only [E.ev, h.mul, hx, hy]
section
variable {α : Type} {O : Op α} (L : CR O)
include L
theorem CR.add_zero (a : α) : O.add a O.zero = a := by rw [L.add_comm, L.zero_add]
theorem CR.sub_self (a : α) : O.sub a a = O.zero := by
 have h := L.sub_add a a
 have h1 := L.sub_add O.zero a
 have : O.add (O.add (O.sub a a) a) (O.sub O.zero a) = O.add a (O.sub O.zero a) := by rw [h]
 rw [L.add_assoc, L.add_comm a, h1, L.add_zero] at this
 exact this
theorem CR.add_cancel {a b c : α} (h : O.add a c = O.add b c) : a = b := by
 have : O.add (O.add a c) (O.sub O.zero c) = O.add (O.add b c) (O.sub O.zero c) := by rw [h]
 rwa [L.add_assoc, L.add_assoc, L.add_comm c, L.sub_add, L.add_zero, L.add_zero] at this
theorem CR.sub_eq (a b : α) : O.sub a b = O.add a (O.sub O.zero b) := by
 apply L.add_cancel (c := b)
 rw [L.sub_add, L.add_assoc, L.sub_add, L.add_zero]
theorem CR.eq_of_sub {a b : α} (h : O.sub a b = O.zero) : a = b := by
 rw [← L.sub_add a b, h, L.zero_add]
theorem CR.mul_zero (a : α) : O.mul a O.zero = O.zero := by
 apply L.add_cancel (c := O.mul a O.zero)
 rw [← L.mul_add, L.zero_add, L.zero_add]
theorem CR.zero_mul (a : α) : O.mul O.zero a = O.zero := by rw [L.mul_comm, L.mul_zero]
theorem CR.mul_neg (a b : α) : O.mul a (O.sub O.zero b) = O.sub O.zero (O.mul a b) := by
 apply L.add_cancel (c := O.mul a b)
 rw [← L.mul_add, L.sub_add, L.sub_add, L.mul_zero]
theorem CR.neg_mul (a b : α) : O.mul (O.sub O.zero a) b = O.sub O.zero (O.mul a b) := by rw [L.mul_comm, L.mul_neg, L.mul_comm]
theorem CR.neg_neg (a : α) : O.sub O.zero (O.sub O.zero a) = a := by
 apply L.add_cancel (c := O.sub O.zero a)
 rw [L.sub_add, L.add_comm, L.sub_add]
theorem CR.neg_add (a b : α) : O.sub O.zero (O.add a b) = O.add (O.sub O.zero a) (O.sub O.zero b) := by
 apply L.add_cancel (c := O.add a b)
 rw [L.sub_add, L.add_assoc, ← L.add_assoc (O.sub O.zero b), L.add_comm (O.sub O.zero b) a, L.add_assoc a, L.sub_add, L.add_zero, L.sub_add]
theorem CR.add_mul (a b c : α) : O.mul (O.add a b) c = O.add (O.mul a c) (O.mul b c) := by rw [L.mul_comm, L.mul_add, L.mul_comm c, L.mul_comm c]
theorem CR.add4 (a b c d : α) : O.add (O.add a b) (O.add c d) = O.add (O.add a c) (O.add b d) := by
 rw [L.add_assoc, L.add_assoc, ← L.add_assoc b, L.add_comm b c, L.add_assoc c]
theorem CR.mul4 (a b c d : α) : O.mul (O.mul a b) (O.mul c d) = O.mul (O.mul a c) (O.mul b d) := by
 rw [L.mul_assoc, L.mul_assoc, ← L.mul_assoc b, L.mul_comm b c, L.mul_assoc c]
end
theorem Hom.quad {α β : Type} {O : Op α} {O' : Op β} {φ : α → β} (h : Hom O O' φ) (L : CR O') (f : α) (y : β) (hy : O'.mul y y = φ f) : Hom (Gp.quad O f) O' (fun x => O'.add (φ x.1) (O'.mul y (φ x.2))) where
 add a b := by
   simp only [Gp.quad, h.add, L.mul_add]
   exact L.add4 _ _ _ _
 sub a b := by
   simp only [Gp.quad, h.sub]
   rw [L.sub_eq (φ a.1), L.sub_eq (φ a.2), L.mul_add, L.mul_neg, L.add4, ← L.neg_add, ← L.sub_eq]
 mul a b := by
   simp only [Gp.quad, h.add, h.mul, L.mul_add, L.add_mul]
   rw [← hy]
   have e1 : O'.mul (O'.mul y (φ a.2)) (O'.mul y (φ b.2)) = O'.mul (O'.mul y y) (O'.mul (φ a.2) (φ b.2)) := L.mul4 _ _ _ _
   have e2 : O'.mul (φ a.1) (O'.mul y (φ b.2)) = O'.mul y (O'.mul (φ a.1) (φ b.2)) := by rw [← L.mul_assoc, L.mul_comm _ y, L.mul_assoc]
   have e3 : O'.mul (O'.mul y (φ a.2)) (φ b.1) = O'.mul y (O'.mul (φ a.2) (φ b.1)) := L.mul_assoc _ _ _
   rw [e1, e2, e3]
   generalize O'.mul (φ a.1) (φ b.1) = p
   generalize O'.mul y (O'.mul (φ a.1) (φ b.2)) = q
   generalize O'.mul y (O'.mul (φ a.2) (φ b.1)) = r
   generalize O'.mul (O'.mul y y) (O'.mul (φ a.2) (φ b.2)) = t
   rw [L.add_comm q r, L.add4 p t r q, L.add_comm t q]
 zero := by simp only [Gp.quad, h.zero, L.mul_zero, L.zero_add]
 one := by simp only [Gp.quad, h.one, h.zero, L.mul_zero, L.add_zero]
theorem Hom.map {α β : Type} {O : Op α} {O' : Op β} {φ : α → β} (h : Hom O O' φ) (f : α) : Hom (Gp.quad O f) (Gp.quad O' (φ f)) (fun x => (φ x.1, φ x.2)) where
 add a b := by simp only [Gp.quad, h.add]
 sub a b := by simp only [Gp.quad, h.sub]
 mul a b := by simp only [Gp.quad, h.add, h.mul]
 zero := by simp only [Gp.quad, h.zero]
 one := by simp only [Gp.quad, h.zero, h.one]
structure Gr {α : Type} (O : Op α) (G : α → Int → Prop) : Prop where
 add : ∀ a b d, G a d → G b d → G (O.add a b) d
 sub : ∀ a b d, G a d → G b d → G (O.sub a b) d
 mul : ∀ a b d e, G a d → G b e → G (O.mul a b) (d + e)
 zero : ∀ d, G O.zero d
 one : G O.one 0
 mono : ∀ a d e, G a d → d ≤ e → G a e
def E.dg (w : Nat → Int) : E → Int
 | .v i => w i
 | .o => 0
 | .a x y | .s x y => max (x.dg w) (y.dg w)
 | .m x y => x.dg w + y.dg w
theorem Gr.ev {α : Type} {O : Op α} {G : α → Int → Prop} (h : Gr O G) {ρ : Nat → α} {w : Nat → Int} (hw : ∀ i, G (ρ i) (w i)) (e : E) : G (e.ev O ρ) (e.dg w) := by
 induction e with
 | v i => exact hw i
 | o => exact h.one
 | a x y hx hy => exact h.add _ _ _ (h.mono _ _ _ hx (Int.le_max_left _ _)) (h.mono _ _ _ hy (Int.le_max_right _ _))
 | s x y hx hy => exact h.sub _ _ _ (h.mono _ _ _ hx (Int.le_max_left _ _)) (h.mono _ _ _ hy (Int.le_max_right _ _))
 | m x y hx hy => exact h.mul _ _ _ _ hx hy
theorem Gr.quad {α : Type} {O : Op α} {G : α → Int → Prop} (h : Gr O G) (f : α) (t : Int) (hf : G f (2 * t)) : Gr (Gp.quad O f) (fun x d => G x.1 d ∧ G x.2 (d - t)) where
 add a b d ha hb := ⟨h.add _ _ _ ha.1 hb.1, h.add _ _ _ ha.2 hb.2⟩
 sub a b d ha hb := ⟨h.sub _ _ _ ha.1 hb.1, h.sub _ _ _ ha.2 hb.2⟩
 mul a b d e ha hb := ⟨h.add _ _ _ (h.mul _ _ _ _ ha.1 hb.1) (h.mono _ _ _ (h.mul _ _ _ _ hf (h.mul _ _ _ _ ha.2 hb.2)) (by omega)),
   h.add _ _ _ (h.mono _ _ _ (h.mul _ _ _ _ ha.1 hb.2) (by omega)) (h.mono _ _ _ (h.mul _ _ _ _ ha.2 hb.1) (by omega))⟩
 zero d := ⟨h.zero _, h.zero _⟩
 one := ⟨h.one, h.zero _⟩
 mono a d e ha hd := ⟨h.mono _ _ _ ha.1 hd, h.mono _ _ _ ha.2 (by omega)⟩
structure Nm {α : Type} (O : Op α) (N : α → Nat) : Prop where
 add : ∀ a b, N (O.add a b) ≤ N a + N b
 sub : ∀ a b, N (O.sub a b) ≤ N a + N b
 mul : ∀ a b, N (O.mul a b) ≤ N a * N b
 zero : N O.zero = 0
 one : N O.one ≤ 1
def E.nm (w : Nat → Nat) : E → Nat
 | .v i => w i
 | .o => 1
 | .a x y | .s x y => x.nm w + y.nm w
 | .m x y => x.nm w * y.nm w
theorem Nm.ev {α : Type} {O : Op α} {N : α → Nat} (h : Nm O N) {ρ : Nat → α} {w : Nat → Nat} (hw : ∀ i, N (ρ i) ≤ w i) (e : E) : N (e.ev O ρ) ≤ e.nm w := by
 induction e with
 | v i => exact hw i
 | o => exact h.one
 | a x y hx hy => exact Nat.le_trans (h.add _ _) (Nat.add_le_add hx hy)
 | s x y hx hy => exact Nat.le_trans (h.sub _ _) (Nat.add_le_add hx hy)
 | m x y hx hy => exact Nat.le_trans (h.mul _ _) (Nat.mul_le_mul hx hy)
theorem Nm.quad {α : Type} {O : Op α} {N : α → Nat} (h : Nm O N) (f : α) (hf : N f ≤ 4) : Nm (Gp.quad O f) (fun x => N x.1 + 2 * N x.2) where
 add a b := by have := h.add a.1 b.1; have := h.add a.2 b.2; simp only [Gp.quad]; omega
 sub a b := by have := h.sub a.1 b.1; have := h.sub a.2 b.2; simp only [Gp.quad]; omega
 mul a b := by
   have h1 := h.add (O.mul a.1 b.1) (O.mul f (O.mul a.2 b.2))
   have h2 := h.add (O.mul a.1 b.2) (O.mul a.2 b.1)
   have h3 := h.mul a.1 b.1
   have h4 := h.mul a.1 b.2
   have h5 := h.mul a.2 b.1
   have h6 : N (O.mul f (O.mul a.2 b.2)) ≤ 4 * (N a.2 * N b.2) := Nat.le_trans (h.mul _ _) (Nat.mul_le_mul hf (h.mul _ _))
   simp only [Gp.quad]
   rw [Nat.add_mul, Nat.mul_add, Nat.mul_add, show N a.1 * (2 * N b.2) = 2 * (N a.1 * N b.2) by rw [Nat.mul_left_comm], show 2 * N a.2 * N b.1 = 2 * (N a.2 * N b.1) by rw [Nat.mul_assoc],
     show 2 * N a.2 * (2 * N b.2) = 4 * (N a.2 * N b.2) by rw [Nat.mul_assoc, Nat.mul_left_comm (N a.2), ← Nat.mul_assoc]]
   omega
 zero := by simp only [Gp.quad, h.zero]
 one := by have := h.one; simp only [Gp.quad, h.zero]; omega
end Gp
end
