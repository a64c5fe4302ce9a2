import Derived.Test.YtkhipnhdbaahcaaGreatQBKG
import Derived.Test.YtkhipnhdbaahcaaGreatQBKB
import Derived.Test.YtkhipnhdbaahcaaGreatQBKD
import Derived.Test.YtkhipnhdbaahcaaGreatQBSG
section
set_option linter.unusedVariables false
set_option linter.unusedSectionVars false
set_option linter.unusedSimpArgs false
namespace Go.Proofs.YtkhipnhdbaahcaaGreat
open Go Eng
set_option maxRecDepth 100000
set_option exponentiation.threshold 2000
set_option maxHeartbeats 4000000
def addrF (x y j : Nat) : Nat := if j < 32 then x / 2 ^ (8 * (31 - j)) % 256 else if j < 64 then y / 2 ^ (8 * (63 - j)) % 256 else 0
theorem addrF_lt (x y j : Nat) : addrF x y j < 256 := by
  unfold addrF
  split
  · exact Nat.mod_lt _ (by decide)
  · split
    · exact Nat.mod_lt _ (by decide)
    · decide
theorem lst_ge (l : List Nat) (j : Nat) (h : l.length ≤ j) : Kk.lst l j = 0 := by
  unfold Kk.lst
  rw [List.getD_eq_getElem?_getD, List.getElem?_eq_none h]; rfl
theorem addrF_base : addrF Sk.gx Sk.gy = Kk.lst Kk.in_base := by
  have h : ∀ j, j < 64 → addrF Sk.gx Sk.gy j = Kk.lst Kk.in_base j := by decide +kernel
  funext j
  by_cases hj : j < 64
  · exact h j hj
  · have e : Kk.in_base.length = 64 := by decide +kernel
    rw [lst_ge _ j (by omega)]
    unfold addrF
    rw [if_neg (by omega), if_neg hj]
def RAdr : Nat → Md := fun r => match r with | 3 => .res [] | 4 => .apr | _ => .mid
section
variable {H : H5} {k : Kf Sk.pS} {r : List AVal} {kn : Kf Sk.nS} {rn : List AVal} {m n : Nat} (hs : Sec H k r kn rn m n)
include hs
theorem Sec.wbytes (x : Fin Sk.pS) (B : Nat → Int) (hB : ∀ j, j < 32 → B j = ((x.val / 2 ^ (8 * (31 - j)) % 256 : Nat) : Int)) : Sp 74 [Uf k x] (.agg [.s .u8 (B 0), .s .u8 (B 1), .s .u8 (B 2), .s .u8 (B 3), .s .u8 (B 4), .s .u8 (B 5), .s .u8 (B 6), .s .u8 (B 7), .s .u8 (B 8), .s .u8 (B 9), .s .u8 (B 10), .s .u8 (B 11), .s .u8 (B 12), .s .u8 (B 13), .s .u8 (B 14), .s .u8 (B 15), .s .u8 (B 16), .s .u8 (B 17), .s .u8 (B 18), .s .u8 (B 19), .s .u8 (B 20), .s .u8 (B 21), .s .u8 (B 22), .s .u8 (B 23), .s .u8 (B 24), .s .u8 (B 25), .s .u8 (B 26), .s .u8 (B 27), .s .u8 (B 28), .s .u8 (B 29), .s .u8 (B 30), .s .u8 (B 31)]) := by
  have c := wBytesS (H5.hlim hs.hH) x.val B hB
  unfold Uf
  rw [hs.uv, hs.uv, hs.uv, hs.uv]
  exact c
theorem Sec.address (px py : Fin Sk.pS) (hP : onS (some (px, py))) (h : Nat → Int) (hh : h = fun j => ((Kk.hash (addrF px.val py.val) 64 j : Nat) : Int)) : Sp 29 [Pf k (some (px, py))] (.tup [.agg [.s .u8 (h 12), .s .u8 (h 13), .s .u8 (h 14), .s .u8 (h 15), .s .u8 (h 16), .s .u8 (h 17), .s .u8 (h 18), .s .u8 (h 19), .s .u8 (h 20), .s .u8 (h 21), .s .u8 (h 22), .s .u8 (h 23), .s .u8 (h 24), .s .u8 (h 25), .s .u8 (h 26), .s .u8 (h 27), .s .u8 (h 28), .s .u8 (h 29), .s .u8 (h 30), .s .u8 (h 31)], .i .i64 0]) := by
  have gp := hs.goodP _ hP
  obtain ⟨F, hF⟩ : ∃ F : Nat → Int, F = fun j => ((addrF px.val py.val j : Nat) : Int) := ⟨_, rfl⟩
  have bx := hs.wbytes px F (fun j hj => by rw [hF]; dsimp only; unfold addrF; rw [if_pos hj])
  have by_ := hs.wbytes py (fun j => F (32 + j)) (fun j hj => by rw [hF]; dsimp only; unfold addrF; rw [if_neg (by omega), if_pos (by omega), show 63 - (32 + j) = 31 - j by omega])
  have ck := keccak64 (addrF px.val py.val) (addrF_lt _ _) F h hF hh
  unfold Uf at bx by_
  dsimp only [Nat.reduceAdd] at by_
  clear hF hh
  refine mk Tryz.func29 rfl rfl L0 RAdr (by decide +kernel) fun A S hA hS => ?_
  have nt := not_t hA
  unfold bodyOf Tryz.f29
  cbv
  repeat (first
    | (refine ABr.t (by assumption) ?_; cbv)
    | (refine ABr.f (by assumption) ?_; cbv)
    | (refine ABr.t rfl ?_; cbv)
    | (refine ABr.f rfl ?_; cbv)
    | (refine ACall.mk _ (cf hS gp) ?_; cbv)
    | (refine ACall.mk _ (cf hS bx) ?_; cbv)
    | (refine ACall.mk _ (cf hS by_) ?_; cbv))
  refine ACall.mk _ (cf hS ck) ?_
  cbv
end
end Go.Proofs.YtkhipnhdbaahcaaGreat
end
section
set_option linter.unusedVariables false
set_option linter.unusedSectionVars false
set_option linter.unusedSimpArgs false
namespace Go.Proofs.YtkhipnhdbaahcaaGreat
open Go Eng
set_option maxRecDepth 100000
set_option exponentiation.threshold 2000
set_option maxHeartbeats 4000000
theorem rt_no (c : Fin Sk.pS) (e v : Nat) (he : e < 2 ^ 256) (h : NT.pm Sk.pS 256 c.val e = v) (hv : v * v % Sk.pS ≠ c.val) (y : Fin Sk.pS) (hy : y.val = c.val ^ e % Sk.pS) : y * y ≠ c := by
  intro e1
  rw [← NT.pm_eq Sk.pS 256 c.val e he, h] at hy
  apply hv
  have e2 := congrArg Fin.val e1
  rw [Fin.val_mul, hy] at e2
  exact e2
theorem rtS_val (c : Fin Sk.pS) : (rtS c).val = c.val ^ ((Sk.pS + 1) / 4) % Sk.pS := rfl
theorem cv5 : (cvS 5).val = 132 := by decide +kernel
theorem lift5 (y : Fin Sk.pS) (hy : y = rtS (cvS 5)) : y * y ≠ cvS 5 := by
  refine rt_no (cvS 5) ((Sk.pS + 1) / 4) 23991821008281484097053715379747718372991279943638939452345024967188278261434 (by decide) (by rw [cv5]; decide +kernel) (by rw [cv5]; decide +kernel) y ?_
  rw [hy]; exact rtS_val _
theorem mn1 (P : Cv.Pt (Fin Sk.pS)) : Gp.mn Sk.O P 1 = P := by
  show Cv.sumR Sk.O none P = P
  rfl
section
variable {H : H5} {k : Kf Sk.pS} {r : List AVal} {kn : Kf Sk.nS} {rn : List AVal} {m n : Nat} (hs : Sec H k r kn rn m n) (hr : RootK H k r)
include hs
theorem Sec.lim_small (a : Nat) (h : a < 2 ^ 64) : H.lim a 0 = (a : Int) ∧ ∀ i, i < 3 → H.lim a (i + 1) = 0 := by
  rw [hs.hH]
  refine ⟨?_, fun i hi => ?_⟩
  · show ((a / 2 ^ (64 * 0) % 2 ^ 64 : Nat) : Int) = a
    rw [Nat.mul_zero, Nat.pow_zero, Nat.div_one, Nat.mod_eq_of_lt h]
  · show ((a / 2 ^ (64 * (i + 1)) % 2 ^ 64 : Nat) : Int) = 0
    rw [Nat.div_eq_of_lt (Nat.lt_of_lt_of_le h (Nat.pow_le_pow_right (n := 2) (i := 64) (by decide) (by omega)))]; rfl
theorem Sec.refBase : Sp 16 [] (Pf k Sk.G) := by
  have vx := hs.v_fs (x := Sk.gx) (by decide)
  have vy := hs.v_fs (x := Sk.gy) (by decide)
  have ex : ∀ i, i < 4 → H.lim Sk.gx i = limR Sk.gx i := fun i _ => by rw [hs.hH]; rfl
  have ey : ∀ i, i < 4 → H.lim Sk.gy i = limR Sk.gy i := fun i _ => by rw [hs.hH]; rfl
  have x0 : (6481385041966929816 : Int) = k.v (Sk.fs Sk.gx) 0 := by rw [vx, ex 0 (by decide)]; decide
  have x1 : (188021827762530521 : Int) = k.v (Sk.fs Sk.gx) 1 := by rw [vx, ex 1 (by decide)]; decide
  have x2 : (6170039885052185351 : Int) = k.v (Sk.fs Sk.gx) 2 := by rw [vx, ex 2 (by decide)]; decide
  have x3 : (8772561819708210092 : Int) = k.v (Sk.fs Sk.gx) 3 := by rw [vx, ex 3 (by decide)]; decide
  have y0 : (11261198710074299576 : Int) = k.v (Sk.fs Sk.gy) 0 := by rw [vy, ey 0 (by decide)]; decide
  have y1 : (18237243440184513561 : Int) = k.v (Sk.fs Sk.gy) 1 := by rw [vy, ey 1 (by decide)]; decide
  have y2 : (6747795201694173352 : Int) = k.v (Sk.fs Sk.gy) 2 := by rw [vy, ey 2 (by decide)]; decide
  have y3 : (5204712524664259685 : Int) = k.v (Sk.fs Sk.gy) 3 := by rw [vy, ey 3 (by decide)]; decide
  clear vx vy ex ey
  have eG : Sk.G = some (Sk.fs Sk.gx, Sk.fs Sk.gy) := rfl
  rw [eG]
  generalize Sk.fs Sk.gx = gx at *
  generalize Sk.fs Sk.gy = gy at *
  refine mk Tryz.func16 rfl rfl L0 R1 (by decide +kernel) fun A S hA hS => ?_
  unfold bodyOf Tryz.f16
  cbv
  repeat' (first | exact x0 | exact x1 | exact x2 | exact x3 | exact y0 | exact y1 | exact y2 | exact y3 | exact rfl | exact trivial | constructor)
include hr
theorem Sec.awake : Sp 10 [] (.b true) := by
  have cp := (hs.public 1 (by decide)).1 ⟨by decide, by decide⟩
  rw [mn1] at cp
  have cb := hs.refBase
  obtain ⟨h, hh⟩ : ∃ h : Nat → Int, h = fun j => ((Kk.hash (addrF (Sk.fs Sk.gx).val (Sk.fs Sk.gy).val) 64 j : Nat) : Int) := ⟨_, rfl⟩
  have ca := hs.address (Sk.fs Sk.gx) (Sk.fs Sk.gy) Sk.onG h hh
  have e : addrF (Sk.fs Sk.gx).val (Sk.fs Sk.gy).val = Kk.lst Kk.in_base := by
    rw [fs_val (by decide), fs_val (by decide)]; exact addrF_base
  rw [e] at hh
  have h12 : h 12 = 126 := by rw [hh]; exact congrArg Int.ofNat Kk.base_b12
  have h13 : h 13 = 95 := by rw [hh]; exact congrArg Int.ofNat Kk.base_b13
  have h31 : h 31 = 223 := by rw [hh]; exact congrArg Int.ofNat Kk.base_b31
  have cl := hs.liftNone hr (x := 5) (by decide) _ rfl (lift5 _ rfl) 0 (by decide) 0 rfl
  obtain ⟨a0, as_⟩ := hs.lim_small 1 (by decide)
  obtain ⟨b0, bs_⟩ := hs.lim_small 5 (by decide)
  have a1 := as_ 0 (by decide)
  have a2 := as_ 1 (by decide)
  have a3 := as_ 2 (by decide)
  have b1 := bs_ 0 (by decide)
  have b2 := bs_ 1 (by decide)
  have b3 := bs_ 2 (by decide)
  clear hh e as_ bs_ hr
  have eG : Sk.G = some (Sk.fs Sk.gx, Sk.fs Sk.gy) := rfl
  rw [eG] at cb cp
  generalize Sk.fs Sk.gx = gx at *
  generalize Sk.fs Sk.gy = gy at *
  refine mk Tryz.func10 rfl rfl L0 R1 (by decide +kernel) fun A S hA hS => ?_
  have t12 : A.eqs [(.s .u8 (h 12), .i .u8 126)] = true := by rw [hA, h12]; rfl
  have t13 : A.eqs [(.s .u8 (h 13), .i .u8 95)] = true := by rw [hA, h13]; rfl
  have t31 : A.eqs [(.s .u8 (h 31), .i .u8 223)] = true := by rw [hA, h31]; rfl
  have u12 : A.cmp .eql (h 12) 126 = true := by rw [hA, h12]; rfl
  have u13 : A.cmp .eql (h 13) 95 = true := by rw [hA, h13]; rfl
  have u31 : A.cmp .eql (h 31) 223 = true := by rw [hA, h31]; rfl
  have eg : A.eqs [(.s .u64 (k.v gx 0), .s .u64 (k.v gx 0)), (.s .u64 (k.v gx 1), .s .u64 (k.v gx 1)), (.s .u64 (k.v gx 2), .s .u64 (k.v gx 2)), (.s .u64 (k.v gx 3), .s .u64 (k.v gx 3)), (.s .u64 (k.v gy 0), .s .u64 (k.v gy 0)), (.s .u64 (k.v gy 1), .s .u64 (k.v gy 1)), (.s .u64 (k.v gy 2), .s .u64 (k.v gy 2)), (.s .u64 (k.v gy 3), .s .u64 (k.v gy 3)), (.b false, .b false)] = true := by
    rw [hA]; show List.all _ _ = true; simp [leafEq]
  unfold bodyOf Tryz.f10
  cbv
  refine ACall.mk _ (cg hS cp ?_) ?_
  · cbv
    repeat' (first | exact a0.symm | exact a1.symm | exact a2.symm | exact a3.symm | exact rfl | exact trivial | constructor)
  cbv
  repeat (first
    | (refine ABr.t (by assumption) ?_; cbv)
    | (refine ABr.f (by assumption) ?_; cbv)
    | (refine ABr.t rfl ?_; cbv)
    | (refine ABr.f rfl ?_; cbv)
    | (refine ACall.mk _ (cf hS ca) ?_; cbv))
  refine ACall.mk _ (cg hS cl ?_) ?_
  · cbv
    repeat' (first | exact b0.symm | exact b1.symm | exact b2.symm | exact b3.symm | exact rfl | exact trivial | constructor)
  cbv
  repeat (first
    | (refine ABr.t (by assumption) ?_; cbv)
    | (refine ABr.f (by assumption) ?_; cbv)
    | (refine ABr.t rfl ?_; cbv)
    | (refine ABr.f rfl ?_; cbv)
    | (refine ACall.mk _ (cf hS cb) ?_; cbv))
end
end Go.Proofs.YtkhipnhdbaahcaaGreat
end
section
set_option linter.unusedVariables false
set_option linter.unusedSimpArgs false
set_option exponentiation.threshold 2000
namespace Dg
/-- A reduction's sums, while a high digit is multiplied. -/
structure RK (B C : Nat) (x c : Nat → Nat) (L n k : Nat) (s : Nat → Nat) : Prop where
  val : V B s 17 = L + V B (fun j => x (8 + j)) n * C + x (8 + n) * V B c k * B ^ n
  bnd : ∀ j, s j < (1 + 10 * n + 2 * k) * B
theorem RK.step {B C : Nat} {x c : Nat → Nat} {L n k : Nat} {s : Nat → Nat} (hB : 0 < B) (h : RK B C x c L n k s) (hn : n + k + 1 < 17) (hx : x (8 + n) < B) (hc : c k < B) :
    RK B C x c L n (k + 1) (upd (upd s (n + k) (s (n + k) + x (8 + n) * c k % B)) (n + k + 1) (s (n + k + 1) + x (8 + n) * c k / B)) := by
  obtain ⟨p, hp⟩ : ∃ p, p = x (8 + n) * c k := ⟨_, rfl⟩
  have hpd : p / B < B := by
    apply Nat.div_lt_of_lt_mul
    rw [hp]
    exact Nat.mul_lt_mul'' hx hc
  have hpm : p % B < B := Nat.mod_lt _ hB
  have u1 := V_upd (B := B) s (n + k) (s (n + k) + p % B) 17 (by omega)
  have u2 := V_upd (B := B) (upd s (n + k) (s (n + k) + p % B)) (n + k + 1) (s (n + k + 1) + p / B) 17 (by omega)
  rw [upd_ne _ _ _ _ (by omega)] at u2
  rw [← hp]
  refine ⟨?_, fun j => ?_⟩
  · have e1 : x (8 + n) * V B c (k + 1) * B ^ n = x (8 + n) * V B c k * B ^ n + p * B ^ (n + k) := by
      rw [V, hp, Nat.pow_add, Nat.mul_add, Nat.add_mul]
      congr 1
      ac_rfl
    have e2 : p * B ^ (n + k) = p % B * B ^ (n + k) + p / B * B ^ (n + k + 1) := by
      have h := Nat.mod_add_div p B
      have e : p / B * B ^ (n + k + 1) = B * (p / B) * B ^ (n + k) := by rw [Nat.pow_succ]; ac_rfl
      rw [e, ← Nat.add_mul, h]
    have hv := h.val
    rw [e1, e2]
    rw [Nat.add_mul] at u1 u2
    generalize V B (upd (upd s (n + k) (s (n + k) + p % B)) (n + k + 1) (s (n + k + 1) + p / B)) 17 = v2 at *
    generalize V B (upd s (n + k) (s (n + k) + p % B)) 17 = v1 at *
    omega
  · have hb := h.bnd j
    have e : (1 + 10 * n + 2 * (k + 1)) * B = (1 + 10 * n + 2 * k) * B + 2 * B := by
      rw [show 1 + 10 * n + 2 * (k + 1) = (1 + 10 * n + 2 * k) + 2 by omega, Nat.add_mul]
    rw [e]
    by_cases h1 : j = n + k + 1
    · subst h1; rw [upd_eq]; omega
    · rw [upd_ne _ _ _ _ h1]
      by_cases h2 : j = n + k
      · subst h2; rw [upd_eq]; omega
      · rw [upd_ne _ _ _ _ h2]; omega
theorem RK.next {B C : Nat} {x c : Nat → Nat} {L n : Nat} {s : Nat → Nat} (h : RK B C x c L n 5 s) (hC : V B c 5 = C) : RK B C x c L (n + 1) 0 s := by
  refine ⟨?_, fun j => Nat.lt_of_lt_of_le (h.bnd j) (Nat.mul_le_mul_right _ (by omega))⟩
  have hv := h.val
  rw [hC] at hv
  have e : V B c 0 = 0 := rfl
  rw [hv, e, Nat.mul_zero, Nat.zero_mul, Nat.add_zero]
  have e2 : V B (fun j => x (8 + j)) (n + 1) = V B (fun j => x (8 + j)) n + x (8 + n) * B ^ n := rfl
  rw [e2, Nat.add_mul, Nat.add_assoc]
  congr 2
  ac_rfl
theorem RK.skip {B C : Nat} {x c : Nat → Nat} {L n : Nat} {s : Nat → Nat} (h : RK B C x c L n 0 s) (h0 : x (8 + n) = 0) : RK B C x c L (n + 1) 0 s := by
  refine ⟨?_, fun j => Nat.lt_of_lt_of_le (h.bnd j) (Nat.mul_le_mul_right _ (by omega))⟩
  have hv := h.val
  have e2 : V B (fun j => x (8 + j)) (n + 1) = V B (fun j => x (8 + j)) n + x (8 + n) * B ^ n := rfl
  have e3 : V B c 0 = 0 := rfl
  rw [hv, e2, h0, e3]
  simp only [Nat.zero_mul, Nat.mul_zero, Nat.add_zero]
theorem RK.start {B C : Nat} {x c : Nat → Nat} {s : Nat → Nat} (hB : 0 < B) (hx : ∀ j, j < 8 → x j < B) (hs : ∀ j, s j = if j < 8 then x j else 0) : RK B C x c (V B x 8) 0 0 s := by
  refine ⟨?_, fun j => ?_⟩
  · have e : V B (fun j => x (8 + j)) 0 = 0 := rfl
    have e2 : V B c 0 = 0 := rfl
    rw [e, e2]
    simp only [Nat.zero_mul, Nat.mul_zero, Nat.add_zero]
    have : V B s (8 + 9) = V B s 8 + B ^ 8 * V B (fun j => s (8 + j)) 9 := V_shift s 8 9
    rw [this, V_zero (o := fun j => s (8 + j)) (fun j hj => by show s (8 + j) = 0; rw [hs, if_neg (by omega)]), Nat.mul_zero, Nat.add_zero]
    exact V_congr 8 fun j hj => by rw [hs, if_pos hj]
  · rw [hs]
    split
    · have := hx j (by assumption); omega
    · omega
/-- Carries taken on. -/
structure CK (B : Nat) (s : Nat → Nat) (n : Nat) (x : Nat → Nat) (c : Nat) : Prop where
  val : V B x n + c * B ^ n = V B s n
  dig : ∀ j, j < n → x j < B
  bnd : c < 200
theorem CK.step {B : Nat} {s : Nat → Nat} {n : Nat} {x : Nat → Nat} {c : Nat} (hB : 1000 < B) (h : CK B s n x c) (hs : s n < 100 * B) : CK B s (n + 1) (upd x n ((s n + c) % B)) ((s n + c) / B) := by
  refine ⟨?_, fun j hj => ?_, ?_⟩
  · show V B (upd x n _) n + upd x n _ n * B ^ n + _ = V B s n + s n * B ^ n
    rw [upd_eq, V_congr (o := upd x n ((s n + c) % B)) (p := x) n (fun m hm => upd_ne _ _ _ _ (by omega))]
    have hv := h.val
    have e := Nat.mod_add_div (s n + c) B
    have e1 : (s n + c) / B * B ^ (n + 1) = B * ((s n + c) / B) * B ^ n := by rw [Nat.pow_succ]; ac_rfl
    rw [e1]
    have e2 := congrArg (· * B ^ n) e
    simp only [Nat.add_mul] at e2
    generalize B * ((s n + c) / B) * B ^ n = u at *
    generalize (s n + c) % B * B ^ n = v at *
    omega
  · by_cases e : j = n
    · subst e; rw [upd_eq]; exact Nat.mod_lt _ (by omega)
    · rw [upd_ne _ _ _ _ e]; exact h.dig j (by omega)
  · apply Nat.div_lt_of_lt_mul
    have := h.bnd
    omega
theorem CK.last {B : Nat} {s x : Nat → Nat} {c : Nat} (h : CK B s 17 x c) (hs : V B s 17 < B ^ 17) (hB : 0 < B) : V B x 17 = V B s 17 := by
  have hv := h.val
  have : c = 0 := by
    rcases Nat.eq_zero_or_pos c with h | h
    · exact h
    · exfalso
      have : 1 * B ^ 17 ≤ c * B ^ 17 := Nat.mul_le_mul_right _ h
      omega
  rw [this, Nat.zero_mul, Nat.add_zero] at hv
  exact hv
/-- What a reduction comes to, and that it ends. -/
def rd (M C a : Nat) : Nat := a % M + a / M * C
theorem rd_mod {M C m a : Nat} (h : C + m = M) : rd M C a % m = a % m := by
  unfold rd
  have e := Nat.mod_add_div a M
  have e2 : a = (a % M + a / M * C) + m * (a / M) := by
    rw [← h, Nat.add_mul, Nat.mul_comm C] at e
    rw [← h]
    omega
  rw [e2, Nat.add_mul_mod_self_left, ← e2]
theorem rd_le {M C m a : Nat} (h : C + m = M) : rd M C a ≤ a := by
  unfold rd
  have e := Nat.mod_add_div a M
  have : a / M * C ≤ M * (a / M) := by rw [Nat.mul_comm M]; exact Nat.mul_le_mul_left _ (by omega)
  omega
end Dg
end
section
set_option linter.unusedVariables false
set_option linter.unusedSimpArgs false
set_option exponentiation.threshold 2000
namespace Dg
/-- Digits of 32 bits and words of 64. -/
theorem pow_D (i : Nat) : 4294967296 ^ i = 2 ^ (32 * i) := by rw [Nat.pow_mul]
def wd (a i : Nat) : Nat := a / 2 ^ (64 * i) % 18446744073709551616
theorem wd_lt (a i : Nat) : wd a i < 18446744073709551616 := Nat.mod_lt _ (by decide)
theorem wd_lo (a i : Nat) : wd a i % 4294967296 = dg 4294967296 a (2 * i) := by
  unfold wd dg
  rw [pow_D, show 32 * (2 * i) = 64 * i by omega]
  generalize a / 2 ^ (64 * i) = q
  show q % 18446744073709551616 % 4294967296 = q % 4294967296
  omega
theorem wd_hi (a i : Nat) : wd a i / 4294967296 = dg 4294967296 a (2 * i + 1) := by
  unfold wd dg
  rw [pow_D, show 32 * (2 * i + 1) = 64 * i + 32 by omega, Nat.pow_add, ← Nat.div_div_eq_div_mul]
  generalize a / 2 ^ (64 * i) = q
  show q % 18446744073709551616 / 4294967296 = q / 4294967296 % 4294967296
  omega
theorem wd_of (a i : Nat) : dg 4294967296 a (2 * i) + dg 4294967296 a (2 * i + 1) * 4294967296 = wd a i := by
  rw [← wd_lo, ← wd_hi]
  have := Nat.mod_add_div (wd a i) 4294967296
  omega
/-- Digits behind those of a number that is no greater than 4294967296^n are 0. -/
theorem dg_zero {a n i : Nat} (ha : a < 4294967296 ^ n) (hi : n ≤ i) : dg 4294967296 a i = 0 := by
  unfold dg
  rw [Nat.div_eq_of_lt (Nat.lt_of_lt_of_le ha (Nat.pow_le_pow_right (by decide) hi)), Nat.zero_mod]
theorem V_num {a n : Nat} (ha : a < 4294967296 ^ n) : V 4294967296 (dg 4294967296 a) n = a := by rw [V_dg, Nat.mod_eq_of_lt ha]
/-- A sum, digit by digit. -/
structure SK (a b : Nat → Nat) (n : Nat) (x : Nat → Nat) (c : Nat) : Prop where
  val : V 4294967296 x n + c * 4294967296 ^ n = V 4294967296 a n + V 4294967296 b n
  dig : ∀ j, j < n → x j < 4294967296
  bnd : c ≤ 1
theorem SK.step {a b : Nat → Nat} {n : Nat} {x : Nat → Nat} {c : Nat} (h : SK a b n x c) (ha : a n < 4294967296) (hb : b n < 4294967296) : SK a b (n + 1) (upd x n ((a n + b n + c) % 4294967296)) ((a n + b n + c) / 4294967296) := by
  have h1 := h.bnd
  refine ⟨?_, fun j hj => ?_, ?_⟩
  · show V 4294967296 (upd x n _) n + upd x n _ n * 4294967296 ^ n + _ = V 4294967296 a n + a n * 4294967296 ^ n + (V 4294967296 b n + b n * 4294967296 ^ n)
    rw [upd_eq, V_congr (o := upd x n ((a n + b n + c) % 4294967296)) (p := x) n (fun m hm => upd_ne _ _ _ _ (by omega))]
    have hv := h.val
    have e := Nat.mod_add_div (a n + b n + c) 4294967296
    have e1 : (a n + b n + c) / 4294967296 * 4294967296 ^ (n + 1) = 4294967296 * ((a n + b n + c) / 4294967296) * 4294967296 ^ n := by rw [Nat.pow_succ]; ac_rfl
    rw [e1]
    have e2 := congrArg (· * 4294967296 ^ n) e
    simp only [Nat.add_mul] at e2
    generalize 4294967296 * ((a n + b n + c) / 4294967296) * 4294967296 ^ n = u at *
    generalize (a n + b n + c) % 4294967296 * 4294967296 ^ n = v at *
    omega
  · by_cases e : j = n
    · subst e; rw [upd_eq]; exact Nat.mod_lt _ (by decide)
    · rw [upd_ne _ _ _ _ e]; exact h.dig j (by omega)
  · have : (a n + b n + c) / 4294967296 < 2 := Nat.div_lt_of_lt_mul (by omega)
    omega
/-- A difference, digit by digit. -/
structure MK (a b : Nat → Nat) (n : Nat) (x : Nat → Nat) (c : Nat) : Prop where
  val : V 4294967296 x n + V 4294967296 b n = V 4294967296 a n + c * 4294967296 ^ n
  dig : ∀ j, j < n → x j < 4294967296
  bnd : c ≤ 1
theorem MK.step {a b : Nat → Nat} {n : Nat} {x : Nat → Nat} {c : Nat} (h : MK a b n x c) (ha : a n < 4294967296) (hb : b n < 4294967296) : MK a b (n + 1) (upd x n ((a n + 4294967296 - b n - c) % 4294967296)) (1 - (a n + 4294967296 - b n - c) / 4294967296) := by
  have h1 := h.bnd
  obtain ⟨t, ht⟩ : ∃ t, t = a n + 4294967296 - b n - c := ⟨_, rfl⟩
  obtain ⟨q, hq⟩ : ∃ q, q = t / 4294967296 := ⟨_, rfl⟩
  have hq1 : q ≤ 1 := by
    have : t / 4294967296 < 2 := Nat.div_lt_of_lt_mul (by omega)
    omega
  rw [← ht, ← hq]
  refine ⟨?_, fun j hj => ?_, by omega⟩
  · show V 4294967296 (upd x n _) n + upd x n _ n * 4294967296 ^ n + (V 4294967296 b n + b n * 4294967296 ^ n) = V 4294967296 a n + a n * 4294967296 ^ n + _
    rw [upd_eq, V_congr (o := upd x n (t % 4294967296)) (p := x) n (fun m hm => upd_ne _ _ _ _ (by omega))]
    have hv := h.val
    have e := Nat.mod_add_div t 4294967296
    rw [← hq] at e
    have e3 : t % 4294967296 + b n + c = a n + (1 - q) * 4294967296 := by
      have : (1 - q) * 4294967296 = 4294967296 - 4294967296 * q := by rw [Nat.sub_mul, Nat.one_mul, Nat.mul_comm]
      omega
    have e2 := congrArg (· * 4294967296 ^ n) e3
    simp only [Nat.add_mul] at e2
    have e4 : (1 - q) * 4294967296 ^ (n + 1) = (1 - q) * 4294967296 * 4294967296 ^ n := by rw [Nat.pow_succ]; ac_rfl
    rw [e4]
    generalize (1 - q) * 4294967296 * 4294967296 ^ n = u at *
    generalize t % 4294967296 * 4294967296 ^ n = v at *
    omega
  · by_cases e : j = n
    · subst e; rw [upd_eq]; exact Nat.mod_lt _ (by decide)
    · rw [upd_ne _ _ _ _ e]; exact h.dig j (by omega)
/-- A product, row by row: x times all of b. -/
structure TK (E i k : Nat) (A b : Nat → Nat) (o : Nat → Nat) (c : Nat) : Prop where
  val : V 4294967296 o 17 + c * 4294967296 ^ (i + k) = E + A i * V 4294967296 b k * 4294967296 ^ i
  dig : ∀ j, o j < 4294967296
  top : ∀ j, i + 8 ≤ j → o j = 0
  bnd : c < 4294967296
theorem TK.step {E i k : Nat} {A b o : Nat → Nat} {c : Nat} (h : TK E i k A b o c) (hi : i < 8) (hk : k < 8) (hA : A i < 4294967296) (hb : b k < 4294967296) :
    TK E i (k + 1) A b (upd o (i + k) ((o (i + k) + A i * b k + c) % 4294967296)) ((o (i + k) + A i * b k + c) / 4294967296) := by
  obtain ⟨p, hp⟩ : ∃ p, p = A i * b k := ⟨_, rfl⟩
  have hpp : p ≤ 4294967295 * 4294967295 := by rw [hp]; exact Nat.mul_le_mul (by omega) (by omega)
  have h1 := h.bnd
  have h2 := h.dig (i + k)
  rw [← hp]
  refine ⟨?_, fun j => ?_, fun j hj => ?_, ?_⟩
  · have u := V_upd (B := 4294967296) o (i + k) ((o (i + k) + p + c) % 4294967296) 17 (by omega)
    have hv := h.val
    have e := Nat.mod_add_div (o (i + k) + p + c) 4294967296
    have e1 : (o (i + k) + p + c) / 4294967296 * 4294967296 ^ (i + (k + 1)) = 4294967296 * ((o (i + k) + p + c) / 4294967296) * 4294967296 ^ (i + k) := by rw [← Nat.add_assoc, Nat.pow_succ]; ac_rfl
    have e5 : A i * V 4294967296 b (k + 1) * 4294967296 ^ i = A i * V 4294967296 b k * 4294967296 ^ i + p * 4294967296 ^ (i + k) := by
      rw [V, hp, Nat.pow_add, Nat.mul_add, Nat.add_mul]; congr 1; ac_rfl
    rw [e1, e5]
    have e2 := congrArg (· * 4294967296 ^ (i + k)) e
    simp only [Nat.add_mul] at e2
    generalize 4294967296 * ((o (i + k) + p + c) / 4294967296) * 4294967296 ^ (i + k) = u1 at *
    generalize V 4294967296 (upd o (i + k) ((o (i + k) + p + c) % 4294967296)) 17 = u2 at *
    omega
  · by_cases e : j = i + k
    · subst e; rw [upd_eq]; exact Nat.mod_lt _ (by decide)
    · rw [upd_ne _ _ _ _ e]; exact h.dig j
  · rw [upd_ne _ _ _ _ (by omega)]; exact h.top j hj
  · exact Nat.div_lt_of_lt_mul (by omega)
theorem TK.next {E i : Nat} {A b o : Nat → Nat} {c : Nat} (h : TK E i 8 A b o c) (hi : i < 8) : o (i + 8) + c < 4294967296 ∧ TK (E + A i * V 4294967296 b 8 * 4294967296 ^ i) (i + 1) 0 A b (upd o (i + 8) (o (i + 8) + c)) 0 := by
  have h0 := h.top (i + 8) (Nat.le_refl _)
  have hb := h.bnd
  rw [h0, Nat.zero_add]
  refine ⟨hb, ?_, fun j => ?_, fun j hj => ?_, by decide⟩
  · have u := V_upd (B := 4294967296) o (i + 8) c 17 (by omega)
    rw [h0, Nat.zero_mul, Nat.add_zero] at u
    rw [u, h.val]
    show _ = _ + A (i + 1) * 0 * 4294967296 ^ (i + 1)
    rw [Nat.mul_zero, Nat.zero_mul]
  · by_cases e : j = i + 8
    · subst e; rw [upd_eq]; exact hb
    · rw [upd_ne _ _ _ _ e]; exact h.dig j
  · rw [upd_ne _ _ _ _ (by omega)]; exact h.top j (by omega)
end Dg
end
section
set_option linter.unusedVariables false
set_option linter.unusedSimpArgs false
namespace Go.Proofs.YtkhipnhdbaahcaaGreat
open Go Eng
set_option maxRecDepth 100000
set_option exponentiation.threshold 2000
set_option maxHeartbeats 8000000
open Dg
abbrev lg (o : Nat → Nat) : List AVal := [.s .u64 ((o 0 : Nat) : Int), .s .u64 ((o 1 : Nat) : Int), .s .u64 ((o 2 : Nat) : Int), .s .u64 ((o 3 : Nat) : Int), .s .u64 ((o 4 : Nat) : Int), .s .u64 ((o 5 : Nat) : Int), .s .u64 ((o 6 : Nat) : Int), .s .u64 ((o 7 : Nat) : Int), .s .u64 ((o 8 : Nat) : Int), .s .u64 ((o 9 : Nat) : Int), .s .u64 ((o 10 : Nat) : Int), .s .u64 ((o 11 : Nat) : Int), .s .u64 ((o 12 : Nat) : Int), .s .u64 ((o 13 : Nat) : Int), .s .u64 ((o 14 : Nat) : Int), .s .u64 ((o 15 : Nat) : Int), .s .u64 ((o 16 : Nat) : Int)]
theorem lg_get {A : Ar} (hA : A = Ar.real) (o : Nat → Nat) (i : Nat) (hi : i < 17) : lsub (lg o) (A.offs 0 i 1) 1 = some [.s .u64 ((o i : Nat) : Int)] := by
  subst hA
  rcases (by omega : i = 0 ∨ i = 1 ∨ i = 2 ∨ i = 3 ∨ i = 4 ∨ i = 5 ∨ i = 6 ∨ i = 7 ∨ i = 8 ∨ i = 9 ∨ i = 10 ∨ i = 11 ∨ i = 12 ∨ i = 13 ∨ i = 14 ∨ i = 15 ∨ i = 16) with rfl | rfl | rfl | rfl | rfl | rfl | rfl | rfl | rfl | rfl | rfl | rfl | rfl | rfl | rfl | rfl | rfl
  all_goals rfl
theorem lg_put {A : Ar} (hA : A = Ar.real) (o o2 : Nat → Nat) (j : Nat) (hj : j < 17) {x : Int} (hx : x = ((o2 j : Nat) : Int)) (h : ∀ m, m ≠ j → o2 m = o m) : lput (lg o) (A.offs 0 j 1) [.s .u64 x] = some (lg o2) := by
  subst hA
  subst hx
  have h0 := h 0
  have h1 := h 1
  have h2 := h 2
  have h3 := h 3
  have h4 := h 4
  have h5 := h 5
  have h6 := h 6
  have h7 := h 7
  have h8 := h 8
  have h9 := h 9
  have h10 := h 10
  have h11 := h 11
  have h12 := h 12
  have h13 := h 13
  have h14 := h 14
  have h15 := h 15
  have h16 := h 16
  clear h
  rcases (by omega : j = 0 ∨ j = 1 ∨ j = 2 ∨ j = 3 ∨ j = 4 ∨ j = 5 ∨ j = 6 ∨ j = 7 ∨ j = 8 ∨ j = 9 ∨ j = 10 ∨ j = 11 ∨ j = 12 ∨ j = 13 ∨ j = 14 ∨ j = 15 ∨ j = 16) with rfl | rfl | rfl | rfl | rfl | rfl | rfl | rfl | rfl | rfl | rfl | rfl | rfl | rfl | rfl | rfl | rfl
  all_goals
    unfold lg
    try rw [h0 (by decide)]
    try rw [h1 (by decide)]
    try rw [h2 (by decide)]
    try rw [h3 (by decide)]
    try rw [h4 (by decide)]
    try rw [h5 (by decide)]
    try rw [h6 (by decide)]
    try rw [h7 (by decide)]
    try rw [h8 (by decide)]
    try rw [h9 (by decide)]
    try rw [h10 (by decide)]
    try rw [h11 (by decide)]
    try rw [h12 (by decide)]
    try rw [h13 (by decide)]
    try rw [h14 (by decide)]
    try rw [h15 (by decide)]
    try rw [h16 (by decide)]
    rfl
theorem lim_wd {lim : Lim} (hl : lim = limR) (a i : Nat) : lim a i = ((wd a i : Nat) : Int) := by subst hl; rfl
theorem q_rem (x : Nat) : rbin .rem .u64 (x : Int) 4294967296 = ((x % 4294967296 : Nat) : Int) := rem_u (y := 4294967296)
theorem q_quo {x : Nat} (hx : x < 18446744073709551616) : rbin .quo .u64 (x : Int) 4294967296 = ((x / 4294967296 : Nat) : Int) := quo_u (y := 4294967296) hx
theorem q_add {x y : Nat} (h : x + y < 18446744073709551616) : rbin .add .u64 (x : Int) (y : Int) = ((x + y : Nat) : Int) := (u_add x y).trans (congrArg Int.ofNat (Nat.mod_eq_of_lt h))
theorem q_mul {x y : Nat} (h : x * y < 18446744073709551616) : rbin .mul .u64 (x : Int) (y : Int) = ((x * y : Nat) : Int) := (u_mul x y).trans (congrArg Int.ofNat (Nat.mod_eq_of_lt h))
/-- A number's digits in a row of 17. -/
theorem fromS {lim : Lim} (hl : lim = limR) (a : Nat) (ha : a < 2 ^ 256) (o : Nat → Nat) (ho : o = dg 4294967296 a) : Sp 68 [u4 lim a] (.agg (lg o)) := by
  have hD8 : a < 4294967296 ^ 8 := by rw [pow_D]; exact ha
  have r0 : rbin .rem .u64 (lim a 0) 4294967296 = ((o 0 : Nat) : Int) := by rw [lim_wd hl, q_rem, ho, wd_lo]
  have q0 : rbin .quo .u64 (lim a 0) 4294967296 = ((o 1 : Nat) : Int) := by rw [lim_wd hl, q_quo (wd_lt a 0), ho, wd_hi]
  have r1 : rbin .rem .u64 (lim a 1) 4294967296 = ((o 2 : Nat) : Int) := by rw [lim_wd hl, q_rem, ho, wd_lo]
  have q1 : rbin .quo .u64 (lim a 1) 4294967296 = ((o 3 : Nat) : Int) := by rw [lim_wd hl, q_quo (wd_lt a 1), ho, wd_hi]
  have r2 : rbin .rem .u64 (lim a 2) 4294967296 = ((o 4 : Nat) : Int) := by rw [lim_wd hl, q_rem, ho, wd_lo]
  have q2 : rbin .quo .u64 (lim a 2) 4294967296 = ((o 5 : Nat) : Int) := by rw [lim_wd hl, q_quo (wd_lt a 2), ho, wd_hi]
  have r3 : rbin .rem .u64 (lim a 3) 4294967296 = ((o 6 : Nat) : Int) := by rw [lim_wd hl, q_rem, ho, wd_lo]
  have q3 : rbin .quo .u64 (lim a 3) 4294967296 = ((o 7 : Nat) : Int) := by rw [lim_wd hl, q_quo (wd_lt a 3), ho, wd_hi]
  have z8 : (0 : Int) = ((o 8 : Nat) : Int) := by rw [ho, dg_zero hD8 (by decide)]; rfl
  have z9 : (0 : Int) = ((o 9 : Nat) : Int) := by rw [ho, dg_zero hD8 (by decide)]; rfl
  have z10 : (0 : Int) = ((o 10 : Nat) : Int) := by rw [ho, dg_zero hD8 (by decide)]; rfl
  have z11 : (0 : Int) = ((o 11 : Nat) : Int) := by rw [ho, dg_zero hD8 (by decide)]; rfl
  have z12 : (0 : Int) = ((o 12 : Nat) : Int) := by rw [ho, dg_zero hD8 (by decide)]; rfl
  have z13 : (0 : Int) = ((o 13 : Nat) : Int) := by rw [ho, dg_zero hD8 (by decide)]; rfl
  have z14 : (0 : Int) = ((o 14 : Nat) : Int) := by rw [ho, dg_zero hD8 (by decide)]; rfl
  have z15 : (0 : Int) = ((o 15 : Nat) : Int) := by rw [ho, dg_zero hD8 (by decide)]; rfl
  have z16 : (0 : Int) = ((o 16 : Nat) : Int) := by rw [ho, dg_zero hD8 (by decide)]; rfl
  clear ho
  refine mk Tryz.func68 rfl rfl L0 R0 (by decide +kernel) fun A S hA hS => ?_
  have r0 : A.bin .rem .u64 (lim a 0) 4294967296 = ((o 0 : Nat) : Int) := by rw [hA]; exact r0
  have q0 : A.bin .quo .u64 (lim a 0) 4294967296 = ((o 1 : Nat) : Int) := by rw [hA]; exact q0
  have r1 : A.bin .rem .u64 (lim a 1) 4294967296 = ((o 2 : Nat) : Int) := by rw [hA]; exact r1
  have q1 : A.bin .quo .u64 (lim a 1) 4294967296 = ((o 3 : Nat) : Int) := by rw [hA]; exact q1
  have r2 : A.bin .rem .u64 (lim a 2) 4294967296 = ((o 4 : Nat) : Int) := by rw [hA]; exact r2
  have q2 : A.bin .quo .u64 (lim a 2) 4294967296 = ((o 5 : Nat) : Int) := by rw [hA]; exact q2
  have r3 : A.bin .rem .u64 (lim a 3) 4294967296 = ((o 6 : Nat) : Int) := by rw [hA]; exact r3
  have q3 : A.bin .quo .u64 (lim a 3) 4294967296 = ((o 7 : Nat) : Int) := by rw [hA]; exact q3
  unfold bodyOf Tryz.f68
  cbv
  repeat' (first | exact r0 | exact r1 | exact r2 | exact r3 | exact q0 | exact q1 | exact q2 | exact q3 | exact z8 | exact z9 | exact z10 | exact z11 | exact z12 | exact z13 | exact z14 | exact z15 | exact z16 | exact trivial | exact rfl | constructor)
theorem toS {lim : Lim} (hl : lim = limR) (o : Nat → Nat) (ho : ∀ j, j < 8 → o j < 4294967296) : Sp 69 [.agg (lg o)] (u4 lim (V 4294967296 o 8)) := by
  have key : ∀ i, i < 4 → rbin .add .u64 ((o (2 * i) : Nat) : Int) (rbin .mul .u64 ((o (2 * i + 1) : Nat) : Int) 4294967296) = lim (V 4294967296 o 8) i := fun i hi => by
    have h1 := ho (2 * i) (by omega)
    have h2 := ho (2 * i + 1) (by omega)
    have e1 : rbin .mul .u64 ((o (2 * i + 1) : Nat) : Int) 4294967296 = ((o (2 * i + 1) * 4294967296 : Nat) : Int) := q_mul (y := 4294967296) (by omega)
    rw [e1, q_add (by omega), lim_wd hl, ← wd_of]
    have e2 := fun j (hj : j < 8) => V_dig (B := 4294967296) (by decide) 8 ho j hj
    have a1 : dg 4294967296 (V 4294967296 o 8) (2 * i) = o (2 * i) := e2 _ (by omega)
    have a2 : dg 4294967296 (V 4294967296 o 8) (2 * i + 1) = o (2 * i + 1) := e2 _ (by omega)
    rw [a1, a2]
  have k0 := key 0 (by decide)
  have k1 := key 1 (by decide)
  have k2 := key 2 (by decide)
  have k3 := key 3 (by decide)
  clear key ho
  generalize V 4294967296 o 8 = v at *
  refine mk Tryz.func69 rfl rfl L0 R0 (by decide +kernel) fun A S hA hS => ?_
  have k0 : A.bin .add .u64 ((o 0 : Nat) : Int) (A.bin .mul .u64 ((o 1 : Nat) : Int) 4294967296) = lim v 0 := by rw [hA]; exact k0
  have k1 : A.bin .add .u64 ((o 2 : Nat) : Int) (A.bin .mul .u64 ((o 3 : Nat) : Int) 4294967296) = lim v 1 := by rw [hA]; exact k1
  have k2 : A.bin .add .u64 ((o 4 : Nat) : Int) (A.bin .mul .u64 ((o 5 : Nat) : Int) 4294967296) = lim v 2 := by rw [hA]; exact k2
  have k3 : A.bin .add .u64 ((o 6 : Nat) : Int) (A.bin .mul .u64 ((o 7 : Nat) : Int) 4294967296) = lim v 3 := by rw [hA]; exact k3
  unfold bodyOf Tryz.f69
  cbv
  repeat' (first | exact k0 | exact k1 | exact k2 | exact k3 | exact trivial | exact rfl | constructor)
theorem plusS (a b : Nat → Nat) (ha : ∀ j, j < 17 → a j < 4294967296) (hb : ∀ j, j < 17 → b j < 4294967296) : ∃ c : Nat → Nat, ∃ k, SK a b 17 c k ∧ Sp 67 [.agg (lg a), .agg (lg b)] (.agg (lg c)) := by
  obtain ⟨x, hx⟩ : ∃ x : Nat → (Nat → Nat) × Nat, x = fun n => n.rec (fun _ => 0, 0) fun n p => (upd p.1 n ((a n + b n + p.2) % 4294967296), (a n + b n + p.2) / 4294967296) := ⟨_, rfl⟩
  have hx0 : x 0 = (fun _ => 0, 0) := by subst hx; rfl
  have hxs : ∀ n, x (n + 1) = (upd (x n).1 n ((a n + b n + (x n).2) % 4294967296), (a n + b n + (x n).2) / 4294967296) := fun n => by subst hx; rfl
  have hinv : ∀ n, n ≤ 17 → SK a b n (x n).1 (x n).2 := by
    intro n
    induction n with
    | zero => intro _; rw [hx0]; exact ⟨rfl, fun j h => absurd h (by omega), by decide⟩
    | succ n ih =>
      intro h
      have := (ih (by omega)).step (ha n (by omega)) (hb n (by omega))
      rw [hxs n]; exact this
  refine ⟨(x 17).1, (x 17).2, hinv 17 (Nat.le_refl _), ?_⟩
  clear hx
  refine mk Tryz.func67 rfl rfl L00 R1 (by decide +kernel) fun A S hA hS => ?_
  unfold bodyOf Tryz.f67
  cbv
  refine .inv (α := Nat) (fun i => ⟨[.any, .any, .own 0 0, .own 1 0, .own 2 0, .own 3 0, .s .u64 (((x i).2 : Nat) : Int), .s .i64 ((i : Nat) : Int), .any, .any, .any, .any, .any, .any, .any, .any, .any, .any, .any, .any, .any, .any, .any, .any, .any, .any, .any, .any, .any], [⟨true, true, lg a⟩, ⟨true, true, lg b⟩, ⟨true, true, [.i .u64 0, .i .u64 0, .i .u64 0, .i .u64 0, .i .u64 0, .i .u64 0, .i .u64 0, .i .u64 0, .i .u64 0, .i .u64 0, .i .u64 0, .i .u64 0, .i .u64 0, .i .u64 0, .i .u64 0, .i .u64 0, .i .u64 0]⟩, ⟨true, true, lg (x i).1⟩]⟩) (fun i => i ≤ 17) (fun i => 17 - i) 0 ?_ (Nat.zero_le _) ?_
  · rw [hx0]
    cbv
    repeat' (first | exact rfl | exact trivial | constructor)
  intro i hi17
  dsimp only at hi17 ⊢
  by_cases hi : i < 17
  · have hs := hxs i
    have iv := hinv i hi17
    have hc := iv.bnd
    have a1 := ha i hi
    have b1 := hb i hi
    have hn := nx hA i (by omega)
    have p1 : i + 1 ≤ 17 := hi
    have p2 : 17 - (i + 1) < 17 - i := by omega
    clear hxs hinv hx0 iv ha hb
    generalize i + 1 = i1 at *
    obtain ⟨y, hy⟩ : ∃ y, y = x i1 := ⟨_, rfl⟩
    rw [← hy] at hs
    generalize x i = xi at *
    obtain ⟨o, c⟩ := xi
    dsimp only at hs hc ⊢
    obtain ⟨t, ht⟩ : ∃ t, t = a i + b i + c := ⟨_, rfl⟩
    rw [← ht] at hs
    have e1 : A.bin .add .u64 (A.bin .add .u64 ((a i : Nat) : Int) ((b i : Nat) : Int)) ((c : Nat) : Int) = (t : Int) := by
      rw [hA]; exact (congrArg (fun z => rbin .add .u64 z _) (q_add (by omega))).trans ((q_add (by omega)).trans (by rw [ht]))
    have e2 : A.bin .rem .u64 (A.bin .add .u64 (A.bin .add .u64 ((a i : Nat) : Int) ((b i : Nat) : Int)) ((c : Nat) : Int)) 4294967296 = ((t % 4294967296 : Nat) : Int) := by rw [e1, hA]; exact q_rem t
    have e3 : A.bin .quo .u64 (A.bin .add .u64 (A.bin .add .u64 ((a i : Nat) : Int) ((b i : Nat) : Int)) ((c : Nat) : Int)) 4294967296 = ((t / 4294967296 : Nat) : Int) := by rw [e1, hA]; exact q_quo (by omega)
    have hput := lg_put hA o y.1 i hi (e2.trans (by rw [hs]; exact congrArg Int.ofNat (upd_eq _ _ _).symm)) (fun m h => by rw [hs]; exact upd_ne _ _ _ _ h)
    have e4 : A.bin .quo .u64 (A.bin .add .u64 (A.bin .add .u64 ((a i : Nat) : Int) ((b i : Nat) : Int)) ((c : Nat) : Int)) 4294967296 = ((y.2 : Nat) : Int) := by rw [e3, hs]
    have la := lg_get hA a i hi
    have lb := lg_get hA b i hi
    have hcmp := lt_t hA (n := 17) rfl hi
    clear e1 e2 e3 hs ht a1 b1 hc
    rw [hy] at hput e4
    clear hy y
    cbv
    refine ABr.t hcmp ?_
    cbv
    refine .sym i rfl hi ?_
    cbv
    refine .mk _ la ?_
    cbv
    refine .sym i rfl hi ?_
    cbv
    refine .mk _ lb ?_
    cbv
    refine .sym i rfl hi ?_
    cbv
    refine .mk _ hput ?_
    cbv
    refine ⟨i1, ?_, p1, p2⟩
    cbv
    repeat' (first | exact hn | exact e4 | exact rfl | exact trivial | constructor)
  · obtain rfl : i = 17 := by omega
    have hcmp := lt_f hA (x := 17) (n := 17) rfl (by decide)
    generalize x 17 = y at *
    cbv
    refine ABr.f hcmp ?_
    cbv
/-- Which is the greater. -/
theorem orderS (a b : Nat → Nat) (ha : ∀ j, j < 17 → a j < 4294967296) (hb : ∀ j, j < 17 → b j < 4294967296) (z : Int) (hz : z = cmpZ (V 4294967296 a 17) (V 4294967296 b 17)) : Sp 122 [.agg (lg a), .agg (lg b)] (.s .i64 z) := by
  refine mk Tryz.func122 rfl rfl L00 R1 (by decide +kernel) fun A S hA hS => ?_
  unfold bodyOf Tryz.f122
  cbv
  refine .inv (α := Nat × Int) (fun p => ⟨[.any, .any, .own 0 0, .own 1 0, .i .i64 0, .s .i64 p.2, .any, .any, .any, .any, .any, .any, .any, .any, .any, .any, .any, .any, .any, .any, .any, .any, .any, .any], [⟨true, true, lg a⟩, ⟨true, true, lg b⟩]⟩) (fun p => p.1 ≤ 17 ∧ p.2 = (p.1 : Int) - 1 ∧ ∀ j, p.1 ≤ j → j < 17 → a j = b j) (fun p => p.1) (17, 16) ?_ ⟨Nat.le_refl _, rfl, fun j h1 h2 => absurd h1 (by omega)⟩ ?_
  · cbv
    repeat' (first | exact rfl | exact trivial | constructor)
  rintro ⟨k, q⟩ ⟨h1, h2, h3⟩
  dsimp only at h1 h2 h3 ⊢
  by_cases hk : k = 0
  · subst hk
    have hge : A.cmp .geq q 0 = false := (i_ge hA).trans (decide_eq_false (by omega))
    have hz0 : (0 : Int) = z := by
      rw [hz, V_congr (B := 4294967296) (o := a) (p := b) 17 (fun j hj => h3 j (Nat.zero_le _) hj)]
      unfold cmpZ
      rw [if_neg (Nat.lt_irrefl _), if_neg (Nat.lt_irrefl _)]
    cbv
    refine ABr.f hge ?_
    cbv
    exact hz0
  · obtain ⟨i, rfl⟩ : ∃ i, k = i + 1 := ⟨k - 1, by omega⟩
    obtain rfl : q = (i : Int) := by omega
    have hge : A.cmp .geq (i : Int) 0 = true := (i_ge hA).trans (decide_eq_true (by omega))
    have hi : i < 17 := by omega
    have la := lg_get hA a i hi
    have lb := lg_get hA b i hi
    by_cases c1 : a i < b i
    · have e1 : A.cmp .lss ((a i : Nat) : Int) ((b i : Nat) : Int) = true := (i_lt hA).trans (decide_eq_true (by omega))
      have hlt := V_cmp_lt (B := 4294967296) ha hb hi (fun j h h' => h3 j (by omega) h') c1
      have hz1 : (-1 : Int) = z := by rw [hz]; unfold cmpZ; rw [if_pos hlt]
      clear hlt hz h3 h2
      cbv
      refine ABr.t hge ?_
      cbv
      refine .sym i rfl hi ?_
      cbv
      refine .mk _ la ?_
      cbv
      refine .sym i rfl hi ?_
      cbv
      refine .mk _ lb ?_
      cbv
      refine ABr.t e1 ?_
      cbv
      exact hz1
    · have e1 : A.cmp .lss ((a i : Nat) : Int) ((b i : Nat) : Int) = false := (i_lt hA).trans (decide_eq_false (by omega))
      by_cases c2 : b i < a i
      · have e2 : A.cmp .gtr ((a i : Nat) : Int) ((b i : Nat) : Int) = true := by rw [hA]; exact decide_eq_true (by omega)
        have hlt := V_cmp_lt (B := 4294967296) hb ha hi (fun j h h' => (h3 j (by omega) h').symm) c2
        have hz1 : (1 : Int) = z := by rw [hz]; unfold cmpZ; rw [if_neg (by omega), if_pos hlt]
        clear hlt hz h3 h2
        cbv
        refine ABr.t hge ?_
        cbv
        refine .sym i rfl hi ?_
        cbv
        refine .mk _ la ?_
        cbv
        refine .sym i rfl hi ?_
        cbv
        refine .mk _ lb ?_
        cbv
        refine ABr.f e1 ?_
        cbv
        refine .sym i rfl hi ?_
        cbv
        refine .mk _ la ?_
        cbv
        refine .sym i rfl hi ?_
        cbv
        refine .mk _ lb ?_
        cbv
        refine ABr.t e2 ?_
        cbv
        exact hz1
      · have e2 : A.cmp .gtr ((a i : Nat) : Int) ((b i : Nat) : Int) = false := by rw [hA]; exact decide_eq_false (by omega)
        have h4 : ∀ j, i ≤ j → j < 17 → a j = b j := fun j h h' => by
          by_cases e : j = i
          · subst e; omega
          · exact h3 j (by omega) h'
        obtain ⟨y, hy⟩ : ∃ y : Int, y = (i : Int) - 1 := ⟨_, rfl⟩
        have hsub : A.bin .sub .i64 ((i : Nat) : Int) 1 = y := e_sub hA rfl rfl hy.symm (by omega)
        have p1 : i ≤ 17 := by omega
        have p2 : i < i + 1 := by omega
        clear hz h3 h2
        cbv
        refine ABr.t hge ?_
        cbv
        refine .sym i rfl hi ?_
        cbv
        refine .mk _ la ?_
        cbv
        refine .sym i rfl hi ?_
        cbv
        refine .mk _ lb ?_
        cbv
        refine ABr.f e1 ?_
        cbv
        refine .sym i rfl hi ?_
        cbv
        refine .mk _ la ?_
        cbv
        refine .sym i rfl hi ?_
        cbv
        refine .mk _ lb ?_
        cbv
        refine ABr.f e2 ?_
        cbv
        refine ⟨(i, y), ?_, ⟨p1, hy, h4⟩, p2⟩
        cbv
        repeat' (first | exact hsub | exact rfl | exact trivial | constructor)
theorem num8 {a : Nat} (ha : a < 2 ^ 256) : V 4294967296 (dg 4294967296 a) 17 = a := by
  have : a < 4294967296 ^ 17 := Nat.lt_of_lt_of_le ha (by rw [pow_D]; exact Nat.pow_le_pow_right (by decide) (by decide))
  exact V_num this
theorem rCmpS {lim : Lim} (hl : lim = limR) (x y : Nat) (hx : x < 2 ^ 256) (hy : y < 2 ^ 256) : Sp 81 [u4 lim x, u4 lim y] (.s .i64 (cmpZ x y)) := by
  have fx := fromS hl x hx _ rfl
  have fy := fromS hl y hy _ rfl
  have co := orderS (dg 4294967296 x) (dg 4294967296 y) (fun j _ => dg_lt (by decide) x j) (fun j _ => dg_lt (by decide) y j) (cmpZ x y) (by rw [num8 hx, num8 hy])
  generalize dg 4294967296 x = a at *
  generalize dg 4294967296 y = b at *
  generalize cmpZ x y = z at *
  refine mk Tryz.func81 rfl rfl L0 R1 (by decide +kernel) fun A S hA hS => ?_
  unfold bodyOf Tryz.f81
  cbv
  refine ACall.mk _ (cf hS fx) ?_
  cbv
  refine ACall.mk _ (cf hS fy) ?_
  cbv
  refine ACall.mk _ (cf hS co) ?_
  cbv
theorem rAddS {lim : Lim} (hl : lim = limR) (x y : Nat) (hx : x < 2 ^ 256) (hy : y < 2 ^ 256) : Sp 25 [u4 lim x, u4 lim y] (u4 lim ((x + y) % 2 ^ 256)) := by
  have fx := fromS hl x hx _ rfl
  have fy := fromS hl y hy _ rfl
  obtain ⟨c, k, hc, cp⟩ := plusS (dg 4294967296 x) (dg 4294967296 y) (fun j _ => dg_lt (by decide) x j) (fun j _ => dg_lt (by decide) y j)
  have ct := toS hl c (fun j hj => hc.dig j (by omega))
  have e : V 4294967296 c 8 = (x + y) % 2 ^ 256 := by
    have hv := hc.val
    rw [num8 hx, num8 hy] at hv
    have h2 := V_shift (B := 4294967296) c 8 9
    have h3 : V 4294967296 c 8 < 4294967296 ^ 8 := V_lt 8 (fun j hj => hc.dig j (by omega))
    rw [show 8 + 9 = 17 from rfl] at h2
    have p8 : 4294967296 ^ 8 = 2 ^ 256 := pow_D 8
    rw [show (17 : Nat) = 8 + 9 from rfl, Nat.pow_add, ← Nat.mul_assoc, Nat.mul_comm k, Nat.mul_assoc, show 8 + 9 = 17 from rfl, h2, Nat.add_assoc, ← Nat.mul_add] at hv
    rw [← hv, ← p8, Nat.add_mul_mod_self_left, Nat.mod_eq_of_lt h3]
  rw [e] at ct
  generalize (x + y) % 2 ^ 256 = z at *
  generalize dg 4294967296 x = a at *
  generalize dg 4294967296 y = b at *
  clear hc
  refine mk Tryz.func25 rfl rfl L0 R1 (by decide +kernel) fun A S hA hS => ?_
  unfold bodyOf Tryz.f25
  cbv
  refine ACall.mk _ (cf hS fx) ?_
  cbv
  refine ACall.mk _ (cf hS fy) ?_
  cbv
  refine ACall.mk _ (cf hS cp) ?_
  cbv
  refine ACall.mk _ (cf hS ct) ?_
  cbv
theorem nt_sub {w : Nat} (hw : w < 18446744073709551616) : Kk.nt w = 18446744073709551615 - w := by
  have h : w < 2 ^ 64 := by simpa using hw
  unfold Kk.nt
  apply Nat.eq_of_testBit_eq
  intro i
  rw [show 18446744073709551615 - w = 2 ^ 64 - (w + 1) by omega, Nat.testBit_two_pow_sub_succ h, Nat.testBit_xor, show (18446744073709551615 : Nat) = 2 ^ 64 - 1 by decide, Nat.testBit_two_pow_sub_one]
  by_cases hi : i < 64
  · simp [hi]
  · have : w.testBit i = false := Nat.testBit_lt_two_pow (Nat.lt_of_lt_of_le h (Nat.pow_le_pow_right (by decide) (by omega)))
    simp [hi, this]
theorem un_not {x : Int} (hx : 0 ≤ x ∧ x < 18446744073709551616) : run1 .xor .u64 x = 18446744073709551615 - x := by
  obtain ⟨w, rfl⟩ : ∃ n : Nat, x = n := ⟨x.toNat, by omega⟩
  refine (Kk.u_not w (by omega)).trans ?_
  rw [nt_sub (by omega)]
  show ((18446744073709551615 - w : Nat) : Int) = _
  omega
theorem rNotS {lim : Lim} (hl : lim = limR) (a : Nat) (ha : a < 2 ^ 256) : Sp 152 [u4 lim a] (u4 lim (2 ^ 256 - 1 - a)) := by
  have la := fun i => lim_range hl a i
  have s := split4 hl a ha
  have l0 := la 0
  have l1 := la 1
  have l2 := la 2
  have l3 := la 3
  have h := lim_of4 hl (a := 2 ^ 256 - 1 - a) (by omega) (x0 := 18446744073709551615 - lim a 0) (x1 := 18446744073709551615 - lim a 1) (x2 := 18446744073709551615 - lim a 2) (x3 := 18446744073709551615 - lim a 3) (by omega) (by omega) (by omega) (by
    have : ((2 ^ 256 - 1 - a : Nat) : Int) = 2 ^ 256 - 1 - (a : Int) := by omega
    rw [this]
    omega)
  obtain ⟨h0, h1, h2, h3⟩ := h
  have n0 := un_not l0
  have n1 := un_not l1
  have n2 := un_not l2
  have n3 := un_not l3
  rw [← h0] at n0
  rw [← h1] at n1
  rw [← h2] at n2
  rw [← h3] at n3
  clear h0 h1 h2 h3 s
  generalize 2 ^ 256 - 1 - a = b at *
  refine mk Tryz.func152 rfl rfl L0 R1 (by decide +kernel) fun A S hA hS => ?_
  have n0 : A.un .xor .u64 (lim a 0) = lim b 0 := by rw [hA]; exact n0
  have n1 : A.un .xor .u64 (lim a 1) = lim b 1 := by rw [hA]; exact n1
  have n2 : A.un .xor .u64 (lim a 2) = lim b 2 := by rw [hA]; exact n2
  have n3 : A.un .xor .u64 (lim a 3) = lim b 3 := by rw [hA]; exact n3
  unfold bodyOf Tryz.f152
  cbv
  repeat' (first | exact n0 | exact n1 | exact n2 | exact n3 | exact trivial | exact rfl | constructor)
theorem rOfS {lim : Lim} (hl : lim = limR) : Sp 153 [.i .u64 1] (u4 lim 1) := by
  have e0 : lim 1 0 = 1 := by rw [hl]; rfl
  have es : ∀ i, i < 3 → lim 1 (i + 1) = 0 := fun i hi => by
    rw [hl]; show ((1 / 2 ^ (64 * (i + 1)) % 2 ^ 64 : Nat) : Int) = 0
    rw [Nat.div_eq_of_lt (Nat.one_lt_two_pow (by omega))]; rfl
  refine mk Tryz.func153 rfl rfl L0 R1 (by decide +kernel) fun A S hA hS => ?_
  unfold bodyOf Tryz.f153
  cbv
  repeat' (first | exact e0.symm | exact (es _ (by decide)).symm | exact trivial | constructor)
theorem rNegS {lim : Lim} (hl : lim = limR) (a : Nat) (ha : a < 2 ^ 256) : Sp 129 [u4 lim a] (u4 lim ((2 ^ 256 - a) % 2 ^ 256)) := by
  have cn := rNotS hl a ha
  have co := rOfS hl
  have ca := rAddS hl (2 ^ 256 - 1 - a) 1 (by omega) (by decide)
  rw [show 2 ^ 256 - 1 - a + 1 = 2 ^ 256 - a by omega] at ca
  generalize (2 ^ 256 - a) % 2 ^ 256 = z at *
  generalize 2 ^ 256 - 1 - a = y at *
  refine mk Tryz.func129 rfl rfl L0 R1 (by decide +kernel) fun A S hA hS => ?_
  unfold bodyOf Tryz.f129
  cbv
  refine ACall.mk _ (cf hS cn) ?_
  cbv
  refine ACall.mk _ (cf hS co) ?_
  cbv
  refine ACall.mk _ (cf hS ca) ?_
  cbv
theorem rSubS {lim : Lim} (hl : lim = limR) (x y : Nat) (hx : x < 2 ^ 256) (hy : y ≤ x) : Sp 92 [u4 lim x, u4 lim y] (u4 lim (x - y)) := by
  have cn := rNegS hl y (by omega)
  have ca := rAddS hl x ((2 ^ 256 - y) % 2 ^ 256) hx (Nat.mod_lt _ (by decide))
  have e : (x + (2 ^ 256 - y) % 2 ^ 256) % 2 ^ 256 = x - y := by
    rw [Nat.add_mod_mod]
    omega
  rw [e] at ca
  generalize (2 ^ 256 - y) % 2 ^ 256 = w at *
  generalize x - y = z at *
  refine mk Tryz.func92 rfl rfl L0 R1 (by decide +kernel) fun A S hA hS => ?_
  unfold bodyOf Tryz.f92
  cbv
  refine ACall.mk _ (cf hS cn) ?_
  cbv
  refine ACall.mk _ (cf hS ca) ?_
  cbv
end Go.Proofs.YtkhipnhdbaahcaaGreat
end
section
set_option linter.unusedVariables false
set_option linter.unusedSimpArgs false
namespace Go.Proofs.YtkhipnhdbaahcaaGreat
open Go Eng
set_option maxRecDepth 100000
set_option exponentiation.threshold 2000
set_option maxHeartbeats 8000000
open Dg
def RTi : Nat → Md := fun r => match r with | 1 => .res [] | _ => .mid
theorem rTimesS {lim : Lim} (hl : lim = limR) (x y : Nat) (hx : x < 2 ^ 256) (hy : y < 2 ^ 256) (z : Nat → Nat) (hz : z = dg 4294967296 (x * y)) : Sp 95 [u4 lim x, u4 lim y] (.agg (lg z)) := by
  have fx := fromS hl x hx _ rfl
  have fy := fromS hl y hy _ rfl
  have p8 : 4294967296 ^ 8 = 2 ^ 256 := pow_D 8
  have ex : V 4294967296 (dg 4294967296 x) 8 = x := V_num (by rw [p8]; exact hx)
  have ey : V 4294967296 (dg 4294967296 y) 8 = y := V_num (by rw [p8]; exact hy)
  have ha : ∀ j, dg 4294967296 x j < 4294967296 := fun j => dg_lt (by decide) x j
  have hb : ∀ j, dg 4294967296 y j < 4294967296 := fun j => dg_lt (by decide) y j
  generalize dg 4294967296 x = a at *
  generalize dg 4294967296 y = b at *
  obtain ⟨Y, hY⟩ : ∃ Y, Y = V 4294967296 b 8 := ⟨_, rfl⟩
  have hxy : V 4294967296 a 8 * Y = x * y := by rw [hY, ex, ey]
  clear ex ey
  refine mk Tryz.func95 rfl rfl L00 RTi (by decide +kernel) fun A S hA hS => ?_
  unfold bodyOf Tryz.f95
  cbv
  refine ACall.mk _ (cf hS fx) ?_
  cbv
  refine ACall.mk _ (cf hS fy) ?_
  cbv
  refine .inv (α := Nat × (Nat → Nat)) (fun p => ⟨[.any, .any, .any, .any, .own 2 0, .own 3 0, .own 4 0, .own 5 0, .s .i64 ((p.1 : Nat) : Int), .any, .any, .any, .any, .any, .any, .any, .any, .any, .any, .any, .any, .any, .any, .any, .any, .any, .any, .any, .any, .any, .any, .any, .any, .any, .any, .any, .any, .any, .any, .any, .any, .any, .any, .any, .any, .any, .any, .any, .any, .any, .any, .any, .any, .any, .any, .any, .any], [⟨true, true, [.any, .any, .any, .any]⟩, ⟨true, true, [.any, .any, .any, .any]⟩, ⟨true, true, [.i .u64 0, .i .u64 0, .i .u64 0, .i .u64 0, .i .u64 0, .i .u64 0, .i .u64 0, .i .u64 0, .i .u64 0, .i .u64 0, .i .u64 0, .i .u64 0, .i .u64 0, .i .u64 0, .i .u64 0, .i .u64 0, .i .u64 0]⟩, ⟨true, true, lg a⟩, ⟨true, true, lg b⟩, ⟨true, true, lg p.2⟩]⟩) (fun p => p.1 ≤ 8 ∧ TK (V 4294967296 a p.1 * Y) p.1 0 a b p.2 0) (fun p => 8 - p.1) (0, fun _ => 0) ?_ ⟨Nat.zero_le _, ⟨by show V 4294967296 (fun _ => 0) 17 + 0 * _ = 0 * Y + a 0 * 0 * _; rw [V_zero (fun _ _ => rfl)]; simp, fun _ => (show 0 < 4294967296 by decide), fun _ _ => rfl, by decide⟩⟩ ?_
  · cbv
    repeat' (first | exact rfl | exact trivial | constructor)
  rintro ⟨i, o⟩ ⟨h1, h2⟩
  dsimp only at h1 h2 ⊢
  by_cases hi : i < 8
  · have hcmp := lt_t hA (n := 8) rfl hi
    have hni := nx hA i (by omega)
    have k8 := n_ad hA i 8 (by omega) (ki := 8) rfl
    have q1 : i + 1 ≤ 8 := hi
    have q2 : 8 - (i + 1) < 8 - i := by omega
    obtain ⟨E, hE⟩ : ∃ E, E = V 4294967296 a i * Y := ⟨_, rfl⟩
    have hEn : E + a i * Y * 4294967296 ^ i = V 4294967296 a (i + 1) * Y := by
      rw [hE, V, Nat.add_mul]; congr 1; ac_rfl
    rw [← hE] at h2
    rw [hY] at hEn
    have hik : ∀ k, k < 8 → A.bin .add .i64 ((i : Nat) : Int) ((k : Nat) : Int) = ((i + k : Nat) : Int) := fun k hk => n_add hA i k (by omega)
    have la := lg_get hA a i (by omega)
    have b17 : i < 17 := by omega
    have i8 : i + 8 < 17 := by omega
    have hlast : ∀ (o : Nat → Nat) (c : Nat), TK E i 8 a b o c → o (i + 8) + c < 4294967296 ∧ TK (V 4294967296 a (i + 1) * Y) (i + 1) 0 a b (upd o (i + 8) (o (i + 8) + c)) 0 := fun o c h => by
      obtain ⟨g1, g2⟩ := h.next hi
      rw [hEn, ← hY] at g2
      exact ⟨g1, g2⟩
    clear hE hEn
    generalize hi1 : i + 1 = i1 at *
    cbv
    refine ABr.t hcmp ?_
    cbv
    refine .inv (α := Nat × (Nat → Nat) × Nat) (fun p => ⟨[.any, .any, .any, .any, .own 2 0, .own 3 0, .own 4 0, .own 5 0, .s .i64 ((i : Nat) : Int), .s .u64 ((p.2.2 : Nat) : Int), .s .i64 ((p.1 : Nat) : Int), .any, .any, .any, .any, .any, .any, .any, .any, .any, .any, .any, .any, .any, .any, .any, .any, .any, .any, .any, .any, .any, .any, .any, .any, .any, .any, .any, .any, .any, .any, .any, .any, .any, .any, .any, .any, .any, .any, .any, .any, .any, .any, .any, .any, .any, .any], [⟨true, true, [.any, .any, .any, .any]⟩, ⟨true, true, [.any, .any, .any, .any]⟩, ⟨true, true, [.i .u64 0, .i .u64 0, .i .u64 0, .i .u64 0, .i .u64 0, .i .u64 0, .i .u64 0, .i .u64 0, .i .u64 0, .i .u64 0, .i .u64 0, .i .u64 0, .i .u64 0, .i .u64 0, .i .u64 0, .i .u64 0, .i .u64 0]⟩, ⟨true, true, lg a⟩, ⟨true, true, lg b⟩, ⟨true, true, lg p.2.1⟩]⟩) (fun p => p.1 ≤ 8 ∧ TK E i p.1 a b p.2.1 p.2.2) (fun p => 8 - p.1) (0, o, 0) ?_ ⟨Nat.zero_le _, h2⟩ ?_
    · cbv
      repeat' (first | exact rfl | exact trivial | constructor)
    clear h2 o
    rintro ⟨k, o, c⟩ ⟨g1, g2⟩
    dsimp only at g1 g2 ⊢
    by_cases hk : k < 8
    · have hs := g2.step hi hk (ha i) (hb k)
      have o1 := g2.dig (i + k)
      have c1 := g2.bnd
      have a1 := ha i
      have b1 := hb k
      have hab : a i * b k ≤ 4294967295 * 4294967295 := Nat.mul_le_mul (by omega) (by omega)
      obtain ⟨t, ht⟩ : ∃ t, t = o (i + k) + a i * b k + c := ⟨_, rfl⟩
      rw [← ht] at hs
      obtain ⟨o2, ho2⟩ : ∃ o2, o2 = upd o (i + k) (t % 4294967296) := ⟨_, rfl⟩
      rw [← ho2] at hs
      have w1 : o2 (i + k) = t % 4294967296 := by rw [ho2]; exact upd_eq _ _ _
      have w2 : ∀ m, m ≠ i + k → o2 m = o m := fun m h => by rw [ho2]; exact upd_ne _ _ _ _ h
      have e1 : A.bin .add .u64 (A.bin .add .u64 ((o (i + k) : Nat) : Int) (A.bin .mul .u64 ((a i : Nat) : Int) ((b k : Nat) : Int))) ((c : Nat) : Int) = (t : Int) := by
        rw [hA]
        exact (congrArg (fun z => rbin .add .u64 (rbin .add .u64 _ z) _) (q_mul (by omega))).trans ((congrArg (fun z => rbin .add .u64 z _) (q_add (by omega))).trans ((q_add (by omega)).trans (by rw [ht])))
      have htW : t < 18446744073709551616 := by omega
      have e2 : A.bin .rem .u64 (A.bin .add .u64 (A.bin .add .u64 ((o (i + k) : Nat) : Int) (A.bin .mul .u64 ((a i : Nat) : Int) ((b k : Nat) : Int))) ((c : Nat) : Int)) 4294967296 = ((t % 4294967296 : Nat) : Int) := by rw [e1, hA]; exact q_rem t
      have e3 : A.bin .quo .u64 (A.bin .add .u64 (A.bin .add .u64 ((o (i + k) : Nat) : Int) (A.bin .mul .u64 ((a i : Nat) : Int) ((b k : Nat) : Int))) ((c : Nat) : Int)) 4294967296 = ((t / 4294967296 : Nat) : Int) := by rw [e1, hA]; exact q_quo htW
      have bik : i + k < 17 := by omega
      have hput := lg_put hA o o2 (i + k) bik (e2.trans (congrArg Int.ofNat w1.symm)) w2
      have lo := lg_get hA o (i + k) bik
      have lb := lg_get hA b k (by omega)
      have bk : k < 17 := by omega
      have hikk := hik k hk
      have hcmpk := lt_t hA (n := 8) rfl hk
      have hnk := nx hA k (by omega)
      have p1 : k + 1 ≤ 8 := hk
      have p2 : 8 - (k + 1) < 8 - k := by omega
      clear hlast hik e1 e2 ho2 w1 w2 ht htW hab g2 o1 c1 a1 b1
      generalize i + k = ik at *
      generalize k + 1 = k1 at *
      generalize t / 4294967296 = c2 at *
      cbv
      refine ABr.t hcmpk ?_
      cbv
      refine .sym ik hikk bik ?_
      cbv
      refine .mk _ lo ?_
      cbv
      refine .sym i rfl b17 ?_
      cbv
      refine .mk _ la ?_
      cbv
      refine .sym k rfl bk ?_
      cbv
      refine .mk _ lb ?_
      cbv
      refine .sym ik hikk bik ?_
      cbv
      refine .mk _ hput ?_
      cbv
      refine ⟨(k1, o2, c2), ?_, ⟨p1, hs⟩, p2⟩
      cbv
      repeat' (first | exact hnk | exact e3 | exact rfl | exact trivial | constructor)
    · obtain rfl : k = 8 := by omega
      obtain ⟨g3, g4⟩ := hlast o c g2
      obtain ⟨o2, ho2⟩ : ∃ o2, o2 = upd o (i + 8) (o (i + 8) + c) := ⟨_, rfl⟩
      rw [← ho2] at g4
      have w1 : o2 (i + 8) = o (i + 8) + c := by rw [ho2]; exact upd_eq _ _ _
      have w2 : ∀ m, m ≠ i + 8 → o2 m = o m := fun m h => by rw [ho2]; exact upd_ne _ _ _ _ h
      have e1 : A.bin .add .u64 ((o (i + 8) : Nat) : Int) ((c : Nat) : Int) = ((o2 (i + 8) : Nat) : Int) := by rw [hA, w1]; exact q_add (by omega)
      have hput := lg_put hA o o2 (i + 8) i8 e1 w2
      have lo := lg_get hA o (i + 8) i8
      have hcmpk := lt_f hA (x := 8) (n := 8) rfl (by decide)
      clear hlast hik e1 ho2 w1 w2 g3 g2
      generalize i + 8 = i9 at *
      cbv
      refine ABr.f hcmpk ?_
      cbv
      refine .sym i9 k8 i8 ?_
      cbv
      refine .mk _ lo ?_
      cbv
      refine .sym i9 k8 i8 ?_
      cbv
      refine .mk _ hput ?_
      cbv
      refine ⟨(i1, o2), ?_, ⟨q1, g4⟩, q2⟩
      cbv
      repeat' (first | exact hni | exact rfl | exact trivial | constructor)
  · obtain rfl : i = 8 := by omega
    have hcmp := lt_f hA (x := 8) (n := 8) rfl (by decide)
    have hv : V 4294967296 o 17 = x * y := by
      have := h2.val
      rw [Nat.zero_mul, Nat.add_zero, show V 4294967296 b 0 = 0 from rfl, Nat.mul_zero, Nat.zero_mul, Nat.add_zero, hxy] at this
      exact this
    have hzz : ∀ j, j < 17 → ((o j : Nat) : Int) = ((z j : Nat) : Int) := fun j hj => by
      rw [hz]; exact congrArg Int.ofNat (V_of (B := 4294967296) (n := 17) (by decide) hv (fun j _ => h2.dig j) hj)
    have z0 := hzz 0 (by decide)
    have z1 := hzz 1 (by decide)
    have z2 := hzz 2 (by decide)
    have z3 := hzz 3 (by decide)
    have z4 := hzz 4 (by decide)
    have z5 := hzz 5 (by decide)
    have z6 := hzz 6 (by decide)
    have z7 := hzz 7 (by decide)
    have z8 := hzz 8 (by decide)
    have z9 := hzz 9 (by decide)
    have z10 := hzz 10 (by decide)
    have z11 := hzz 11 (by decide)
    have z12 := hzz 12 (by decide)
    have z13 := hzz 13 (by decide)
    have z14 := hzz 14 (by decide)
    have z15 := hzz 15 (by decide)
    have z16 := hzz 16 (by decide)
    clear hzz hv h2 hz hxy hY
    cbv
    refine ABr.f hcmp ?_
    cbv
    repeat' (first | exact z0 | exact z1 | exact z2 | exact z3 | exact z4 | exact z5 | exact z6 | exact z7 | exact z8 | exact z9 | exact z10 | exact z11 | exact z12 | exact z13 | exact z14 | exact z15 | exact z16 | exact rfl | exact trivial | constructor)
end Go.Proofs.YtkhipnhdbaahcaaGreat
end
