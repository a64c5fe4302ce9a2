import Derived.Test.YtmholgclgamnnaaGreatQXCA
import Derived.Test.YtmholgclgamnnaaGreatQXCD
import Derived.KernelRfl
set_option linter.unusedVariables false
set_option linter.unusedSimpArgs false
set_option linter.unusedSectionVars false
set_option maxRecDepth 100000
set_option exponentiation.threshold 2000
set_option maxHeartbeats 4000000
section
namespace Go.Proofs.YtmholgclgamnnaaGreat
open Go Eng
theorem a_offs {A : Ar} (hA : A = Ar.real) (off i sz : Nat) : A.offs off i sz = off + i * sz := by rw [hA]; rfl
theorem bitsS {lim : Lim} (e : Nat) : Sp 163 [u4 lim e] (.fn (.func 207) [] [.ref [.s .u64 (lim e 0), .s .u64 (lim e 1), .s .u64 (lim e 2), .s .u64 (lim e 3)] 0]) := by
 refine mkE Tryz.func163 rfl rfl LN R1 (by decide +kernel) fun A S hA hS => ?_
 unfold bodyOf Tryz.f163
 cbv
theorem bitsI {c0 c1 c2 c3 : Int} {ws : Nat → Int} (hcs : IsRow [.s .u64 c0, .s .u64 c1, .s .u64 c2, .s .u64 c3] ws 4) (hw : ∀ i, i < 4 → 0 ≤ ws i ∧ ws i < 18446744073709551616) (xs : Nat → List AVal)
   (hx : ∀ i, i < 256 → xs i = [.s .u64 (bitAt ws 4 i : Nat)]) : SeqSp Tryz.prog 207 [.ref [.s .u64 c0, .s .u64 c1, .s .u64 c2, .s .u64 c3] 0] 256 xs := by
 refine mkI Tryz.func207 rfl rfl LN R0 (by decide +kernel) (by decide +kernel) fun A S hA hSn hxs => ?_
 unfold bodyOf Tryz.f207
 cbv
 refine .inv (α := Nat × Int) (fun p => ⟨[.v (.func (.yield S.l) #[] #[]), .ref [.s .u64 c0, .s .u64 c1, .s .u64 c2, .s .u64 c3] 0, .tup [], .s .i64 p.2, .any, .any, .any, .any, .any, .any, .any, .any, .any, .any, .any, .any, .any, .any, .any], ghost p.1⟩)
   (fun p => p.1 ≤ 256 ∧ p.2 = 255 - p.1) (fun p => 256 - p.1) (0, 255) ?_ ⟨Nat.zero_le _, by omega⟩ ?_
 . cbv
 rintro ⟨j, i⟩ ⟨hj, hi⟩
 dsimp only at hj hi ⊢
 by_cases h0 : i ≥ 0
 . obtain ⟨k, rfl⟩ : ∃ k : Nat, i = k := ⟨i.toNat, by omega⟩
   have hjk : 64 * 4 - 1 - j = k := by omega
   have hj' : j < 256 := by omega
   obtain ⟨y, hy⟩ : ∃ y : Int, y = k - 1 := ⟨_, rfl⟩
   have hlast : y = 255 - (j + 1 : Nat) := by omega
   have hdec : 256 - (j + 1) < 256 - j := by omega
   obtain ⟨q, hqk⟩ : ∃ q, q = k / 64 := ⟨_, rfl⟩
   have hqn : q < 4 := by omega
   have hrem : A.bin .rem .i64 (k : Int) 64 = ((k % 64 : Nat) : Int) := e_rem hA rfl rfl (by omega) (by omega)
   have hquo : A.bin .quo .i64 (k : Int) 64 = (q : Int) := e_quo hA rfl rfl (by omega) (by omega) (by omega) (by omega)
   have hsub : A.bin .sub .i64 (k : Int) 1 = y := e_sub hA rfl rfl hy.symm (by omega)
   have hok : A.okb .shr (A.bin .rem .i64 (k : Int) 64) = true := by rw [hrem]; exact (a_okbS hA (by omega)).1
   have hge : A.cmp .geq (k : Int) 0 = true := (i_ge hA).trans (decide_eq_true (by omega))
   have hq : lsub [.s .u64 c0, .s .u64 c1, .s .u64 c2, .s .u64 c3] (A.offs 0 q 1) 1 = some [.s .u64 (ws q)] := by rw [a_offs hA, Nat.zero_add]; exact hcs.2 q hqn
   have hbit := u_bit hA (hw q hqn) hrem (by omega)
   have hargs : [AVal.s .u64 (A.bin .and .u64 (A.bin .shr .u64 (ws q) (A.bin .rem .i64 (k : Int) 64)) 1)] = S.xs j := by
     rw [hxs, hx j hj', hbit]
     unfold bitAt
     rw [hjk, hqk]
   have nt : (!true) = false := rfl
   cbv
   refine ABr.t hge ?_
   cbv
   refine .sym q hquo hqn ?_
   cbv
   refine .mk _ hq ?_
   cbv
   refine .mk hok ?_
   cbv
   refine .mk j rfl (by rw [hSn]; exact hj') rfl hargs ?_
   cbv
   refine ⟨(j + 1, y), ?_, ⟨hj', hlast⟩, hdec⟩
   cbv
   simp only [and_true]
   exact hsub
 . have hge : A.cmp .geq i 0 = false := (i_ge hA).trans (decide_eq_false h0)
   obtain rfl : j = 256 := by omega
   obtain ⟨e, he⟩ : ∃ e, e = ghost 256 := ⟨_, rfl⟩
   rw [← he]
   cbv
   refine ABr.f hge ?_
   cbv
theorem row4u (lim : Lim) (e : Nat) : IsRow [.s .u64 (lim e 0), .s .u64 (lim e 1), .s .u64 (lim e 2), .s .u64 (lim e 3)] (lim e) 4 :=
 ⟨rfl, fun i hi => by match i, hi with | 0, _ => rfl | 1, _ => rfl | 2, _ => rfl | 3, _ => rfl⟩
def timesHb4 {α : Type} (K : Kd α) (r : List AVal) (b : α) (p : Cv.Jac α) (lim : Lim) (e : Nat) (o : Cv.Jac α) : List Blk :=
 [⟨true, true, [.ifc 174 (.agg [.ref r 0]), .s .u64 (K.w b 0), .s .u64 (K.w b 1), .s .u64 (K.w b 2), .s .u64 (K.w b 3)]⟩, ⟨true, true, [.s .u64 (K.w p.x 0), .s .u64 (K.w p.x 1), .s .u64 (K.w p.x 2), .s .u64 (K.w p.x 3), .s .u64 (K.w p.y 0), .s .u64 (K.w p.y 1), .s .u64 (K.w p.y 2), .s .u64 (K.w p.y 3), .s .u64 (K.w p.z 0), .s .u64 (K.w p.z 1), .s .u64 (K.w p.z 2), .s .u64 (K.w p.z 3)]⟩,
   ⟨true, true, [.s .u64 (lim e 0), .s .u64 (lim e 1), .s .u64 (lim e 2), .s .u64 (lim e 3)]⟩, ⟨true, true, [.i .u64 0, .i .u64 0, .i .u64 0, .i .u64 0, .i .u64 0, .i .u64 0, .i .u64 0, .i .u64 0, .i .u64 0, .i .u64 0, .i .u64 0, .i .u64 0]⟩,
   ⟨true, true, [.s .u64 (K.w o.x 0), .s .u64 (K.w o.x 1), .s .u64 (K.w o.x 2), .s .u64 (K.w o.x 3), .s .u64 (K.w o.y 0), .s .u64 (K.w o.y 1), .s .u64 (K.w o.y 2), .s .u64 (K.w o.y 3), .s .u64 (K.w o.z 0), .s .u64 (K.w o.z 1), .s .u64 (K.w o.z 2), .s .u64 (K.w o.z 3)]⟩]
theorem timesb4 {α : Type} [DecidableEq α] {K : Kd α} {r : List AVal} (hK : Okb4 K r) (b : α) (p : Cv.Jac α) {lim : Lim} (hl : lim = limR) (e : Nat) (he : e < 2 ^ 256) :
   Sp 112 [Grb4 K r b, Jb4 K p, u4 lim e] (Jb4 K (Cv.tm K.O p e 256 256)) := by
 have tw := twiceb4 hK b
 have pl := plusb4 hK b
 have hb := bitsS (lim := lim) e
 obtain ⟨t, ht⟩ : ∃ t : Nat → Nat, t = bitAt (lim e) 4 := ⟨_, rfl⟩
 have hd := bitsI (row4u lim e) (fun i _ => lim_range hl e i) (fun i => [.s .u64 (t i : Nat)]) (fun i _ => by rw [ht])
 obtain ⟨x, hx⟩ : ∃ x : Nat → Cv.Jac α, x = Cv.tm K.O p e 256 := ⟨_, rfl⟩
 have hx0 : x 0 = Cv.inf K.O := by rw [hx]; rfl
 have hxs : ∀ i, i < 256 → x (i + 1) = if t i = 1 then Cv.plus K.O (Cv.dbl K.O (x i)) p else Cv.dbl K.O (x i) := by
   intro i hi
   rw [hx, ht, hl, bitAt_eq e 4 i hi]
   rfl
 rw [← hx]
 have z := hK.zero
 clear hx
 refine mk Tryz.func112 rfl rfl LN R1 (by decide +kernel) fun A S hA hS => ?_
 unfold bodyOf Tryz.f112
 cbv
 refine aF hS hb ?_
 cbv
 refine .mk _ _ (cs hS hd) (fun i _ => rfl) (fun i => timesHb4 K r b p lim e (x i)) ?_ ?_ ?_
 . rw [hx0]
   cbv
   repeat' (first | exact (z _ (by decide)).symm | (have h := hK.sim 8; unfold simL at h; exact h) | exact trivial | constructor)
 . intro i hi
   have hst := hxs i hi
   have hb := bit_eq hA (t i)
   generalize x (i + 1) = y at hst ⊢
   generalize x i = xi at hst ⊢
   generalize t i = ti at hst hb ⊢
   have tw := tw xi
   generalize Cv.dbl K.O xi = di at *
   have pl := pl di p
   generalize Cv.plus K.O di p = pi at *
   cbv
   refine aF hS tw ?_
   cbv
   by_cases h1 : ti = 1
   . rw [if_pos h1] at hst
     rw [decide_eq_true h1] at hb
     subst hst
     refine ABr.t hb ?_
     cbv
     refine aF hS pl ?_
     cbv
     repeat' (first | (have h := hK.sim 8; unfold simL at h; exact h) | exact trivial | constructor)
   . rw [if_neg h1] at hst
     rw [decide_eq_false h1] at hb
     subst hst
     refine ABr.f hb ?_
     cbv
     repeat' (first | (have h := hK.sim 8; unfold simL at h; exact h) | exact trivial | constructor)
 . generalize x 256 = y
   cbv
theorem flatb4 {α : Type} {K : Kd α} {r : List AVal} (hK : Okb4 K r) (b : α) (p : Cv.Jac α) :
   Sp 182 [Grb4 K r b, Jb4 K p] (.tup [Eb4 K (K.O.mul p.x (K.O.mul (K.O.inv p.z) (K.O.inv p.z))), Eb4 K (K.O.mul (K.O.mul p.y (K.O.mul (K.O.inv p.z) (K.O.inv p.z))) (K.O.inv p.z))]) := by
 obtain ⟨px, py, pz⟩ := p
 dsimp only
 obtain ⟨i, hi⟩ : ∃ q_, q_ = K.O.inv pz := ⟨_, rfl⟩
 have ci := hK.inv pz
 rw [← hi] at ci ⊢
 obtain ⟨j, hj⟩ : ∃ q_, q_ = K.O.mul i i := ⟨_, rfl⟩
 have cj := hK.mul i i
 rw [← hj] at cj ⊢
 obtain ⟨x, hx⟩ : ∃ q_, q_ = K.O.mul px j := ⟨_, rfl⟩
 have cx := hK.mul px j
 rw [← hx] at cx ⊢
 obtain ⟨y0, hy0⟩ : ∃ q_, q_ = K.O.mul py j := ⟨_, rfl⟩
 have cy0 := hK.mul py j
 rw [← hy0] at cy0 ⊢
 obtain ⟨y, hy⟩ : ∃ q_, q_ = K.O.mul y0 i := ⟨_, rfl⟩
 have cy := hK.mul y0 i
 rw [← hy] at cy ⊢
 refine mk Tryz.func182 rfl rfl L0 R1 (by decide +kernel) fun A S hA hS => ?_
 unfold bodyOf Tryz.f182
 cbv
 refine aF hS ci ?_
 cbv
 refine aF hS cj ?_
 cbv
 refine aF hS cx ?_
 cbv
 refine aF hS cy0 ?_
 cbv
 refine aF hS cy ?_
 cbv
theorem onb4 {α : Type} [DecidableEq α] {K : Kd α} {r : List AVal} (hK : Okb4 K r) (b x y : α) :
   Sp 111 [Grb4 K r b, Eb4 K x, Eb4 K y] (.sb (decide (K.O.mul y y = K.O.add (K.O.mul (K.O.mul x x) x) b))) := by
 obtain ⟨yy, hyy⟩ : ∃ q_, q_ = K.O.mul y y := ⟨_, rfl⟩
 have cyy := hK.mul y y
 rw [← hyy] at cyy ⊢
 obtain ⟨xx, hxx⟩ : ∃ q_, q_ = K.O.mul x x := ⟨_, rfl⟩
 have cxx := hK.mul x x
 rw [← hxx] at cxx ⊢
 obtain ⟨x3, hx3⟩ : ∃ q_, q_ = K.O.mul xx x := ⟨_, rfl⟩
 have cx3 := hK.mul xx x
 rw [← hx3] at cx3 ⊢
 obtain ⟨s, hs⟩ : ∃ q_, q_ = K.O.add x3 b := ⟨_, rfl⟩
 have cs := hK.add x3 b
 rw [← hs] at cs ⊢
 have he := fun A hA => hK.eq (A := A) hA yy s
 generalize decide (yy = s) = t at *
 refine mk Tryz.func111 rfl rfl L0 R1 (by decide +kernel) fun A S hA hS => ?_
 have he := he A hA
 unfold bodyOf Tryz.f111
 cbv
 refine aF hS cyy ?_
 cbv
 refine aF hS cxx ?_
 cbv
 refine aF hS cx3 ?_
 cbv
 refine aF hS cs ?_
 cbv
 exact he
def timesHt4 {α : Type} (K : Kd α) (r : List AVal) (b : α) (p : Cv.Jac α) (lim : Lim) (e : Nat) (o : Cv.Jac α) : List Blk :=
 [⟨true, true, [.ifc 171 (.agg [.ref r 0]), .s .u64 (K.w b 0), .s .u64 (K.w b 1), .s .u64 (K.w b 2), .s .u64 (K.w b 3), .s .u64 (K.w b 4), .s .u64 (K.w b 5), .s .u64 (K.w b 6), .s .u64 (K.w b 7)]⟩, ⟨true, true, [.s .u64 (K.w p.x 0), .s .u64 (K.w p.x 1), .s .u64 (K.w p.x 2), .s .u64 (K.w p.x 3), .s .u64 (K.w p.x 4), .s .u64 (K.w p.x 5), .s .u64 (K.w p.x 6), .s .u64 (K.w p.x 7), .s .u64 (K.w p.y 0), .s .u64 (K.w p.y 1), .s .u64 (K.w p.y 2), .s .u64 (K.w p.y 3), .s .u64 (K.w p.y 4), .s .u64 (K.w p.y 5), .s .u64 (K.w p.y 6), .s .u64 (K.w p.y 7), .s .u64 (K.w p.z 0), .s .u64 (K.w p.z 1), .s .u64 (K.w p.z 2), .s .u64 (K.w p.z 3), .s .u64 (K.w p.z 4), .s .u64 (K.w p.z 5), .s .u64 (K.w p.z 6), .s .u64 (K.w p.z 7)]⟩,
   ⟨true, true, [.s .u64 (lim e 0), .s .u64 (lim e 1), .s .u64 (lim e 2), .s .u64 (lim e 3)]⟩, ⟨true, true, [.i .u64 0, .i .u64 0, .i .u64 0, .i .u64 0, .i .u64 0, .i .u64 0, .i .u64 0, .i .u64 0, .i .u64 0, .i .u64 0, .i .u64 0, .i .u64 0, .i .u64 0, .i .u64 0, .i .u64 0, .i .u64 0, .i .u64 0, .i .u64 0, .i .u64 0, .i .u64 0, .i .u64 0, .i .u64 0, .i .u64 0, .i .u64 0]⟩,
   ⟨true, true, [.s .u64 (K.w o.x 0), .s .u64 (K.w o.x 1), .s .u64 (K.w o.x 2), .s .u64 (K.w o.x 3), .s .u64 (K.w o.x 4), .s .u64 (K.w o.x 5), .s .u64 (K.w o.x 6), .s .u64 (K.w o.x 7), .s .u64 (K.w o.y 0), .s .u64 (K.w o.y 1), .s .u64 (K.w o.y 2), .s .u64 (K.w o.y 3), .s .u64 (K.w o.y 4), .s .u64 (K.w o.y 5), .s .u64 (K.w o.y 6), .s .u64 (K.w o.y 7), .s .u64 (K.w o.z 0), .s .u64 (K.w o.z 1), .s .u64 (K.w o.z 2), .s .u64 (K.w o.z 3), .s .u64 (K.w o.z 4), .s .u64 (K.w o.z 5), .s .u64 (K.w o.z 6), .s .u64 (K.w o.z 7)]⟩]
theorem timest4 {α : Type} [DecidableEq α] {K : Kd α} {r : List AVal} (hK : Okt4 K r) (b : α) (p : Cv.Jac α) {lim : Lim} (hl : lim = limR) (e : Nat) (he : e < 2 ^ 256) :
   Sp 128 [Grt4 K r b, Jt4 K p, u4 lim e] (Jt4 K (Cv.tm K.O p e 256 256)) := by
 have tw := twicet4 hK b
 have pl := plust4 hK b
 have hb := bitsS (lim := lim) e
 obtain ⟨t, ht⟩ : ∃ t : Nat → Nat, t = bitAt (lim e) 4 := ⟨_, rfl⟩
 have hd := bitsI (row4u lim e) (fun i _ => lim_range hl e i) (fun i => [.s .u64 (t i : Nat)]) (fun i _ => by rw [ht])
 obtain ⟨x, hx⟩ : ∃ x : Nat → Cv.Jac α, x = Cv.tm K.O p e 256 := ⟨_, rfl⟩
 have hx0 : x 0 = Cv.inf K.O := by rw [hx]; rfl
 have hxs : ∀ i, i < 256 → x (i + 1) = if t i = 1 then Cv.plus K.O (Cv.dbl K.O (x i)) p else Cv.dbl K.O (x i) := by
   intro i hi
   rw [hx, ht, hl, bitAt_eq e 4 i hi]
   rfl
 rw [← hx]
 have z := hK.zero
 clear hx
 refine mk Tryz.func128 rfl rfl LN R1 (by decide +kernel) fun A S hA hS => ?_
 unfold bodyOf Tryz.f128
 cbv
 refine aF hS hb ?_
 cbv
 refine .mk _ _ (cs hS hd) (fun i _ => rfl) (fun i => timesHt4 K r b p lim e (x i)) ?_ ?_ ?_
 . rw [hx0]
   cbv
   repeat' (first | exact (z _ (by decide)).symm | (have h := hK.sim 8; unfold simL at h; exact h) | exact trivial | constructor)
 . intro i hi
   have hst := hxs i hi
   have hb := bit_eq hA (t i)
   generalize x (i + 1) = y at hst ⊢
   generalize x i = xi at hst ⊢
   generalize t i = ti at hst hb ⊢
   have tw := tw xi
   generalize Cv.dbl K.O xi = di at *
   have pl := pl di p
   generalize Cv.plus K.O di p = pi at *
   cbv
   refine aF hS tw ?_
   cbv
   by_cases h1 : ti = 1
   . rw [if_pos h1] at hst
     rw [decide_eq_true h1] at hb
     subst hst
     refine ABr.t hb ?_
     cbv
     refine aF hS pl ?_
     cbv
     repeat' (first | (have h := hK.sim 8; unfold simL at h; exact h) | exact trivial | constructor)
   . rw [if_neg h1] at hst
     rw [decide_eq_false h1] at hb
     subst hst
     refine ABr.f hb ?_
     cbv
     repeat' (first | (have h := hK.sim 8; unfold simL at h; exact h) | exact trivial | constructor)
 . generalize x 256 = y
   cbv
theorem ont4 {α : Type} [DecidableEq α] {K : Kd α} {r : List AVal} (hK : Okt4 K r) (b x y : α) :
   Sp 133 [Grt4 K r b, Et4 K x, Et4 K y] (.sb (decide (K.O.mul y y = K.O.add (K.O.mul (K.O.mul x x) x) b))) := by
 obtain ⟨yy, hyy⟩ : ∃ q_, q_ = K.O.mul y y := ⟨_, rfl⟩
 have cyy := hK.mul y y
 rw [← hyy] at cyy ⊢
 obtain ⟨xx, hxx⟩ : ∃ q_, q_ = K.O.mul x x := ⟨_, rfl⟩
 have cxx := hK.mul x x
 rw [← hxx] at cxx ⊢
 obtain ⟨x3, hx3⟩ : ∃ q_, q_ = K.O.mul xx x := ⟨_, rfl⟩
 have cx3 := hK.mul xx x
 rw [← hx3] at cx3 ⊢
 obtain ⟨s, hs⟩ : ∃ q_, q_ = K.O.add x3 b := ⟨_, rfl⟩
 have cs := hK.add x3 b
 rw [← hs] at cs ⊢
 have he := fun A hA => hK.eq (A := A) hA yy s
 generalize decide (yy = s) = t at *
 refine mk Tryz.func133 rfl rfl L0 R1 (by decide +kernel) fun A S hA hS => ?_
 have he := he A hA
 unfold bodyOf Tryz.f133
 cbv
 refine aF hS cyy ?_
 cbv
 refine aF hS cxx ?_
 cbv
 refine aF hS cx3 ?_
 cbv
 refine aF hS cs ?_
 cbv
 exact he
def timesHb6 {α : Type} (K : Kd α) (r : List AVal) (b : α) (p : Cv.Jac α) (lim : Lim) (e : Nat) (o : Cv.Jac α) : List Blk :=
 [⟨true, true, [.ifc 134 (.agg [.ref r 0]), .s .u64 (K.w b 0), .s .u64 (K.w b 1), .s .u64 (K.w b 2), .s .u64 (K.w b 3), .s .u64 (K.w b 4), .s .u64 (K.w b 5)]⟩, ⟨true, true, [.s .u64 (K.w p.x 0), .s .u64 (K.w p.x 1), .s .u64 (K.w p.x 2), .s .u64 (K.w p.x 3), .s .u64 (K.w p.x 4), .s .u64 (K.w p.x 5), .s .u64 (K.w p.y 0), .s .u64 (K.w p.y 1), .s .u64 (K.w p.y 2), .s .u64 (K.w p.y 3), .s .u64 (K.w p.y 4), .s .u64 (K.w p.y 5), .s .u64 (K.w p.z 0), .s .u64 (K.w p.z 1), .s .u64 (K.w p.z 2), .s .u64 (K.w p.z 3), .s .u64 (K.w p.z 4), .s .u64 (K.w p.z 5)]⟩,
   ⟨true, true, [.s .u64 (lim e 0), .s .u64 (lim e 1), .s .u64 (lim e 2), .s .u64 (lim e 3)]⟩, ⟨true, true, [.i .u64 0, .i .u64 0, .i .u64 0, .i .u64 0, .i .u64 0, .i .u64 0, .i .u64 0, .i .u64 0, .i .u64 0, .i .u64 0, .i .u64 0, .i .u64 0, .i .u64 0, .i .u64 0, .i .u64 0, .i .u64 0, .i .u64 0, .i .u64 0]⟩,
   ⟨true, true, [.s .u64 (K.w o.x 0), .s .u64 (K.w o.x 1), .s .u64 (K.w o.x 2), .s .u64 (K.w o.x 3), .s .u64 (K.w o.x 4), .s .u64 (K.w o.x 5), .s .u64 (K.w o.y 0), .s .u64 (K.w o.y 1), .s .u64 (K.w o.y 2), .s .u64 (K.w o.y 3), .s .u64 (K.w o.y 4), .s .u64 (K.w o.y 5), .s .u64 (K.w o.z 0), .s .u64 (K.w o.z 1), .s .u64 (K.w o.z 2), .s .u64 (K.w o.z 3), .s .u64 (K.w o.z 4), .s .u64 (K.w o.z 5)]⟩]
theorem timesb6 {α : Type} [DecidableEq α] {K : Kd α} {r : List AVal} (hK : Okb6 K r) (b : α) (p : Cv.Jac α) {lim : Lim} (hl : lim = limR) (e : Nat) (he : e < 2 ^ 256) :
   Sp 91 [Grb6 K r b, Jb6 K p, u4 lim e] (Jb6 K (Cv.tm K.O p e 256 256)) := by
 have tw := twiceb6 hK b
 have pl := plusb6 hK b
 have hb := bitsS (lim := lim) e
 obtain ⟨t, ht⟩ : ∃ t : Nat → Nat, t = bitAt (lim e) 4 := ⟨_, rfl⟩
 have hd := bitsI (row4u lim e) (fun i _ => lim_range hl e i) (fun i => [.s .u64 (t i : Nat)]) (fun i _ => by rw [ht])
 obtain ⟨x, hx⟩ : ∃ x : Nat → Cv.Jac α, x = Cv.tm K.O p e 256 := ⟨_, rfl⟩
 have hx0 : x 0 = Cv.inf K.O := by rw [hx]; rfl
 have hxs : ∀ i, i < 256 → x (i + 1) = if t i = 1 then Cv.plus K.O (Cv.dbl K.O (x i)) p else Cv.dbl K.O (x i) := by
   intro i hi
   rw [hx, ht, hl, bitAt_eq e 4 i hi]
   rfl
 rw [← hx]
 have z := hK.zero
 clear hx
 refine mk Tryz.func91 rfl rfl LN R1 (by decide +kernel) fun A S hA hS => ?_
 unfold bodyOf Tryz.f91
 cbv
 refine aF hS hb ?_
 cbv
 refine .mk _ _ (cs hS hd) (fun i _ => rfl) (fun i => timesHb6 K r b p lim e (x i)) ?_ ?_ ?_
 . rw [hx0]
   cbv
   repeat' (first | exact (z _ (by decide)).symm | (have h := hK.sim 8; unfold simL at h; exact h) | exact trivial | constructor)
 . intro i hi
   have hst := hxs i hi
   have hb := bit_eq hA (t i)
   generalize x (i + 1) = y at hst ⊢
   generalize x i = xi at hst ⊢
   generalize t i = ti at hst hb ⊢
   have tw := tw xi
   generalize Cv.dbl K.O xi = di at *
   have pl := pl di p
   generalize Cv.plus K.O di p = pi at *
   cbv
   refine aF hS tw ?_
   cbv
   by_cases h1 : ti = 1
   . rw [if_pos h1] at hst
     rw [decide_eq_true h1] at hb
     subst hst
     refine ABr.t hb ?_
     cbv
     refine aF hS pl ?_
     cbv
     repeat' (first | (have h := hK.sim 8; unfold simL at h; exact h) | exact trivial | constructor)
   . rw [if_neg h1] at hst
     rw [decide_eq_false h1] at hb
     subst hst
     refine ABr.f hb ?_
     cbv
     repeat' (first | (have h := hK.sim 8; unfold simL at h; exact h) | exact trivial | constructor)
 . generalize x 256 = y
   cbv
theorem onb6 {α : Type} [DecidableEq α] {K : Kd α} {r : List AVal} (hK : Okb6 K r) (b x y : α) :
   Sp 85 [Grb6 K r b, Eb6 K x, Eb6 K y] (.sb (decide (K.O.mul y y = K.O.add (K.O.mul (K.O.mul x x) x) b))) := by
 obtain ⟨yy, hyy⟩ : ∃ q_, q_ = K.O.mul y y := ⟨_, rfl⟩
 have cyy := hK.mul y y
 rw [← hyy] at cyy ⊢
 obtain ⟨xx, hxx⟩ : ∃ q_, q_ = K.O.mul x x := ⟨_, rfl⟩
 have cxx := hK.mul x x
 rw [← hxx] at cxx ⊢
 obtain ⟨x3, hx3⟩ : ∃ q_, q_ = K.O.mul xx x := ⟨_, rfl⟩
 have cx3 := hK.mul xx x
 rw [← hx3] at cx3 ⊢
 obtain ⟨s, hs⟩ : ∃ q_, q_ = K.O.add x3 b := ⟨_, rfl⟩
 have cs := hK.add x3 b
 rw [← hs] at cs ⊢
 have he := fun A hA => hK.eq (A := A) hA yy s
 generalize decide (yy = s) = t at *
 refine mk Tryz.func85 rfl rfl L0 R1 (by decide +kernel) fun A S hA hS => ?_
 have he := he A hA
 unfold bodyOf Tryz.f85
 cbv
 refine aF hS cyy ?_
 cbv
 refine aF hS cxx ?_
 cbv
 refine aF hS cx3 ?_
 cbv
 refine aF hS cs ?_
 cbv
 exact he
end Go.Proofs.YtmholgclgamnnaaGreat
end
section
namespace NT
def Pr (p : Nat) : Prop := 1 < p ∧ ∀ d, d ∣ p → d = 1 ∨ d = p
theorem bezout : ∀ (a b : Nat), ∃ x y : Int, ((Nat.gcd a b : Nat) : Int) = a * x + b * y := by
 intro a b
 induction a, b using Nat.gcd.induction with
 | H0 n => exact ⟨0, 1, by simp⟩
 | H1 m n hm ih =>
   obtain ⟨x, y, h⟩ := ih
   refine ⟨y - (n / m : Nat) * x, x, ?_⟩
   rw [Nat.gcd_rec, h]
   have e : ((n % m : Nat) : Int) = n - m * ((n / m : Nat) : Int) := by
     have := Nat.div_add_mod n m
     omega
   rw [e, Int.sub_mul, Int.mul_sub, Int.mul_assoc]
   omega
theorem inv_mod {a m : Nat} (h : Nat.Coprime a m) (hm : 1 < m) : ∃ x, x < m ∧ a * x % m = 1 := by
 obtain ⟨x, y, e⟩ := bezout a m
 rw [show Nat.gcd a m = 1 from h] at e
 have hm0 : (m : Int) ≠ 0 := by omega
 refine ⟨(x % m).toNat, ?_, ?_⟩
 . have := Int.emod_lt_of_pos x (show (0 : Int) < m by omega)
   have := Int.emod_nonneg x hm0
   omega
 . have h0 := Int.emod_nonneg x hm0
   have h1 : ((a * (x % m).toNat % m : Nat) : Int) = 1 := by
     rw [Int.natCast_emod, Int.natCast_mul, Int.toNat_of_nonneg h0, Int.mul_emod, Int.emod_emod, ← Int.mul_emod]
     have : (a : Int) * x = 1 + m * (-y) := by rw [Int.mul_neg]; omega
     rw [this, Int.add_mul_emod_self_left]
     exact Int.emod_eq_of_lt (by omega) (by omega)
   omega
theorem Pr.pos {p : Nat} (h : Pr p) : 0 < p := Nat.lt_trans Nat.zero_lt_one h.1
theorem Pr.coprime {p a : Nat} (h : Pr p) (ha : ¬ p ∣ a) : Nat.Coprime a p := by
 rcases h.2 (Nat.gcd a p) (Nat.gcd_dvd_right a p) with e | e
 . exact e
 . exact absurd (e ▸ Nat.gcd_dvd_left a p) ha
theorem Pr.dvd_mul {p a b : Nat} (h : Pr p) (hd : p ∣ a * b) : p ∣ a ∨ p ∣ b := by
 by_cases ha : p ∣ a
 . exact .inl ha
 . exact .inr ((h.coprime ha).symm.dvd_of_dvd_mul_left hd)
theorem Pr.dvd_pow {p a : Nat} (h : Pr p) : ∀ {k : Nat}, p ∣ a ^ k → p ∣ a
 | 0, hd => by have h1 := Nat.le_of_dvd (Nat.lt_of_lt_of_le Nat.zero_lt_one (Nat.le_of_eq (Nat.pow_zero a).symm)) hd; have h2 := h.1; rw [Nat.pow_zero] at h1; omega
 | k + 1, hd => by
   rw [Nat.pow_succ] at hd
   rcases h.dvd_mul hd with h1 | h1
   . exact Pr.dvd_pow h h1
   . exact h1
theorem cancel {a x y m : Nat} (h : Nat.Coprime a m) (e : a * x % m = a * y % m) : x % m = y % m := by
 rcases Nat.lt_or_ge 1 m with hm | hm
 . obtain ⟨z, _, hz⟩ := inv_mod h hm
   have h1 : ∀ x, x % m = z * (a * x % m) % m := by
     intro x
     rw [Nat.mul_mod_mod, ← Nat.mul_assoc, Nat.mul_comm z a, Nat.mul_mod, hz, Nat.one_mul, Nat.mod_mod]
   rw [h1 x, h1 y, e]
 . have : m = 0 ∨ m = 1 := by omega
   rcases this with rfl | rfl
   . have ha : a = 1 := by simpa [Nat.Coprime] using h
     subst ha
     simpa using e
   . omega
theorem fermat {p a : Nat} (hp : Pr p) (ha : ¬ p ∣ a) : a ^ (p - 1) % p = 1 := by
 have h1 := hp.1
 have hc := hp.coprime ha
 let l := List.range' 1 (p - 1)
 have mem : ∀ x, x ∈ l ↔ 1 ≤ x ∧ x < p := by
   intro x
   simp only [l, List.mem_range'_1]
   omega
 have hnd : l.Nodup := List.nodup_range'
 have hnm : ∀ x, x ∈ l → ¬ p ∣ x := by
   intro x hx hd
   have := (mem x).1 hx
   have := Nat.le_of_dvd (by omega) hd
   omega
 have hinj : ∀ x ∈ l, ∀ y ∈ l, a * x % p = a * y % p → x = y := by
   intro x hx y hy e
   have := cancel hc e
   rwa [Nat.mod_eq_of_lt ((mem x).1 hx).2, Nat.mod_eq_of_lt ((mem y).1 hy).2] at this
 have hperm : (l.map (a * · % p)).Perm l := by
   refine (List.perm_ext_iff_of_nodup ?_ hnd).2 fun b => ?_
   . refine List.pairwise_map.2 ?_
     exact hnd.imp_of_mem fun {x y} hx hy hxy e => hxy (hinj x hx y hy e)
   . constructor
     . intro hb
       obtain ⟨x, hx, rfl⟩ := List.mem_map.1 hb
       refine (mem _).2 ⟨?_, Nat.mod_lt _ hp.pos⟩
       rcases Nat.eq_zero_or_pos (a * x % p) with h0 | h0
       . rcases hp.dvd_mul (Nat.dvd_of_mod_eq_zero h0) with h2 | h2
         . exact absurd h2 ha
         . exact absurd h2 (hnm x hx)
       . exact h0
     . intro hb
       obtain ⟨z, hz, hz1⟩ := inv_mod hc h1
       have hb' := (mem b).1 hb
       refine List.mem_map.2 ⟨z * b % p, (mem _).2 ⟨?_, Nat.mod_lt _ hp.pos⟩, ?_⟩
       . rcases Nat.eq_zero_or_pos (z * b % p) with h0 | h0
         . have : a * (z * b) % p = b := by rw [← Nat.mul_assoc, Nat.mul_mod, hz1, Nat.one_mul, Nat.mod_mod, Nat.mod_eq_of_lt hb'.2]
           rw [Nat.mul_mod, h0] at this
           simp at this
           omega
         . exact h0
       . show a * (z * b % p) % p = b
         rw [Nat.mul_mod_mod, ← Nat.mul_assoc, Nat.mul_mod, hz1, Nat.one_mul, Nat.mod_mod, Nat.mod_eq_of_lt hb'.2]
 have hprod : ∀ l : List Nat, (l.map (a * · % p)).prod % p = a ^ l.length * l.prod % p := by
   intro l
   induction l with
   | nil => simp
   | cons x l ih =>
     rw [List.map_cons, List.prod_cons, Nat.mul_mod, ih, List.length_cons, List.prod_cons, Nat.pow_succ, Nat.mod_mod, ← Nat.mul_mod]
     congr 1
     simp only [Nat.mul_assoc, Nat.mul_left_comm, Nat.mul_comm]
 have e := hprod l
 rw [hperm.prod_nat] at e
 have hcl : ∀ l : List Nat, (∀ x ∈ l, ¬ p ∣ x) → Nat.Coprime l.prod p := by
   intro l
   induction l with
   | nil => intro _; simp [Nat.Coprime]
   | cons x l ih =>
     intro h
     rw [List.prod_cons]
     exact Nat.Coprime.mul_left (hp.coprime (h x (by simp))) (ih fun y hy => h y (by simp [hy]))
 have e2 : l.prod * 1 % p = l.prod * a ^ l.length % p := by rw [Nat.mul_one, e, Nat.mul_comm]
 have := cancel (hcl l hnm) e2
 rw [Nat.mod_eq_of_lt h1] at this
 have hl : l.length = p - 1 := by simp [l]
 rw [← hl]
 exact this.symm
theorem pow_mul_mod {b m x : Nat} (h : b ^ x % m = 1 % m) (k : Nat) : b ^ (x * k) % m = 1 % m := by
 induction k with
 | zero => simp
 | succ k ih => rw [Nat.mul_succ, Nat.pow_add, Nat.mul_mod, ih, h, ← Nat.mul_mod, Nat.one_mul]
theorem pow_gcd {b m : Nat} (hb : Nat.Coprime b m) (x y : Nat) : b ^ x % m = 1 % m → b ^ y % m = 1 % m → b ^ Nat.gcd x y % m = 1 % m := by
 induction x, y using Nat.gcd.induction with
 | H0 n => intro _ h; simpa using h
 | H1 x y hx ih =>
   intro h1 h2
   rw [Nat.gcd_rec]
   refine ih ?_ h1
   have h3 := pow_mul_mod h1 (y / x)
   have e : b ^ (x * (y / x)) * b ^ (y % x) % m = b ^ (x * (y / x)) * 1 % m := by
     rw [← Nat.pow_add, Nat.div_add_mod, Nat.mul_one, h2, h3]
   exact cancel (Nat.Coprime.pow_left _ hb) e
theorem dvd_pow_or {q g e : Nat} (hq : Pr q) (h : g ∣ q ^ (e + 1)) : g ∣ q ^ e ∨ g = q ^ (e + 1) := by
 obtain ⟨k, hk⟩ := h
 by_cases hd : q ∣ k
 . obtain ⟨j, rfl⟩ := hd
   left
   refine ⟨j, ?_⟩
   have : q * q ^ e = q * (g * j) := by rw [← Nat.pow_succ', hk, Nat.mul_left_comm]
   exact Nat.eq_of_mul_eq_mul_left hq.pos this
 . right
   have hc : Nat.Coprime k (q ^ (e + 1)) := Nat.Coprime.pow_right _ (hq.coprime hd)
   have : k = 1 := hc.eq_one_of_dvd ⟨g, by rw [hk, Nat.mul_comm]⟩
   rw [hk, this, Nat.mul_one]
theorem pock_part {n p q e a : Nat} (hn : 1 < n) (hq : Pr q) (hp : Pr p) (hpn : p ∣ n) (hd : q ^ (e + 1) ∣ n - 1) (h1 : a ^ (n - 1) % n = 1 % n) (h2 : Nat.gcd (a ^ ((n - 1) / q) % n + (n - 1)) n = 1) : q ^ (e + 1) ∣ p - 1 := by
 obtain ⟨k, hk⟩ := hd
 have hp1 := hp.1
 have red : ∀ x y, x % n = y % n → x % p = y % p := by
   intro x y h
   have := congrArg (· % p) h
   simpa [Nat.mod_mod_of_dvd _ hpn] using this
 have ha1 := red _ _ h1
 have hb1 : (a ^ k) ^ q ^ (e + 1) % p = 1 % p := by rw [← Nat.pow_mul, Nat.mul_comm, ← hk]; exact ha1
 have hpa : ¬ p ∣ a := by
   intro hd
   obtain ⟨j, hj⟩ : ∃ j, n - 1 = j + 1 := ⟨n - 2, by omega⟩
   rw [hj, Nat.pow_succ, Nat.mul_mod, Nat.mod_eq_zero_of_dvd hd, Nat.mul_zero, Nat.zero_mod, Nat.mod_eq_of_lt hp1] at ha1
   cases ha1
 have hca := hp.coprime hpa
 have hcb : Nat.Coprime (a ^ k) p := Nat.Coprime.pow_left _ hca
 have hf := fermat hp (a := a ^ k) (fun hd => hpa (hp.dvd_pow hd))
 have hg := pow_gcd hcb (q ^ (e + 1)) (p - 1) hb1 (by rw [hf, Nat.mod_eq_of_lt hp1])
 rcases dvd_pow_or hq (Nat.gcd_dvd_left (q ^ (e + 1)) (p - 1)) with h3 | h3
 . exfalso
   obtain ⟨j, hj⟩ := h3
   have h4 := pow_mul_mod hg j
   rw [← hj, ← Nat.pow_mul] at h4
   have h5 : (n - 1) / q = k * q ^ e := by
     rw [hk, Nat.pow_succ, Nat.mul_comm (q ^ e) q, Nat.mul_assoc, Nat.mul_div_cancel_left _ hq.pos, Nat.mul_comm]
   rw [← h5] at h4
   have h6 : p ∣ a ^ ((n - 1) / q) % n + (n - 1) := by
     refine Nat.dvd_of_mod_eq_zero ?_
     rw [Nat.add_mod, Nat.mod_mod_of_dvd _ hpn, h4, ← Nat.add_mod, show 1 + (n - 1) = n by omega]
     exact Nat.mod_eq_zero_of_dvd hpn
   have h7 : p ∣ 1 := h2 ▸ Nat.dvd_gcd h6 hpn
   have := Nat.le_of_dvd (by omega) h7
   omega
 . rw [← h3]; exact Nat.gcd_dvd_right _ _
def pm (m : Nat) : Nat → Nat → Nat → Nat
 | 0, _, _ => 1 % m
 | f + 1, a, e => if e % 2 = 1 then a * pm m f (a * a % m) (e / 2) % m else pm m f (a * a % m) (e / 2)
theorem pm_eq (m : Nat) : ∀ (f a e : Nat), e < 2 ^ f → pm m f a e = a ^ e % m
 | 0, a, e, h => by
   have : e = 0 := by simpa using h
   subst this; rfl
 | f + 1, a, e, h => by
   have ih := pm_eq m f (a * a % m) (e / 2) (by rw [Nat.pow_succ] at h; omega)
   rw [pm, ih, ← Nat.pow_mod, ← Nat.pow_two, ← Nat.pow_mul]
   split
   . rename_i h1
     rw [Nat.mul_mod_mod, ← Nat.pow_succ']
     congr 2; omega
   . congr 2; omega
def rowOk (n : Nat) (r : Nat × Nat × Nat) : Bool :=
 decide ((n - 1) % r.1 ^ (r.2.1 + 1) = 0) && decide (pm n 400 r.2.2 (n - 1) = 1) && decide (Nat.gcd (pm n 400 r.2.2 ((n - 1) / r.1) + (n - 1)) n = 1)
def prodOf : List (Nat × Nat × Nat) → Nat
 | [] => 1
 | r :: l => r.1 ^ (r.2.1 + 1) * prodOf l
def distinct : List (Nat × Nat × Nat) → Bool
 | [] => true
 | r :: l => (l.all fun s => decide (r.1 ≠ s.1)) && distinct l
def certOk (n : Nat) (l : List (Nat × Nat × Nat)) : Bool :=
 decide (1 < n) && decide (n < 2 ^ 400) && l.all (rowOk n) && distinct l && decide (n < (prodOf l + 1) * (prodOf l + 1))
theorem prod_dvd {x : Nat} : ∀ (l : List (Nat × Nat × Nat)), (∀ r ∈ l, Pr r.1) → distinct l = true → (∀ r ∈ l, r.1 ^ (r.2.1 + 1) ∣ x) → prodOf l ∣ x
 | [], _, _, _ => Nat.one_dvd x
 | r :: l, hp, hd, hx => by
   simp only [distinct, Bool.and_eq_true, List.all_eq_true, decide_eq_true_eq] at hd
   refine Nat.Coprime.mul_dvd_of_dvd_of_dvd ?_ (hx r (by simp)) (prod_dvd l (fun s hs => hp s (by simp [hs])) hd.2 fun s hs => hx s (by simp [hs]))
   have hr := hp r (by simp)
   have : ∀ (k : List (Nat × Nat × Nat)), (∀ s ∈ k, s ∈ l) → Nat.Coprime (r.1 ^ (r.2.1 + 1)) (prodOf k) := by
     intro k
     induction k with
     | nil => intro _; simp [prodOf]
     | cons s k ih =>
       intro hk
       have hsl := hk s (by simp)
       have hs := hp s (by simp [hsl])
       refine Nat.Coprime.mul_right ?_ (ih fun t ht => hk t (by simp [ht]))
       refine Nat.Coprime.pow _ _ (hs.coprime fun h => ?_)
       rcases hr.2 _ h with h1 | h1
       . have := hs.1; omega
       . exact hd.1 s hsl h1.symm
   exact this l fun s hs => hs
theorem cert {n : Nat} {l : List (Nat × Nat × Nat)} (h : certOk n l = true) (hl : ∀ r ∈ l, Pr r.1) : Pr n := by
 simp only [certOk, Bool.and_eq_true, decide_eq_true_eq, List.all_eq_true] at h
 obtain ⟨⟨⟨⟨hn, hb⟩, hr⟩, hd⟩, hF⟩ := h
 have key : ∀ p, Pr p → p ∣ n → prodOf l < p := by
   intro p hp hpn
   have h1 : prodOf l ∣ p - 1 := by
     refine prod_dvd l hl hd fun r hrl => ?_
     have hrow := hr r hrl
     simp only [rowOk, Bool.and_eq_true, decide_eq_true_eq] at hrow
     obtain ⟨⟨h1, h2⟩, h3⟩ := hrow
     have hq := hl r hrl
     have hdiv : (n - 1) / r.1 ≤ n - 1 := Nat.div_le_self _ _
     rw [pm_eq _ _ _ _ (by omega)] at h2 h3
     exact pock_part hn hq hp hpn (Nat.dvd_of_mod_eq_zero h1) (by rw [h2, Nat.mod_eq_of_lt hn]) h3
   have := Nat.le_of_dvd (by have := hp.1; omega) h1
   have := hp.1
   omega
 have least : ∀ k, 1 < k → k ∣ n → (∃ p, Pr p ∧ p ∣ k) := by
   intro k
   induction k using Nat.strongRecOn with
   | ind k ih =>
     intro hk hkn
     by_cases hpr : ∀ d, d ∣ k → d = 1 ∨ d = k
     . exact ⟨k, ⟨hk, hpr⟩, Nat.dvd_refl k⟩
     . simp only [Classical.not_forall, not_or] at hpr
       obtain ⟨d, hdk, h1, h2⟩ := hpr
       have hle := Nat.le_of_dvd (by omega) hdk
       have h0 : d ≠ 0 := by rintro rfl; have := Nat.eq_zero_of_zero_dvd hdk; omega
       obtain ⟨p, hp, hpd⟩ := ih d (by omega) (by omega) (Nat.dvd_trans hdk hkn)
       exact ⟨p, hp, Nat.dvd_trans hpd hdk⟩
 refine ⟨hn, fun d hdn => ?_⟩
 obtain ⟨e, rfl⟩ := hdn
 by_cases h1 : d = 1
 . exact .inl h1
 . by_cases h2 : e = 1
   . exact .inr (by rw [h2, Nat.mul_one])
   . exfalso
     have hd0 : d ≠ 0 := by rintro rfl; simp at hn
     have he0 : e ≠ 0 := by rintro rfl; simp at hn
     obtain ⟨p, hp, hpd⟩ := least d (by omega) (Nat.dvd_mul_right d e)
     obtain ⟨q, hq, hqe⟩ := least e (by omega) (Nat.dvd_mul_left e d)
     have k1 := key p hp (Nat.dvd_trans hpd (Nat.dvd_mul_right d e))
     have k2 := key q hq (Nat.dvd_trans hqe (Nat.dvd_mul_left e d))
     have l1 := Nat.le_of_dvd (by omega) hpd
     have l2 := Nat.le_of_dvd (by omega) hqe
     have := Nat.mul_le_mul (show prodOf l + 1 ≤ d by omega) (show prodOf l + 1 ≤ e by omega)
     omega
def smallOk (n : Nat) : Bool := decide (1 < n) && (List.range n).all fun d => decide (d < 2) || !decide (n % d = 0)
theorem small {n : Nat} (h : smallOk n = true) : Pr n := by
 simp only [smallOk, Bool.and_eq_true, decide_eq_true_eq, List.all_eq_true, List.mem_range, Bool.or_eq_true, Bool.not_eq_true', decide_eq_false_iff_not] at h
 refine ⟨h.1, fun d hd => ?_⟩
 have hle := Nat.le_of_dvd (by omega) hd
 have h0 : d ≠ 0 := by rintro rfl; have := Nat.eq_zero_of_zero_dvd hd; omega
 rcases Nat.lt_or_ge d n with h1 | h1
 . rcases h.2 d h1 with h2 | h2
   . left; omega
   . exact absurd (Nat.mod_eq_zero_of_dvd hd) h2
 . right; omega
end NT
end
section
namespace Cv
open NT
variable {p : Nat} [NeZero p]
theorem val_one : ((1 : Fin p)).val = 1 % p := rfl
theorem val_zero : ((0 : Fin p)).val = 0 := Nat.zero_mod p
def inv1 (a : Fin p) : Fin p := ⟨a.val ^ (p - 2) % p, Nat.mod_lt _ (Nat.pos_of_ne_zero (NeZero.ne p))⟩
theorem inv1_ok (hp : Pr p) (h2 : 2 < p) (a : Fin p) (h : a ≠ 0) : a * inv1 a = 1 := by
 have h0 : a.val ≠ 0 := fun e => h (Fin.ext (by rw [e]; rfl))
 have hd : ¬ p ∣ a.val := fun h => by have := Nat.le_of_dvd (Nat.pos_of_ne_zero h0) h; have := a.isLt; omega
 have hf := fermat hp hd
 refine Fin.ext ?_
 rw [Fin.val_mul, val_one]
 show a.val * (a.val ^ (p - 2) % p) % p = _
 rw [Nat.mul_mod_mod, Nat.mul_comm, ← Nat.pow_succ, show (p - 2).succ = p - 1 by omega, hf, Nat.mod_eq_of_lt (by omega)]
def inv2 (x : F2 p) : F2 p := ⟨x.a * inv1 (x.a * x.a + x.b * x.b), 0 - x.b * inv1 (x.a * x.a + x.b * x.b)⟩
end Cv
end
section
namespace Go.Proofs.YtmholgclgamnnaaGreat
open Go Eng
def LMk : Nat → Nat := fun b => match b with | 0 => 20 | _ => 0
theorem newton_lt (m : Nat) : ∀ k, newton m k < 18446744073709551616
 | 0 => by show 1 < 18446744073709551616; decide
 | k + 1 => Nat.mod_lt _ (by omega)
theorem newton_bin {A : Ar} (hA : A = Ar.real) {lim : Lim} (hl : lim = limR) (m k : Nat) {x : Int} (hx : x = (newton m k : Nat)) : A.bin .mul .u64 x (A.bin .sub .u64 2 (A.bin .mul .u64 (lim m 0) x)) = (newton m (k + 1) : Nat) := by
 subst hx
 rw [lim_mod hl, hA]
 show rbin .mul .u64 (Int.ofNat (newton m k)) (rbin .sub .u64 (Int.ofNat 2) (rbin .mul .u64 (Int.ofNat (m % 18446744073709551616)) (Int.ofNat (newton m k)))) = _
 rw [u_mul, u_sub _ _ (by omega), u_mul]
 show ((newton m k * ((2 + 18446744073709551616 - m % 18446744073709551616 * newton m k % 18446744073709551616) % 18446744073709551616) % 18446744073709551616 : Nat) : Int) = ((newton m k * ((18446744073709551616 + 2 - m * newton m k % 18446744073709551616) % 18446744073709551616) % 18446744073709551616 : Nat) : Int)
 rw [Nat.mod_mul_mod, Nat.add_comm 2]
theorem neg_bin {A : Ar} (hA : A = Ar.real) {x : Int} {n : Nat} (hx : x = (n : Nat)) (hn : n < 18446744073709551616) : A.un .neg .u64 x = ((18446744073709551616 - n) % 18446744073709551616 : Nat) := by
 subst hx
 rw [hA]
 show IntKind.u64.wrap (0 - (n : Int)) = _
 rw [wrap_u64]
 omega
theorem leafEq_si (k k' : IntKind) (a b : Int) : leafEq (.s k a, .i k' b) = decide (a = b) := by
 show (a == b) = _
 by_cases h : a = b <;> simp [h]
theorem leafEq_ii (k k' : IntKind) (a b : Int) : leafEq (.i k a, .i k' b) = decide (a = b) := by
 show (a == b) = _
 by_cases h : a = b <;> simp [h]
theorem small4 {A : Ar} (hA : A = Ar.real) {lim : Lim} (hl : lim = limR) {m : Nat} (hm : m < 2 ^ 256) : A.eqs [(.i .u64 0, .i .u64 0), (.s .u64 (lim m 1), .i .u64 0), (.s .u64 (lim m 2), .i .u64 0), (.s .u64 (lim m 3), .i .u64 0)] = decide (m < 18446744073709551616) := by
 rw [eqs_real hA]
 simp only [List.all_cons, List.all_nil, leafEq_si, leafEq_ii, Bool.and_true]
 have e := split4 hl m hm
 have hr := fun i => lim_range hl m i
 have r0 := hr 0
 have r1 := hr 1
 have r2 := hr 2
 have r3 := hr 3
 clear hr
 by_cases h : m < 18446744073709551616
 . rw [decide_eq_true h]
   simp only [Bool.and_eq_true, decide_eq_true_eq]
   refine ⟨trivial, ?_, ?_, ?_⟩ <;> omega
 . rw [decide_eq_false h]
   refine Bool.eq_false_iff.2 fun h' => h ?_
   simp only [Bool.and_eq_true, decide_eq_true_eq] at h'
   omega
theorem MakeS4 {H : H5} (hH : H = H5.real) {m : Nat} (hR : Mod 256 m) : Sp 98 [u4 H.lim m] (.tup [.ref (R4 H m) 0, .i .i64 0]) := by
 have hl := H5.hlim hH
 have hlim := hR.lt
 obtain ⟨X, hX⟩ : ∃ X : Nat → Nat, X = fun i => 2 ^ i % m := ⟨_, rfl⟩
 obtain ⟨O, hO⟩ : ∃ O : Nat → Nat, O = fun i => if i ≤ 256 then 0 else 2 ^ 256 % m := ⟨_, rfl⟩
 have hX0 : X 0 = 1 := by rw [hX]; exact Nat.mod_eq_of_lt hR.one
 have hXs : ∀ i, X (i + 1) = (X i + X i) % m := by
   intro i; rw [hX]; show 2 ^ (i + 1) % m = (2 ^ i % m + 2 ^ i % m) % m
   rw [← Nat.add_mod, Nat.pow_succ, Nat.mul_two]
 have hXm : ∀ i, X i < m := by intro i; rw [hX]; exact Nat.mod_lt _ hR.pos
 have hO0 : O 0 = 0 := by rw [hO]; rfl
 have hOs : ∀ i, O (i + 1) = if i = 256 then X i else O i := by
   intro i; rw [hO, hX]
   show (if i + 1 ≤ 256 then 0 else 2 ^ 256 % m) = if i = 256 then 2 ^ i % m else if i ≤ 256 then 0 else 2 ^ 256 % m
   by_cases h : i = 256
   . subst h; rfl
   . rw [if_neg h]; by_cases h2 : i ≤ 256
     . rw [if_pos h2, if_pos (by omega)]
     . rw [if_neg h2, if_neg (by omega)]
 have hOe : O (2 * 256) = H.mf 256 m 1 := by rw [hO, hH]; show 2 ^ 256 % m = 1 * 2 ^ 256 % m; rw [Nat.one_mul]
 have hXe : X (2 * 256) = H.mf (2 * 256) m 1 := by rw [hX, hH]; show 2 ^ (2 * 256) % m = 1 * 2 ^ (2 * 256) % m; rw [Nat.one_mul]
 have hz : ∀ i, H.lim 0 i = 0 := by intro i; rw [hH]; show ((0 / 2 ^ (64 * i) % 2 ^ 64 : Nat) : Int) = 0; rw [Nat.zero_div]; rfl
 have h10 : H.lim 1 0 = 1 := by rw [hH]; rfl
 have h1s : ∀ i, i < 4 - 1 → H.lim 1 (i + 1) = 0 := by
   intro i hi; rw [hH]; show ((1 / 2 ^ (64 * (i + 1)) % 2 ^ 64 : Nat) : Int) = 0
   rw [Nat.div_eq_of_lt (Nat.one_lt_two_pow (by omega))]; rfl
 refine mk Tryz.func98 rfl rfl LMk R1 (by decide +kernel) fun A S hA hS => ?_
 have e1 : A.cmp .eql (A.bin .and .u64 (H.lim m 0) 1) 0 = false := (even_lim4 hA hl m).trans (decide_eq_false (by have := hR.odd; omega))
 have e2 := small4 hA hl hR.lt
 have e3 : m < 18446744073709551616 → A.cmp .lss (H.lim m 0) 3 = false := by
   intro h
   refine (i_lt hA).trans (decide_eq_false ?_)
   rw [lim_mod hl, Nat.mod_eq_of_lt h]
   have := hR.odd; have := hR.one
   omega
 have n1 := newton_bin hA hl m 0 (x := 1) rfl
 have n2 := newton_bin hA hl m 1 n1
 have n3 := newton_bin hA hl m 2 n2
 have n4 := newton_bin hA hl m 3 n3
 have n5 := newton_bin hA hl m 4 n4
 have n6 := newton_bin hA hl m 5 n5
 have hinv := (neg_bin hA n6 (newton_lt m 6)).trans (show (((18446744073709551616 - newton m 6) % 18446744073709551616 : Nat) : Int) = ((H.minv m : Nat) : Int) from by rw [hH]; rfl)
 clear n1 n2 n3 n4 n5 n6
 unfold bodyOf Tryz.f98
 cbv
 repeat (refine ABr.f e1 ?_; cbv)
 refine aF hS none4S ?_
 cbv
 repeat (refine ABr.f e1 ?_; cbv)
 have hcase : (A.eqs [(.i .u64 0, .i .u64 0), (.s .u64 (H.lim m 1), .i .u64 0), (.s .u64 (H.lim m 2), .i .u64 0), (.s .u64 (H.lim m 3), .i .u64 0)] = true ∧ A.cmp .lss (H.lim m 0) 3 = false) ∨ A.eqs [(.i .u64 0, .i .u64 0), (.s .u64 (H.lim m 1), .i .u64 0), (.s .u64 (H.lim m 2), .i .u64 0), (.s .u64 (H.lim m 3), .i .u64 0)] = false := by
   rw [e2]
   by_cases h : m < 18446744073709551616
   . exact .inl ⟨decide_eq_true h, e3 h⟩
   . exact .inr (decide_eq_false h)
 clear e2 e3
 rcases hcase with ⟨e2, e3⟩ | e2
 all_goals
   repeat ((first | refine ABr.f (by assumption) ?_ | refine ABr.t (by assumption) ?_); cbv)
   refine .inv (α := Nat) (fun i => ⟨[.agg [.s .u64 (H.lim m 0), .s .u64 (H.lim m 1), .s .u64 (H.lim m 2), .s .u64 (H.lim m 3)], .own 0 0, .v (.pointer none), .i .i64 0, .own 1 0, .own 2 0, .any, .own 3 0, .any, .any, .any, .any, .any, .any, .any, .any, .any, .any, .any, .any, .any, .any, .any, .any, .any, .any, .any, .any, .any, .any, .any, .any, .any, .any, .any, .any, .any, .any, .any, .any, .any, .any, .any, .any, .any, .any, .i .i64 512, .s .i64 (i : Nat), .any, .any, .any, .any, .any, .any, .any, .any, .any, .any, .any, .any, .any, .any, .any, .any, .any, .any, .any, .any, .any, .any, .any, .any, .any, .any],
       [⟨true, true, [.s .u64 (H.lim m 0), .s .u64 (H.lim m 1), .s .u64 (H.lim m 2), .s .u64 (H.lim m 3)]⟩, ⟨true, true, [.any, .any, .any, .any]⟩, ⟨true, true, [.i .i64 1, .s .u64 (H.lim m 0), .s .u64 (H.lim m 1), .s .u64 (H.lim m 2), .s .u64 (H.lim m 3), .s .u64 (H.minv m : Nat), .i .i64 0, .s .u64 (H.lim (O i) 0), .s .u64 (H.lim (O i) 1), .s .u64 (H.lim (O i) 2), .s .u64 (H.lim (O i) 3), .i .u64 0, .i .u64 0, .i .u64 0, .i .u64 0]⟩, ⟨true, true, [.s .u64 (H.lim (X i) 0), .s .u64 (H.lim (X i) 1), .s .u64 (H.lim (X i) 2), .s .u64 (H.lim (X i) 3)]⟩]⟩) (fun i => i ≤ 2 * 256) (fun i => 2 * 256 - i) 0 ?_ (Nat.zero_le _) ?_
   . rw [hO0, hX0]
     cbv
     repeat' (first | exact hinv | exact (hz _).symm | exact h10.symm | exact (h1s _ (by omega)).symm | constructor)
   intro i hi
   have hxs := hXs i
   have hxm := hXm i
   have hos := hOs i
   have hxm2 := hXm (i + 1)
   by_cases hlt : i < 2 * 256
   . have hc : A.cmp .lss (i : Int) 512 = true := (i_lt hA).trans (decide_eq_true (by omega))
     have hadd : A.bin .add .i64 (i : Int) 1 = ((i + 1 : Nat) : Int) := e_add hA rfl rfl rfl (by omega)
     have hdec : 2 * 256 - (i + 1) < 2 * 256 - i := by omega
     have hev : (A.cmp .eql (i : Int) 256 = true ∧ O (i + 1) = X i) ∨ (A.cmp .eql (i : Int) 256 = false ∧ O (i + 1) = O i) := by
       rw [i_eq hA]
       by_cases h : i = 256
       . rw [if_pos h] at hos
         exact .inl ⟨decide_eq_true (by omega), hos⟩
       . rw [if_neg h] at hos
         exact .inr ⟨decide_eq_false (by omega), hos⟩
     have hend : ∃ j : Nat, j = i + 1 := ⟨_, rfl⟩
     obtain ⟨j, hj⟩ := hend
     rw [← hj] at hxs hxm2 hev hadd hdec
     generalize X i = x at hxs hxm hev ⊢
     generalize hxj : X j = y at hxs hxm2
     generalize hoj : O j = o' at hev
     generalize O i = o at hev ⊢
     cbv
     refine ABr.t hc ?_
     cbv
     rcases hev with ⟨hev, ho⟩ | ⟨hev, ho⟩
     . refine ABr.t hev ?_
       cbv
       refine ACall.mk _ (cg hS (addS4 hl hR (inv := H.minv m) 0 x 0 x x y hxm hxm hxs) ?_) ?_
       . cbv
         repeat' (first | exact (hz _).symm | constructor)
       cbv
       refine ⟨j, ?_, by omega, hdec⟩
       rw [hxj, hoj, ho]
       cbv
       repeat' (first | exact hadd | constructor)
     . refine ABr.f hev ?_
       cbv
       refine ACall.mk _ (cg hS (addS4 hl hR (inv := H.minv m) 0 o 0 x x y hxm hxm hxs) ?_) ?_
       . cbv
         repeat' (first | exact (hz _).symm | constructor)
       cbv
       refine ⟨j, ?_, by omega, hdec⟩
       rw [hxj, hoj, ho]
       cbv
       repeat' (first | exact hadd | constructor)
   . obtain rfl : i = 2 * 256 := by omega
     have hc : A.cmp .lss ((2 * 256 : Nat) : Int) 512 = false := (i_lt hA).trans (decide_eq_false (by omega))
     rw [hOe, hXe]
     cbv
     refine ABr.f hc ?_
     cbv
     refine ACall.mk _ (cf hS (prime4S hH m hlim)) ?_
     cbv
theorem small6 {A : Ar} (hA : A = Ar.real) {lim : Lim} (hl : lim = limR) {m : Nat} (hm : m < 2 ^ 384) : A.eqs [(.i .u64 0, .i .u64 0), (.s .u64 (lim m 1), .i .u64 0), (.s .u64 (lim m 2), .i .u64 0), (.s .u64 (lim m 3), .i .u64 0), (.s .u64 (lim m 4), .i .u64 0), (.s .u64 (lim m 5), .i .u64 0)] = decide (m < 18446744073709551616) := by
 rw [eqs_real hA]
 simp only [List.all_cons, List.all_nil, leafEq_si, leafEq_ii, Bool.and_true]
 have e := split6 hl m hm
 have hr := fun i => lim_range hl m i
 have r0 := hr 0
 have r1 := hr 1
 have r2 := hr 2
 have r3 := hr 3
 have r4 := hr 4
 have r5 := hr 5
 clear hr
 by_cases h : m < 18446744073709551616
 . rw [decide_eq_true h]
   simp only [Bool.and_eq_true, decide_eq_true_eq]
   refine ⟨trivial, ?_, ?_, ?_, ?_, ?_⟩ <;> omega
 . rw [decide_eq_false h]
   refine Bool.eq_false_iff.2 fun h' => h ?_
   simp only [Bool.and_eq_true, decide_eq_true_eq] at h'
   omega
theorem MakeS6 {H : H5} (hH : H = H5.real) {m : Nat} (hR : Mod 384 m) : Sp 71 [u6 H.lim m] (.tup [.ref (R6 H m) 0, .i .i64 0]) := by
 have hl := H5.hlim hH
 have hlim := hR.lt
 obtain ⟨X, hX⟩ : ∃ X : Nat → Nat, X = fun i => 2 ^ i % m := ⟨_, rfl⟩
 obtain ⟨O, hO⟩ : ∃ O : Nat → Nat, O = fun i => if i ≤ 384 then 0 else 2 ^ 384 % m := ⟨_, rfl⟩
 have hX0 : X 0 = 1 := by rw [hX]; exact Nat.mod_eq_of_lt hR.one
 have hXs : ∀ i, X (i + 1) = (X i + X i) % m := by
   intro i; rw [hX]; show 2 ^ (i + 1) % m = (2 ^ i % m + 2 ^ i % m) % m
   rw [← Nat.add_mod, Nat.pow_succ, Nat.mul_two]
 have hXm : ∀ i, X i < m := by intro i; rw [hX]; exact Nat.mod_lt _ hR.pos
 have hO0 : O 0 = 0 := by rw [hO]; rfl
 have hOs : ∀ i, O (i + 1) = if i = 384 then X i else O i := by
   intro i; rw [hO, hX]
   show (if i + 1 ≤ 384 then 0 else 2 ^ 384 % m) = if i = 384 then 2 ^ i % m else if i ≤ 384 then 0 else 2 ^ 384 % m
   by_cases h : i = 384
   . subst h; rfl
   . rw [if_neg h]; by_cases h2 : i ≤ 384
     . rw [if_pos h2, if_pos (by omega)]
     . rw [if_neg h2, if_neg (by omega)]
 have hOe : O (2 * 384) = H.mf 384 m 1 := by rw [hO, hH]; show 2 ^ 384 % m = 1 * 2 ^ 384 % m; rw [Nat.one_mul]
 have hXe : X (2 * 384) = H.mf (2 * 384) m 1 := by rw [hX, hH]; show 2 ^ (2 * 384) % m = 1 * 2 ^ (2 * 384) % m; rw [Nat.one_mul]
 have hz : ∀ i, H.lim 0 i = 0 := by intro i; rw [hH]; show ((0 / 2 ^ (64 * i) % 2 ^ 64 : Nat) : Int) = 0; rw [Nat.zero_div]; rfl
 have h10 : H.lim 1 0 = 1 := by rw [hH]; rfl
 have h1s : ∀ i, i < 6 - 1 → H.lim 1 (i + 1) = 0 := by
   intro i hi; rw [hH]; show ((1 / 2 ^ (64 * (i + 1)) % 2 ^ 64 : Nat) : Int) = 0
   rw [Nat.div_eq_of_lt (Nat.one_lt_two_pow (by omega))]; rfl
 refine mk Tryz.func71 rfl rfl LMk R1 (by decide +kernel) fun A S hA hS => ?_
 have e1 : A.cmp .eql (A.bin .and .u64 (H.lim m 0) 1) 0 = false := (even_lim6 hA hl m).trans (decide_eq_false (by have := hR.odd; omega))
 have e2 := small6 hA hl hR.lt
 have e3 : m < 18446744073709551616 → A.cmp .lss (H.lim m 0) 3 = false := by
   intro h
   refine (i_lt hA).trans (decide_eq_false ?_)
   rw [lim_mod hl, Nat.mod_eq_of_lt h]
   have := hR.odd; have := hR.one
   omega
 have n1 := newton_bin hA hl m 0 (x := 1) rfl
 have n2 := newton_bin hA hl m 1 n1
 have n3 := newton_bin hA hl m 2 n2
 have n4 := newton_bin hA hl m 3 n3
 have n5 := newton_bin hA hl m 4 n4
 have n6 := newton_bin hA hl m 5 n5
 have hinv := (neg_bin hA n6 (newton_lt m 6)).trans (show (((18446744073709551616 - newton m 6) % 18446744073709551616 : Nat) : Int) = ((H.minv m : Nat) : Int) from by rw [hH]; rfl)
 clear n1 n2 n3 n4 n5 n6
 unfold bodyOf Tryz.f71
 cbv
 repeat (refine ABr.f e1 ?_; cbv)
 refine aF hS none6S ?_
 cbv
 repeat (refine ABr.f e1 ?_; cbv)
 have hcase : (A.eqs [(.i .u64 0, .i .u64 0), (.s .u64 (H.lim m 1), .i .u64 0), (.s .u64 (H.lim m 2), .i .u64 0), (.s .u64 (H.lim m 3), .i .u64 0), (.s .u64 (H.lim m 4), .i .u64 0), (.s .u64 (H.lim m 5), .i .u64 0)] = true ∧ A.cmp .lss (H.lim m 0) 3 = false) ∨ A.eqs [(.i .u64 0, .i .u64 0), (.s .u64 (H.lim m 1), .i .u64 0), (.s .u64 (H.lim m 2), .i .u64 0), (.s .u64 (H.lim m 3), .i .u64 0), (.s .u64 (H.lim m 4), .i .u64 0), (.s .u64 (H.lim m 5), .i .u64 0)] = false := by
   rw [e2]
   by_cases h : m < 18446744073709551616
   . exact .inl ⟨decide_eq_true h, e3 h⟩
   . exact .inr (decide_eq_false h)
 clear e2 e3
 rcases hcase with ⟨e2, e3⟩ | e2
 all_goals
   repeat ((first | refine ABr.f (by assumption) ?_ | refine ABr.t (by assumption) ?_); cbv)
   refine .inv (α := Nat) (fun i => ⟨[.agg [.s .u64 (H.lim m 0), .s .u64 (H.lim m 1), .s .u64 (H.lim m 2), .s .u64 (H.lim m 3), .s .u64 (H.lim m 4), .s .u64 (H.lim m 5)], .own 0 0, .v (.pointer none), .i .i64 0, .own 1 0, .own 2 0, .any, .own 3 0, .any, .any, .any, .any, .any, .any, .any, .any, .any, .any, .any, .any, .any, .any, .any, .any, .any, .any, .any, .any, .any, .any, .any, .any, .any, .any, .any, .any, .any, .any, .any, .any, .any, .any, .any, .any, .any, .any, .i .i64 768, .s .i64 (i : Nat), .any, .any, .any, .any, .any, .any, .any, .any, .any, .any, .any, .any, .any, .any, .any, .any, .any, .any, .any, .any, .any, .any, .any, .any, .any, .any],
       [⟨true, true, [.s .u64 (H.lim m 0), .s .u64 (H.lim m 1), .s .u64 (H.lim m 2), .s .u64 (H.lim m 3), .s .u64 (H.lim m 4), .s .u64 (H.lim m 5)]⟩, ⟨true, true, [.any, .any, .any, .any, .any, .any]⟩, ⟨true, true, [.i .i64 1, .s .u64 (H.lim m 0), .s .u64 (H.lim m 1), .s .u64 (H.lim m 2), .s .u64 (H.lim m 3), .s .u64 (H.lim m 4), .s .u64 (H.lim m 5), .s .u64 (H.minv m : Nat), .i .i64 0, .s .u64 (H.lim (O i) 0), .s .u64 (H.lim (O i) 1), .s .u64 (H.lim (O i) 2), .s .u64 (H.lim (O i) 3), .s .u64 (H.lim (O i) 4), .s .u64 (H.lim (O i) 5), .i .u64 0, .i .u64 0, .i .u64 0, .i .u64 0, .i .u64 0, .i .u64 0]⟩, ⟨true, true, [.s .u64 (H.lim (X i) 0), .s .u64 (H.lim (X i) 1), .s .u64 (H.lim (X i) 2), .s .u64 (H.lim (X i) 3), .s .u64 (H.lim (X i) 4), .s .u64 (H.lim (X i) 5)]⟩]⟩) (fun i => i ≤ 2 * 384) (fun i => 2 * 384 - i) 0 ?_ (Nat.zero_le _) ?_
   . rw [hO0, hX0]
     cbv
     repeat' (first | exact hinv | exact (hz _).symm | exact h10.symm | exact (h1s _ (by omega)).symm | constructor)
   intro i hi
   have hxs := hXs i
   have hxm := hXm i
   have hos := hOs i
   have hxm2 := hXm (i + 1)
   by_cases hlt : i < 2 * 384
   . have hc : A.cmp .lss (i : Int) 768 = true := (i_lt hA).trans (decide_eq_true (by omega))
     have hadd : A.bin .add .i64 (i : Int) 1 = ((i + 1 : Nat) : Int) := e_add hA rfl rfl rfl (by omega)
     have hdec : 2 * 384 - (i + 1) < 2 * 384 - i := by omega
     have hev : (A.cmp .eql (i : Int) 384 = true ∧ O (i + 1) = X i) ∨ (A.cmp .eql (i : Int) 384 = false ∧ O (i + 1) = O i) := by
       rw [i_eq hA]
       by_cases h : i = 384
       . rw [if_pos h] at hos
         exact .inl ⟨decide_eq_true (by omega), hos⟩
       . rw [if_neg h] at hos
         exact .inr ⟨decide_eq_false (by omega), hos⟩
     have hend : ∃ j : Nat, j = i + 1 := ⟨_, rfl⟩
     obtain ⟨j, hj⟩ := hend
     rw [← hj] at hxs hxm2 hev hadd hdec
     generalize X i = x at hxs hxm hev ⊢
     generalize hxj : X j = y at hxs hxm2
     generalize hoj : O j = o' at hev
     generalize O i = o at hev ⊢
     cbv
     refine ABr.t hc ?_
     cbv
     rcases hev with ⟨hev, ho⟩ | ⟨hev, ho⟩
     . refine ABr.t hev ?_
       cbv
       refine ACall.mk _ (cg hS (addS6 hl hR (inv := H.minv m) 0 x 0 x x y hxm hxm hxs) ?_) ?_
       . cbv
         repeat' (first | exact (hz _).symm | constructor)
       cbv
       refine ⟨j, ?_, by omega, hdec⟩
       rw [hxj, hoj, ho]
       cbv
       repeat' (first | exact hadd | constructor)
     . refine ABr.f hev ?_
       cbv
       refine ACall.mk _ (cg hS (addS6 hl hR (inv := H.minv m) 0 o 0 x x y hxm hxm hxs) ?_) ?_
       . cbv
         repeat' (first | exact (hz _).symm | constructor)
       cbv
       refine ⟨j, ?_, by omega, hdec⟩
       rw [hxj, hoj, ho]
       cbv
       repeat' (first | exact hadd | constructor)
   . obtain rfl : i = 2 * 384 := by omega
     have hc : A.cmp .lss ((2 * 384 : Nat) : Int) 768 = false := (i_lt hA).trans (decide_eq_false (by omega))
     rw [hOe, hXe]
     cbv
     refine ABr.f hc ?_
     cbv
     refine ACall.mk _ (cf hS (prime6S hH m hlim)) ?_
     cbv
end Go.Proofs.YtmholgclgamnnaaGreat
end
