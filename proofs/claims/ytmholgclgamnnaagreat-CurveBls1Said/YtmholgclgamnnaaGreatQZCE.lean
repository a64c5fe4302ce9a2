import Derived.Test.YtmholgclgamnnaaGreatQZCD
import Derived.Test.YtmholgclgamnnaaGreatQZI
import Derived.Test.YtmholgclgamnnaaGreatQZM
set_option linter.unusedVariables false
set_option linter.unusedSimpArgs false
namespace Go.Proofs.YtmholgclgamnnaaGreat
open Go Eng
set_option maxRecDepth 100000
set_option exponentiation.threshold 2000
set_option maxHeartbeats 4000000
theorem a_offs {A : Ar} (hA : A = Ar.real) (off i sz : Nat) : A.offs off i sz = off + i * sz := by rw [hA]; rfl
theorem bitsS {lim : Lim} (e : Nat) : Sp 163 [u4 lim e] (.fn (.func 207) [] [.ref [.s .u64 (lim e 0), .s .u64 (lim e 1), .s .u64 (lim e 2), .s .u64 (lim e 3)] 0]) := by
  refine mkE Tryz.func163 rfl rfl LN R1 (by decide +kernel) fun A S hA hS => ?_
  unfold bodyOf Tryz.f163
  cbv
theorem bitsI {c0 c1 c2 c3 : Int} {ws : Nat → Int} (hcs : IsRow [.s .u64 c0, .s .u64 c1, .s .u64 c2, .s .u64 c3] ws 4) (hw : ∀ i, i < 4 → 0 ≤ ws i ∧ ws i < 18446744073709551616) (xs : Nat → List AVal)
    (hx : ∀ i, i < 256 → xs i = [.s .u64 (bitAt ws 4 i : Nat)]) : SeqSp Tryz.prog 207 [.ref [.s .u64 c0, .s .u64 c1, .s .u64 c2, .s .u64 c3] 0] 256 xs := by
  refine mkI Tryz.func207 rfl rfl LN R0 (by decide +kernel) (by decide +kernel) fun A S hA hSn hxs => ?_
  unfold bodyOf Tryz.f207
  cbv
  refine .inv (α := Nat × Int) (fun p => ⟨[.v (.func (.yield S.l) #[] #[]), .ref [.s .u64 c0, .s .u64 c1, .s .u64 c2, .s .u64 c3] 0, .tup [], .s .i64 p.2, .any, .any, .any, .any, .any, .any, .any, .any, .any, .any, .any, .any, .any, .any, .any], ghost p.1⟩)
    (fun p => p.1 ≤ 256 ∧ p.2 = 255 - p.1) (fun p => 256 - p.1) (0, 255) ?_ ⟨Nat.zero_le _, by omega⟩ ?_
  · cbv
  rintro ⟨j, i⟩ ⟨hj, hi⟩
  dsimp only at hj hi ⊢
  by_cases h0 : i ≥ 0
  · obtain ⟨k, rfl⟩ : ∃ k : Nat, i = k := ⟨i.toNat, by omega⟩
    have hjk : 64 * 4 - 1 - j = k := by omega
    have hj' : j < 256 := by omega
    obtain ⟨y, hy⟩ : ∃ y : Int, y = k - 1 := ⟨_, rfl⟩
    have hlast : y = 255 - (j + 1 : Nat) := by omega
    have hdec : 256 - (j + 1) < 256 - j := by omega
    obtain ⟨q, hqk⟩ : ∃ q, q = k / 64 := ⟨_, rfl⟩
    have hqn : q < 4 := by omega
    have hrem : A.bin .rem .i64 (k : Int) 64 = ((k % 64 : Nat) : Int) := e_rem hA rfl rfl (by omega) (by omega)
    have hquo : A.bin .quo .i64 (k : Int) 64 = (q : Int) := e_quo hA rfl rfl (by omega) (by omega) (by omega) (by omega)
    have hsub : A.bin .sub .i64 (k : Int) 1 = y := e_sub hA rfl rfl hy.symm (by omega)
    have hok : A.okb .shr (A.bin .rem .i64 (k : Int) 64) = true := by rw [hrem]; exact (a_okbS hA (by omega)).1
    have hge : A.cmp .geq (k : Int) 0 = true := (i_ge hA).trans (decide_eq_true (by omega))
    have hq : lsub [.s .u64 c0, .s .u64 c1, .s .u64 c2, .s .u64 c3] (A.offs 0 q 1) 1 = some [.s .u64 (ws q)] := by rw [a_offs hA, Nat.zero_add]; exact hcs.2 q hqn
    have hbit := u_bit hA (hw q hqn) hrem (by omega)
    have hargs : [AVal.s .u64 (A.bin .and .u64 (A.bin .shr .u64 (ws q) (A.bin .rem .i64 (k : Int) 64)) 1)] = S.xs j := by
      rw [hxs, hx j hj', hbit]
      unfold bitAt
      rw [hjk, hqk]
    have nt : (!true) = false := rfl
    cbv
    refine ABr.t hge ?_
    cbv
    refine .sym q hquo hqn ?_
    cbv
    refine .mk _ hq ?_
    cbv
    refine .mk hok ?_
    cbv
    refine .mk j rfl (by rw [hSn]; exact hj') rfl hargs ?_
    cbv
    refine ⟨(j + 1, y), ?_, ⟨hj', hlast⟩, hdec⟩
    cbv
    simp only [and_true]
    exact hsub
  · have hge : A.cmp .geq i 0 = false := (i_ge hA).trans (decide_eq_false h0)
    obtain rfl : j = 256 := by omega
    obtain ⟨e, he⟩ : ∃ e, e = ghost 256 := ⟨_, rfl⟩
    rw [← he]
    cbv
    refine ABr.f hge ?_
    cbv
theorem row4u (lim : Lim) (e : Nat) : IsRow [.s .u64 (lim e 0), .s .u64 (lim e 1), .s .u64 (lim e 2), .s .u64 (lim e 3)] (lim e) 4 :=
  ⟨rfl, fun i hi => by match i, hi with | 0, _ => rfl | 1, _ => rfl | 2, _ => rfl | 3, _ => rfl⟩
def timesHb4 {α : Type} (K : Kd α) (r : List AVal) (b : α) (p : Cv.Jac α) (lim : Lim) (e : Nat) (o : Cv.Jac α) : List Blk :=
  [⟨true, true, [.ifc 174 (.agg [.ref r 0]), .s .u64 (K.w b 0), .s .u64 (K.w b 1), .s .u64 (K.w b 2), .s .u64 (K.w b 3)]⟩, ⟨true, true, [.s .u64 (K.w p.x 0), .s .u64 (K.w p.x 1), .s .u64 (K.w p.x 2), .s .u64 (K.w p.x 3), .s .u64 (K.w p.y 0), .s .u64 (K.w p.y 1), .s .u64 (K.w p.y 2), .s .u64 (K.w p.y 3), .s .u64 (K.w p.z 0), .s .u64 (K.w p.z 1), .s .u64 (K.w p.z 2), .s .u64 (K.w p.z 3)]⟩,
    ⟨true, true, [.s .u64 (lim e 0), .s .u64 (lim e 1), .s .u64 (lim e 2), .s .u64 (lim e 3)]⟩, ⟨true, true, [.i .u64 0, .i .u64 0, .i .u64 0, .i .u64 0, .i .u64 0, .i .u64 0, .i .u64 0, .i .u64 0, .i .u64 0, .i .u64 0, .i .u64 0, .i .u64 0]⟩,
    ⟨true, true, [.s .u64 (K.w o.x 0), .s .u64 (K.w o.x 1), .s .u64 (K.w o.x 2), .s .u64 (K.w o.x 3), .s .u64 (K.w o.y 0), .s .u64 (K.w o.y 1), .s .u64 (K.w o.y 2), .s .u64 (K.w o.y 3), .s .u64 (K.w o.z 0), .s .u64 (K.w o.z 1), .s .u64 (K.w o.z 2), .s .u64 (K.w o.z 3)]⟩]
theorem timesb4 {α : Type} [DecidableEq α] {K : Kd α} {r : List AVal} (hK : Okb4 K r) (b : α) (p : Cv.Jac α) {lim : Lim} (hl : lim = limR) (e : Nat) (he : e < 2 ^ 256) :
    Sp 112 [Grb4 K r b, Jb4 K p, u4 lim e] (Jb4 K (Cv.tm K.O p e 256 256)) := by
  have tw := twiceb4 hK b
  have pl := plusb4 hK b
  have hb := bitsS (lim := lim) e
  obtain ⟨t, ht⟩ : ∃ t : Nat → Nat, t = bitAt (lim e) 4 := ⟨_, rfl⟩
  have hd := bitsI (row4u lim e) (fun i _ => lim_range hl e i) (fun i => [.s .u64 (t i : Nat)]) (fun i _ => by rw [ht])
  obtain ⟨x, hx⟩ : ∃ x : Nat → Cv.Jac α, x = Cv.tm K.O p e 256 := ⟨_, rfl⟩
  have hx0 : x 0 = Cv.inf K.O := by rw [hx]; rfl
  have hxs : ∀ i, i < 256 → x (i + 1) = if t i = 1 then Cv.plus K.O (Cv.dbl K.O (x i)) p else Cv.dbl K.O (x i) := by
    intro i hi
    rw [hx, ht, hl, bitAt_eq e 4 i hi]
    rfl
  rw [← hx]
  have z := hK.zero
  clear hx
  refine mk Tryz.func112 rfl rfl LN R1 (by decide +kernel) fun A S hA hS => ?_
  unfold bodyOf Tryz.f112
  cbv
  refine ACall.mk _ (cf hS hb) ?_
  cbv
  refine .mk _ _ (cs hS hd) (fun i _ => rfl) (fun i => timesHb4 K r b p lim e (x i)) ?_ ?_ ?_
  · rw [hx0]
    cbv
    repeat' (first | exact (z _ (by decide)).symm | (have h := hK.sim 8; unfold simL at h; exact h) | exact trivial | constructor)
  · intro i hi
    have hst := hxs i hi
    have hb := bit_eq hA (t i)
    generalize x (i + 1) = y at hst ⊢
    generalize x i = xi at hst ⊢
    generalize t i = ti at hst hb ⊢
    have tw := tw xi
    generalize Cv.dbl K.O xi = di at *
    have pl := pl di p
    generalize Cv.plus K.O di p = pi at *
    cbv
    refine ACall.mk _ (cf hS tw) ?_
    cbv
    by_cases h1 : ti = 1
    · rw [if_pos h1] at hst
      rw [decide_eq_true h1] at hb
      subst hst
      refine ABr.t hb ?_
      cbv
      refine ACall.mk _ (cf hS pl) ?_
      cbv
      repeat' (first | (have h := hK.sim 8; unfold simL at h; exact h) | exact trivial | constructor)
    · rw [if_neg h1] at hst
      rw [decide_eq_false h1] at hb
      subst hst
      refine ABr.f hb ?_
      cbv
      repeat' (first | (have h := hK.sim 8; unfold simL at h; exact h) | exact trivial | constructor)
  · generalize x 256 = y
    cbv
theorem flatb4 {α : Type} {K : Kd α} {r : List AVal} (hK : Okb4 K r) (b : α) (p : Cv.Jac α) :
    Sp 182 [Grb4 K r b, Jb4 K p] (.tup [Eb4 K (K.O.mul p.x (K.O.mul (K.O.inv p.z) (K.O.inv p.z))), Eb4 K (K.O.mul (K.O.mul p.y (K.O.mul (K.O.inv p.z) (K.O.inv p.z))) (K.O.inv p.z))]) := by
  obtain ⟨px, py, pz⟩ := p
  dsimp only
  obtain ⟨i, hi⟩ : ∃ q_, q_ = K.O.inv pz := ⟨_, rfl⟩
  have ci := hK.inv pz
  rw [← hi] at ci ⊢
  obtain ⟨j, hj⟩ : ∃ q_, q_ = K.O.mul i i := ⟨_, rfl⟩
  have cj := hK.mul i i
  rw [← hj] at cj ⊢
  obtain ⟨x, hx⟩ : ∃ q_, q_ = K.O.mul px j := ⟨_, rfl⟩
  have cx := hK.mul px j
  rw [← hx] at cx ⊢
  obtain ⟨y0, hy0⟩ : ∃ q_, q_ = K.O.mul py j := ⟨_, rfl⟩
  have cy0 := hK.mul py j
  rw [← hy0] at cy0 ⊢
  obtain ⟨y, hy⟩ : ∃ q_, q_ = K.O.mul y0 i := ⟨_, rfl⟩
  have cy := hK.mul y0 i
  rw [← hy] at cy ⊢
  refine mk Tryz.func182 rfl rfl L0 R1 (by decide +kernel) fun A S hA hS => ?_
  unfold bodyOf Tryz.f182
  cbv
  refine ACall.mk _ (cf hS ci) ?_
  cbv
  refine ACall.mk _ (cf hS cj) ?_
  cbv
  refine ACall.mk _ (cf hS cx) ?_
  cbv
  refine ACall.mk _ (cf hS cy0) ?_
  cbv
  refine ACall.mk _ (cf hS cy) ?_
  cbv
theorem onb4 {α : Type} [DecidableEq α] {K : Kd α} {r : List AVal} (hK : Okb4 K r) (b x y : α) :
    Sp 111 [Grb4 K r b, Eb4 K x, Eb4 K y] (.sb (decide (K.O.mul y y = K.O.add (K.O.mul (K.O.mul x x) x) b))) := by
  obtain ⟨yy, hyy⟩ : ∃ q_, q_ = K.O.mul y y := ⟨_, rfl⟩
  have cyy := hK.mul y y
  rw [← hyy] at cyy ⊢
  obtain ⟨xx, hxx⟩ : ∃ q_, q_ = K.O.mul x x := ⟨_, rfl⟩
  have cxx := hK.mul x x
  rw [← hxx] at cxx ⊢
  obtain ⟨x3, hx3⟩ : ∃ q_, q_ = K.O.mul xx x := ⟨_, rfl⟩
  have cx3 := hK.mul xx x
  rw [← hx3] at cx3 ⊢
  obtain ⟨s, hs⟩ : ∃ q_, q_ = K.O.add x3 b := ⟨_, rfl⟩
  have cs := hK.add x3 b
  rw [← hs] at cs ⊢
  have he := fun A hA => hK.eq (A := A) hA yy s
  generalize decide (yy = s) = t at *
  refine mk Tryz.func111 rfl rfl L0 R1 (by decide +kernel) fun A S hA hS => ?_
  have he := he A hA
  unfold bodyOf Tryz.f111
  cbv
  refine ACall.mk _ (cf hS cyy) ?_
  cbv
  refine ACall.mk _ (cf hS cxx) ?_
  cbv
  refine ACall.mk _ (cf hS cx3) ?_
  cbv
  refine ACall.mk _ (cf hS cs) ?_
  cbv
  exact he
def timesHt4 {α : Type} (K : Kd α) (r : List AVal) (b : α) (p : Cv.Jac α) (lim : Lim) (e : Nat) (o : Cv.Jac α) : List Blk :=
  [⟨true, true, [.ifc 171 (.agg [.ref r 0]), .s .u64 (K.w b 0), .s .u64 (K.w b 1), .s .u64 (K.w b 2), .s .u64 (K.w b 3), .s .u64 (K.w b 4), .s .u64 (K.w b 5), .s .u64 (K.w b 6), .s .u64 (K.w b 7)]⟩, ⟨true, true, [.s .u64 (K.w p.x 0), .s .u64 (K.w p.x 1), .s .u64 (K.w p.x 2), .s .u64 (K.w p.x 3), .s .u64 (K.w p.x 4), .s .u64 (K.w p.x 5), .s .u64 (K.w p.x 6), .s .u64 (K.w p.x 7), .s .u64 (K.w p.y 0), .s .u64 (K.w p.y 1), .s .u64 (K.w p.y 2), .s .u64 (K.w p.y 3), .s .u64 (K.w p.y 4), .s .u64 (K.w p.y 5), .s .u64 (K.w p.y 6), .s .u64 (K.w p.y 7), .s .u64 (K.w p.z 0), .s .u64 (K.w p.z 1), .s .u64 (K.w p.z 2), .s .u64 (K.w p.z 3), .s .u64 (K.w p.z 4), .s .u64 (K.w p.z 5), .s .u64 (K.w p.z 6), .s .u64 (K.w p.z 7)]⟩,
    ⟨true, true, [.s .u64 (lim e 0), .s .u64 (lim e 1), .s .u64 (lim e 2), .s .u64 (lim e 3)]⟩, ⟨true, true, [.i .u64 0, .i .u64 0, .i .u64 0, .i .u64 0, .i .u64 0, .i .u64 0, .i .u64 0, .i .u64 0, .i .u64 0, .i .u64 0, .i .u64 0, .i .u64 0, .i .u64 0, .i .u64 0, .i .u64 0, .i .u64 0, .i .u64 0, .i .u64 0, .i .u64 0, .i .u64 0, .i .u64 0, .i .u64 0, .i .u64 0, .i .u64 0]⟩,
    ⟨true, true, [.s .u64 (K.w o.x 0), .s .u64 (K.w o.x 1), .s .u64 (K.w o.x 2), .s .u64 (K.w o.x 3), .s .u64 (K.w o.x 4), .s .u64 (K.w o.x 5), .s .u64 (K.w o.x 6), .s .u64 (K.w o.x 7), .s .u64 (K.w o.y 0), .s .u64 (K.w o.y 1), .s .u64 (K.w o.y 2), .s .u64 (K.w o.y 3), .s .u64 (K.w o.y 4), .s .u64 (K.w o.y 5), .s .u64 (K.w o.y 6), .s .u64 (K.w o.y 7), .s .u64 (K.w o.z 0), .s .u64 (K.w o.z 1), .s .u64 (K.w o.z 2), .s .u64 (K.w o.z 3), .s .u64 (K.w o.z 4), .s .u64 (K.w o.z 5), .s .u64 (K.w o.z 6), .s .u64 (K.w o.z 7)]⟩]
theorem timest4 {α : Type} [DecidableEq α] {K : Kd α} {r : List AVal} (hK : Okt4 K r) (b : α) (p : Cv.Jac α) {lim : Lim} (hl : lim = limR) (e : Nat) (he : e < 2 ^ 256) :
    Sp 128 [Grt4 K r b, Jt4 K p, u4 lim e] (Jt4 K (Cv.tm K.O p e 256 256)) := by
  have tw := twicet4 hK b
  have pl := plust4 hK b
  have hb := bitsS (lim := lim) e
  obtain ⟨t, ht⟩ : ∃ t : Nat → Nat, t = bitAt (lim e) 4 := ⟨_, rfl⟩
  have hd := bitsI (row4u lim e) (fun i _ => lim_range hl e i) (fun i => [.s .u64 (t i : Nat)]) (fun i _ => by rw [ht])
  obtain ⟨x, hx⟩ : ∃ x : Nat → Cv.Jac α, x = Cv.tm K.O p e 256 := ⟨_, rfl⟩
  have hx0 : x 0 = Cv.inf K.O := by rw [hx]; rfl
  have hxs : ∀ i, i < 256 → x (i + 1) = if t i = 1 then Cv.plus K.O (Cv.dbl K.O (x i)) p else Cv.dbl K.O (x i) := by
    intro i hi
    rw [hx, ht, hl, bitAt_eq e 4 i hi]
    rfl
  rw [← hx]
  have z := hK.zero
  clear hx
  refine mk Tryz.func128 rfl rfl LN R1 (by decide +kernel) fun A S hA hS => ?_
  unfold bodyOf Tryz.f128
  cbv
  refine ACall.mk _ (cf hS hb) ?_
  cbv
  refine .mk _ _ (cs hS hd) (fun i _ => rfl) (fun i => timesHt4 K r b p lim e (x i)) ?_ ?_ ?_
  · rw [hx0]
    cbv
    repeat' (first | exact (z _ (by decide)).symm | (have h := hK.sim 8; unfold simL at h; exact h) | exact trivial | constructor)
  · intro i hi
    have hst := hxs i hi
    have hb := bit_eq hA (t i)
    generalize x (i + 1) = y at hst ⊢
    generalize x i = xi at hst ⊢
    generalize t i = ti at hst hb ⊢
    have tw := tw xi
    generalize Cv.dbl K.O xi = di at *
    have pl := pl di p
    generalize Cv.plus K.O di p = pi at *
    cbv
    refine ACall.mk _ (cf hS tw) ?_
    cbv
    by_cases h1 : ti = 1
    · rw [if_pos h1] at hst
      rw [decide_eq_true h1] at hb
      subst hst
      refine ABr.t hb ?_
      cbv
      refine ACall.mk _ (cf hS pl) ?_
      cbv
      repeat' (first | (have h := hK.sim 8; unfold simL at h; exact h) | exact trivial | constructor)
    · rw [if_neg h1] at hst
      rw [decide_eq_false h1] at hb
      subst hst
      refine ABr.f hb ?_
      cbv
      repeat' (first | (have h := hK.sim 8; unfold simL at h; exact h) | exact trivial | constructor)
  · generalize x 256 = y
    cbv
theorem ont4 {α : Type} [DecidableEq α] {K : Kd α} {r : List AVal} (hK : Okt4 K r) (b x y : α) :
    Sp 133 [Grt4 K r b, Et4 K x, Et4 K y] (.sb (decide (K.O.mul y y = K.O.add (K.O.mul (K.O.mul x x) x) b))) := by
  obtain ⟨yy, hyy⟩ : ∃ q_, q_ = K.O.mul y y := ⟨_, rfl⟩
  have cyy := hK.mul y y
  rw [← hyy] at cyy ⊢
  obtain ⟨xx, hxx⟩ : ∃ q_, q_ = K.O.mul x x := ⟨_, rfl⟩
  have cxx := hK.mul x x
  rw [← hxx] at cxx ⊢
  obtain ⟨x3, hx3⟩ : ∃ q_, q_ = K.O.mul xx x := ⟨_, rfl⟩
  have cx3 := hK.mul xx x
  rw [← hx3] at cx3 ⊢
  obtain ⟨s, hs⟩ : ∃ q_, q_ = K.O.add x3 b := ⟨_, rfl⟩
  have cs := hK.add x3 b
  rw [← hs] at cs ⊢
  have he := fun A hA => hK.eq (A := A) hA yy s
  generalize decide (yy = s) = t at *
  refine mk Tryz.func133 rfl rfl L0 R1 (by decide +kernel) fun A S hA hS => ?_
  have he := he A hA
  unfold bodyOf Tryz.f133
  cbv
  refine ACall.mk _ (cf hS cyy) ?_
  cbv
  refine ACall.mk _ (cf hS cxx) ?_
  cbv
  refine ACall.mk _ (cf hS cx3) ?_
  cbv
  refine ACall.mk _ (cf hS cs) ?_
  cbv
  exact he
def timesHb6 {α : Type} (K : Kd α) (r : List AVal) (b : α) (p : Cv.Jac α) (lim : Lim) (e : Nat) (o : Cv.Jac α) : List Blk :=
  [⟨true, true, [.ifc 134 (.agg [.ref r 0]), .s .u64 (K.w b 0), .s .u64 (K.w b 1), .s .u64 (K.w b 2), .s .u64 (K.w b 3), .s .u64 (K.w b 4), .s .u64 (K.w b 5)]⟩, ⟨true, true, [.s .u64 (K.w p.x 0), .s .u64 (K.w p.x 1), .s .u64 (K.w p.x 2), .s .u64 (K.w p.x 3), .s .u64 (K.w p.x 4), .s .u64 (K.w p.x 5), .s .u64 (K.w p.y 0), .s .u64 (K.w p.y 1), .s .u64 (K.w p.y 2), .s .u64 (K.w p.y 3), .s .u64 (K.w p.y 4), .s .u64 (K.w p.y 5), .s .u64 (K.w p.z 0), .s .u64 (K.w p.z 1), .s .u64 (K.w p.z 2), .s .u64 (K.w p.z 3), .s .u64 (K.w p.z 4), .s .u64 (K.w p.z 5)]⟩,
    ⟨true, true, [.s .u64 (lim e 0), .s .u64 (lim e 1), .s .u64 (lim e 2), .s .u64 (lim e 3)]⟩, ⟨true, true, [.i .u64 0, .i .u64 0, .i .u64 0, .i .u64 0, .i .u64 0, .i .u64 0, .i .u64 0, .i .u64 0, .i .u64 0, .i .u64 0, .i .u64 0, .i .u64 0, .i .u64 0, .i .u64 0, .i .u64 0, .i .u64 0, .i .u64 0, .i .u64 0]⟩,
    ⟨true, true, [.s .u64 (K.w o.x 0), .s .u64 (K.w o.x 1), .s .u64 (K.w o.x 2), .s .u64 (K.w o.x 3), .s .u64 (K.w o.x 4), .s .u64 (K.w o.x 5), .s .u64 (K.w o.y 0), .s .u64 (K.w o.y 1), .s .u64 (K.w o.y 2), .s .u64 (K.w o.y 3), .s .u64 (K.w o.y 4), .s .u64 (K.w o.y 5), .s .u64 (K.w o.z 0), .s .u64 (K.w o.z 1), .s .u64 (K.w o.z 2), .s .u64 (K.w o.z 3), .s .u64 (K.w o.z 4), .s .u64 (K.w o.z 5)]⟩]
theorem timesb6 {α : Type} [DecidableEq α] {K : Kd α} {r : List AVal} (hK : Okb6 K r) (b : α) (p : Cv.Jac α) {lim : Lim} (hl : lim = limR) (e : Nat) (he : e < 2 ^ 256) :
    Sp 91 [Grb6 K r b, Jb6 K p, u4 lim e] (Jb6 K (Cv.tm K.O p e 256 256)) := by
  have tw := twiceb6 hK b
  have pl := plusb6 hK b
  have hb := bitsS (lim := lim) e
  obtain ⟨t, ht⟩ : ∃ t : Nat → Nat, t = bitAt (lim e) 4 := ⟨_, rfl⟩
  have hd := bitsI (row4u lim e) (fun i _ => lim_range hl e i) (fun i => [.s .u64 (t i : Nat)]) (fun i _ => by rw [ht])
  obtain ⟨x, hx⟩ : ∃ x : Nat → Cv.Jac α, x = Cv.tm K.O p e 256 := ⟨_, rfl⟩
  have hx0 : x 0 = Cv.inf K.O := by rw [hx]; rfl
  have hxs : ∀ i, i < 256 → x (i + 1) = if t i = 1 then Cv.plus K.O (Cv.dbl K.O (x i)) p else Cv.dbl K.O (x i) := by
    intro i hi
    rw [hx, ht, hl, bitAt_eq e 4 i hi]
    rfl
  rw [← hx]
  have z := hK.zero
  clear hx
  refine mk Tryz.func91 rfl rfl LN R1 (by decide +kernel) fun A S hA hS => ?_
  unfold bodyOf Tryz.f91
  cbv
  refine ACall.mk _ (cf hS hb) ?_
  cbv
  refine .mk _ _ (cs hS hd) (fun i _ => rfl) (fun i => timesHb6 K r b p lim e (x i)) ?_ ?_ ?_
  · rw [hx0]
    cbv
    repeat' (first | exact (z _ (by decide)).symm | (have h := hK.sim 8; unfold simL at h; exact h) | exact trivial | constructor)
  · intro i hi
    have hst := hxs i hi
    have hb := bit_eq hA (t i)
    generalize x (i + 1) = y at hst ⊢
    generalize x i = xi at hst ⊢
    generalize t i = ti at hst hb ⊢
    have tw := tw xi
    generalize Cv.dbl K.O xi = di at *
    have pl := pl di p
    generalize Cv.plus K.O di p = pi at *
    cbv
    refine ACall.mk _ (cf hS tw) ?_
    cbv
    by_cases h1 : ti = 1
    · rw [if_pos h1] at hst
      rw [decide_eq_true h1] at hb
      subst hst
      refine ABr.t hb ?_
      cbv
      refine ACall.mk _ (cf hS pl) ?_
      cbv
      repeat' (first | (have h := hK.sim 8; unfold simL at h; exact h) | exact trivial | constructor)
    · rw [if_neg h1] at hst
      rw [decide_eq_false h1] at hb
      subst hst
      refine ABr.f hb ?_
      cbv
      repeat' (first | (have h := hK.sim 8; unfold simL at h; exact h) | exact trivial | constructor)
  · generalize x 256 = y
    cbv
theorem onb6 {α : Type} [DecidableEq α] {K : Kd α} {r : List AVal} (hK : Okb6 K r) (b x y : α) :
    Sp 85 [Grb6 K r b, Eb6 K x, Eb6 K y] (.sb (decide (K.O.mul y y = K.O.add (K.O.mul (K.O.mul x x) x) b))) := by
  obtain ⟨yy, hyy⟩ : ∃ q_, q_ = K.O.mul y y := ⟨_, rfl⟩
  have cyy := hK.mul y y
  rw [← hyy] at cyy ⊢
  obtain ⟨xx, hxx⟩ : ∃ q_, q_ = K.O.mul x x := ⟨_, rfl⟩
  have cxx := hK.mul x x
  rw [← hxx] at cxx ⊢
  obtain ⟨x3, hx3⟩ : ∃ q_, q_ = K.O.mul xx x := ⟨_, rfl⟩
  have cx3 := hK.mul xx x
  rw [← hx3] at cx3 ⊢
  obtain ⟨s, hs⟩ : ∃ q_, q_ = K.O.add x3 b := ⟨_, rfl⟩
  have cs := hK.add x3 b
  rw [← hs] at cs ⊢
  have he := fun A hA => hK.eq (A := A) hA yy s
  generalize decide (yy = s) = t at *
  refine mk Tryz.func85 rfl rfl L0 R1 (by decide +kernel) fun A S hA hS => ?_
  have he := he A hA
  unfold bodyOf Tryz.f85
  cbv
  refine ACall.mk _ (cf hS cyy) ?_
  cbv
  refine ACall.mk _ (cf hS cxx) ?_
  cbv
  refine ACall.mk _ (cf hS cx3) ?_
  cbv
  refine ACall.mk _ (cf hS cs) ?_
  cbv
  exact he
def timesHt6 {α : Type} (K : Kd α) (r : List AVal) (b : α) (p : Cv.Jac α) (lim : Lim) (e : Nat) (o : Cv.Jac α) : List Blk :=
  [⟨true, true, [.ifc 139 (.agg [.ref r 0]), .s .u64 (K.w b 0), .s .u64 (K.w b 1), .s .u64 (K.w b 2), .s .u64 (K.w b 3), .s .u64 (K.w b 4), .s .u64 (K.w b 5), .s .u64 (K.w b 6), .s .u64 (K.w b 7), .s .u64 (K.w b 8), .s .u64 (K.w b 9), .s .u64 (K.w b 10), .s .u64 (K.w b 11)]⟩, ⟨true, true, [.s .u64 (K.w p.x 0), .s .u64 (K.w p.x 1), .s .u64 (K.w p.x 2), .s .u64 (K.w p.x 3), .s .u64 (K.w p.x 4), .s .u64 (K.w p.x 5), .s .u64 (K.w p.x 6), .s .u64 (K.w p.x 7), .s .u64 (K.w p.x 8), .s .u64 (K.w p.x 9), .s .u64 (K.w p.x 10), .s .u64 (K.w p.x 11), .s .u64 (K.w p.y 0), .s .u64 (K.w p.y 1), .s .u64 (K.w p.y 2), .s .u64 (K.w p.y 3), .s .u64 (K.w p.y 4), .s .u64 (K.w p.y 5), .s .u64 (K.w p.y 6), .s .u64 (K.w p.y 7), .s .u64 (K.w p.y 8), .s .u64 (K.w p.y 9), .s .u64 (K.w p.y 10), .s .u64 (K.w p.y 11), .s .u64 (K.w p.z 0), .s .u64 (K.w p.z 1), .s .u64 (K.w p.z 2), .s .u64 (K.w p.z 3), .s .u64 (K.w p.z 4), .s .u64 (K.w p.z 5), .s .u64 (K.w p.z 6), .s .u64 (K.w p.z 7), .s .u64 (K.w p.z 8), .s .u64 (K.w p.z 9), .s .u64 (K.w p.z 10), .s .u64 (K.w p.z 11)]⟩,
    ⟨true, true, [.s .u64 (lim e 0), .s .u64 (lim e 1), .s .u64 (lim e 2), .s .u64 (lim e 3)]⟩, ⟨true, true, [.i .u64 0, .i .u64 0, .i .u64 0, .i .u64 0, .i .u64 0, .i .u64 0, .i .u64 0, .i .u64 0, .i .u64 0, .i .u64 0, .i .u64 0, .i .u64 0, .i .u64 0, .i .u64 0, .i .u64 0, .i .u64 0, .i .u64 0, .i .u64 0, .i .u64 0, .i .u64 0, .i .u64 0, .i .u64 0, .i .u64 0, .i .u64 0, .i .u64 0, .i .u64 0, .i .u64 0, .i .u64 0, .i .u64 0, .i .u64 0, .i .u64 0, .i .u64 0, .i .u64 0, .i .u64 0, .i .u64 0, .i .u64 0]⟩,
    ⟨true, true, [.s .u64 (K.w o.x 0), .s .u64 (K.w o.x 1), .s .u64 (K.w o.x 2), .s .u64 (K.w o.x 3), .s .u64 (K.w o.x 4), .s .u64 (K.w o.x 5), .s .u64 (K.w o.x 6), .s .u64 (K.w o.x 7), .s .u64 (K.w o.x 8), .s .u64 (K.w o.x 9), .s .u64 (K.w o.x 10), .s .u64 (K.w o.x 11), .s .u64 (K.w o.y 0), .s .u64 (K.w o.y 1), .s .u64 (K.w o.y 2), .s .u64 (K.w o.y 3), .s .u64 (K.w o.y 4), .s .u64 (K.w o.y 5), .s .u64 (K.w o.y 6), .s .u64 (K.w o.y 7), .s .u64 (K.w o.y 8), .s .u64 (K.w o.y 9), .s .u64 (K.w o.y 10), .s .u64 (K.w o.y 11), .s .u64 (K.w o.z 0), .s .u64 (K.w o.z 1), .s .u64 (K.w o.z 2), .s .u64 (K.w o.z 3), .s .u64 (K.w o.z 4), .s .u64 (K.w o.z 5), .s .u64 (K.w o.z 6), .s .u64 (K.w o.z 7), .s .u64 (K.w o.z 8), .s .u64 (K.w o.z 9), .s .u64 (K.w o.z 10), .s .u64 (K.w o.z 11)]⟩]
theorem timest6 {α : Type} [DecidableEq α] {K : Kd α} {r : List AVal} (hK : Okt6 K r) (b : α) (p : Cv.Jac α) {lim : Lim} (hl : lim = limR) (e : Nat) (he : e < 2 ^ 256) :
    Sp 126 [Grt6 K r b, Jt6 K p, u4 lim e] (Jt6 K (Cv.tm K.O p e 256 256)) := by
  have tw := twicet6 hK b
  have pl := plust6 hK b
  have hb := bitsS (lim := lim) e
  obtain ⟨t, ht⟩ : ∃ t : Nat → Nat, t = bitAt (lim e) 4 := ⟨_, rfl⟩
  have hd := bitsI (row4u lim e) (fun i _ => lim_range hl e i) (fun i => [.s .u64 (t i : Nat)]) (fun i _ => by rw [ht])
  obtain ⟨x, hx⟩ : ∃ x : Nat → Cv.Jac α, x = Cv.tm K.O p e 256 := ⟨_, rfl⟩
  have hx0 : x 0 = Cv.inf K.O := by rw [hx]; rfl
  have hxs : ∀ i, i < 256 → x (i + 1) = if t i = 1 then Cv.plus K.O (Cv.dbl K.O (x i)) p else Cv.dbl K.O (x i) := by
    intro i hi
    rw [hx, ht, hl, bitAt_eq e 4 i hi]
    rfl
  rw [← hx]
  have z := hK.zero
  clear hx
  refine mk Tryz.func126 rfl rfl LN R1 (by decide +kernel) fun A S hA hS => ?_
  unfold bodyOf Tryz.f126
  cbv
  refine ACall.mk _ (cf hS hb) ?_
  cbv
  refine .mk _ _ (cs hS hd) (fun i _ => rfl) (fun i => timesHt6 K r b p lim e (x i)) ?_ ?_ ?_
  · rw [hx0]
    cbv
    repeat' (first | exact (z _ (by decide)).symm | (have h := hK.sim 8; unfold simL at h; exact h) | exact trivial | constructor)
  · intro i hi
    have hst := hxs i hi
    have hb := bit_eq hA (t i)
    generalize x (i + 1) = y at hst ⊢
    generalize x i = xi at hst ⊢
    generalize t i = ti at hst hb ⊢
    have tw := tw xi
    generalize Cv.dbl K.O xi = di at *
    have pl := pl di p
    generalize Cv.plus K.O di p = pi at *
    cbv
    refine ACall.mk _ (cf hS tw) ?_
    cbv
    by_cases h1 : ti = 1
    · rw [if_pos h1] at hst
      rw [decide_eq_true h1] at hb
      subst hst
      refine ABr.t hb ?_
      cbv
      refine ACall.mk _ (cf hS pl) ?_
      cbv
      repeat' (first | (have h := hK.sim 8; unfold simL at h; exact h) | exact trivial | constructor)
    · rw [if_neg h1] at hst
      rw [decide_eq_false h1] at hb
      subst hst
      refine ABr.f hb ?_
      cbv
      repeat' (first | (have h := hK.sim 8; unfold simL at h; exact h) | exact trivial | constructor)
  · generalize x 256 = y
    cbv
theorem ont6 {α : Type} [DecidableEq α] {K : Kd α} {r : List AVal} (hK : Okt6 K r) (b x y : α) :
    Sp 120 [Grt6 K r b, Et6 K x, Et6 K y] (.sb (decide (K.O.mul y y = K.O.add (K.O.mul (K.O.mul x x) x) b))) := by
  obtain ⟨yy, hyy⟩ : ∃ q_, q_ = K.O.mul y y := ⟨_, rfl⟩
  have cyy := hK.mul y y
  rw [← hyy] at cyy ⊢
  obtain ⟨xx, hxx⟩ : ∃ q_, q_ = K.O.mul x x := ⟨_, rfl⟩
  have cxx := hK.mul x x
  rw [← hxx] at cxx ⊢
  obtain ⟨x3, hx3⟩ : ∃ q_, q_ = K.O.mul xx x := ⟨_, rfl⟩
  have cx3 := hK.mul xx x
  rw [← hx3] at cx3 ⊢
  obtain ⟨s, hs⟩ : ∃ q_, q_ = K.O.add x3 b := ⟨_, rfl⟩
  have cs := hK.add x3 b
  rw [← hs] at cs ⊢
  have he := fun A hA => hK.eq (A := A) hA yy s
  generalize decide (yy = s) = t at *
  refine mk Tryz.func120 rfl rfl L0 R1 (by decide +kernel) fun A S hA hS => ?_
  have he := he A hA
  unfold bodyOf Tryz.f120
  cbv
  refine ACall.mk _ (cf hS cyy) ?_
  cbv
  refine ACall.mk _ (cf hS cxx) ?_
  cbv
  refine ACall.mk _ (cf hS cx3) ?_
  cbv
  refine ACall.mk _ (cf hS cs) ?_
  cbv
  exact he
end Go.Proofs.YtmholgclgamnnaaGreat
