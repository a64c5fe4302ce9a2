import Derived.Test.YtmholgclgamnnaaGreatQYCC
set_option linter.unusedVariables false
set_option linter.unusedSimpArgs false
namespace Go.Proofs.YtmholgclgamnnaaGreat
open Go Eng
set_option maxRecDepth 100000
set_option exponentiation.threshold 2000
set_option maxHeartbeats 4000000
def RTw : Nat → Md := fun r => match r with | 2 => .res [] | _ => .mid
def RPl : Nat → Md := fun r => match r with | 7 => .res [] | 8 => .res [] | 9 => .res [] | 14 => .res [] | 16 => .res [] | _ => .mid
/-- A curve's group: the field, the number b. -/
def Grb4 {α : Type} (K : Kd α) (r : List AVal) (b : α) : AVal := .agg [.ifc 174 (.agg [.ref r 0]), .s .u64 (K.w b 0), .s .u64 (K.w b 1), .s .u64 (K.w b 2), .s .u64 (K.w b 3)]
theorem twiceb4 {α : Type} {K : Kd α} {r : List AVal} (hK : Okb4 K r) (b : α) (p : Cv.Jac α) : Sp 181 [Grb4 K r b, Jb4 K p] (Jb4 K (Cv.dbl K.O p)) := by
  obtain ⟨px, py, pz⟩ := p
  unfold Cv.dbl
  dsimp only
  obtain ⟨a, ha⟩ : ∃ q_, q_ = K.O.mul px px := ⟨_, rfl⟩
  have ca := hK.mul px px
  rw [← ha] at ca ⊢
  obtain ⟨bb, hbb⟩ : ∃ q_, q_ = K.O.mul py py := ⟨_, rfl⟩
  have cbb := hK.mul py py
  rw [← hbb] at cbb ⊢
  obtain ⟨s0, hs0⟩ : ∃ q_, q_ = K.O.mul px bb := ⟨_, rfl⟩
  have cs0 := hK.mul px bb
  rw [← hs0] at cs0 ⊢
  obtain ⟨s1, hs1⟩ : ∃ q_, q_ = K.O.add s0 s0 := ⟨_, rfl⟩
  have cs1 := hK.add s0 s0
  rw [← hs1] at cs1 ⊢
  obtain ⟨s2, hs2⟩ : ∃ q_, q_ = K.O.add s1 s1 := ⟨_, rfl⟩
  have cs2 := hK.add s1 s1
  rw [← hs2] at cs2 ⊢
  obtain ⟨aa, haa⟩ : ∃ q_, q_ = K.O.add a a := ⟨_, rfl⟩
  have caa := hK.add a a
  rw [← haa] at caa ⊢
  obtain ⟨e, he⟩ : ∃ q_, q_ = K.O.add aa a := ⟨_, rfl⟩
  have ce := hK.add aa a
  rw [← he] at ce ⊢
  obtain ⟨c0, hc0⟩ : ∃ q_, q_ = K.O.mul bb bb := ⟨_, rfl⟩
  have cc0 := hK.mul bb bb
  rw [← hc0] at cc0 ⊢
  obtain ⟨d1, hd1⟩ : ∃ q_, q_ = K.O.add c0 c0 := ⟨_, rfl⟩
  have cd1 := hK.add c0 c0
  rw [← hd1] at cd1 ⊢
  obtain ⟨d2, hd2⟩ : ∃ q_, q_ = K.O.add d1 d1 := ⟨_, rfl⟩
  have cd2 := hK.add d1 d1
  rw [← hd2] at cd2 ⊢
  obtain ⟨d3, hd3⟩ : ∃ q_, q_ = K.O.add d2 d2 := ⟨_, rfl⟩
  have cd3 := hK.add d2 d2
  rw [← hd3] at cd3 ⊢
  obtain ⟨ee, hee⟩ : ∃ q_, q_ = K.O.mul e e := ⟨_, rfl⟩
  have cee := hK.mul e e
  rw [← hee] at cee ⊢
  obtain ⟨ss, hss⟩ : ∃ q_, q_ = K.O.add s2 s2 := ⟨_, rfl⟩
  have css := hK.add s2 s2
  rw [← hss] at css ⊢
  obtain ⟨x, hx⟩ : ∃ q_, q_ = K.O.sub ee ss := ⟨_, rfl⟩
  have cx := hK.sub ee ss
  rw [← hx] at cx ⊢
  obtain ⟨z0, hz0⟩ : ∃ q_, q_ = K.O.mul py pz := ⟨_, rfl⟩
  have cz0 := hK.mul py pz
  rw [← hz0] at cz0 ⊢
  obtain ⟨d, hd⟩ : ∃ q_, q_ = K.O.sub s2 x := ⟨_, rfl⟩
  have cd := hK.sub s2 x
  rw [← hd] at cd ⊢
  obtain ⟨ed, hed⟩ : ∃ q_, q_ = K.O.mul e d := ⟨_, rfl⟩
  have ced := hK.mul e d
  rw [← hed] at ced ⊢
  obtain ⟨y, hy⟩ : ∃ q_, q_ = K.O.sub ed d3 := ⟨_, rfl⟩
  have cy := hK.sub ed d3
  rw [← hy] at cy ⊢
  obtain ⟨z, hz⟩ : ∃ q_, q_ = K.O.add z0 z0 := ⟨_, rfl⟩
  have cz := hK.add z0 z0
  rw [← hz] at cz ⊢
  refine mk Tryz.func181 rfl rfl L0 RTw (by decide +kernel) ?_
  intro A S hA hS
  unfold bodyOf Tryz.f181
  cbv
  refine ACall.mk _ (cf hS ca) ?_
  cbv
  refine ACall.mk _ (cf hS cbb) ?_
  cbv
  refine ACall.mk _ (cf hS cs0) ?_
  cbv
  refine ACall.mk _ (cf hS cs1) ?_
  cbv
  refine ACall.mk _ (cf hS cs2) ?_
  cbv
  refine ACall.mk _ (cf hS caa) ?_
  cbv
  refine ACall.mk _ (cf hS ce) ?_
  cbv
  refine ACall.mk _ (cf hS cc0) ?_
  cbv
  refine ACall.mk _ (cf hS cd1) ?_
  cbv
  refine ACall.mk _ (cf hS cd2) ?_
  cbv
  refine ACall.mk _ (cf hS cd3) ?_
  cbv
  refine ACall.mk _ (cf hS cee) ?_
  cbv
  refine ACall.mk _ (cf hS css) ?_
  cbv
  refine ACall.mk _ (cf hS cx) ?_
  cbv
  refine ACall.mk _ (cf hS cz0) ?_
  cbv
  refine ACall.mk _ (cf hS cd) ?_
  cbv
  refine ACall.mk _ (cf hS ced) ?_
  cbv
  refine ACall.mk _ (cf hS cy) ?_
  cbv
  refine ACall.mk _ (cf hS cz) ?_
  cbv
theorem plusb4 {α : Type} [DecidableEq α] {K : Kd α} {r : List AVal} (hK : Okb4 K r) (b : α) (p q : Cv.Jac α) : Sp 116 [Grb4 K r b, Jb4 K p, Jb4 K q] (Jb4 K (Cv.plus K.O p q)) := by
  have tw := twiceb4 hK b p
  obtain ⟨px, py, pz⟩ := p
  obtain ⟨qx, qy, qz⟩ := q
  unfold Cv.plus
  dsimp only
  by_cases h1 : pz = K.O.zero
  · rw [if_pos h1]
    refine mk Tryz.func116 rfl rfl L0 RPl (by decide +kernel) ?_
    intro A S hA hS
    have e1 := (hK.eqz hA pz).trans (decide_eq_true h1)
    unfold bodyOf Tryz.f116
    cbv
    refine ABr.t e1 ?_
    cbv
  rw [if_neg h1]
  by_cases h2 : qz = K.O.zero
  · rw [if_pos h2]
    refine mk Tryz.func116 rfl rfl L0 RPl (by decide +kernel) ?_
    intro A S hA hS
    have e1 := (hK.eqz hA pz).trans (decide_eq_false h1)
    have e2 := (hK.eqz hA qz).trans (decide_eq_true h2)
    unfold bodyOf Tryz.f116
    cbv
    refine ABr.f e1 ?_
    cbv
    refine ABr.t e2 ?_
    cbv
  rw [if_neg h2]
  obtain ⟨pp, hpp⟩ : ∃ q_, q_ = K.O.mul pz pz := ⟨_, rfl⟩
  have cpp := hK.mul pz pz
  rw [← hpp] at cpp ⊢
  obtain ⟨qq, hqq⟩ : ∃ q_, q_ = K.O.mul qz qz := ⟨_, rfl⟩
  have cqq := hK.mul qz qz
  rw [← hqq] at cqq ⊢
  obtain ⟨u, hu⟩ : ∃ q_, q_ = K.O.mul px qq := ⟨_, rfl⟩
  have cu := hK.mul px qq
  rw [← hu] at cu ⊢
  obtain ⟨v, hv⟩ : ∃ q_, q_ = K.O.mul qx pp := ⟨_, rfl⟩
  have cv := hK.mul qx pp
  rw [← hv] at cv ⊢
  obtain ⟨s0, hs0⟩ : ∃ q_, q_ = K.O.mul py qq := ⟨_, rfl⟩
  have cs0 := hK.mul py qq
  rw [← hs0] at cs0 ⊢
  obtain ⟨s, hs⟩ : ∃ q_, q_ = K.O.mul s0 qz := ⟨_, rfl⟩
  have cs := hK.mul s0 qz
  rw [← hs] at cs ⊢
  obtain ⟨t0, ht0⟩ : ∃ q_, q_ = K.O.mul qy pp := ⟨_, rfl⟩
  have ct0 := hK.mul qy pp
  rw [← ht0] at ct0 ⊢
  obtain ⟨t, ht⟩ : ∃ q_, q_ = K.O.mul t0 pz := ⟨_, rfl⟩
  have ct := hK.mul t0 pz
  rw [← ht] at ct ⊢
  by_cases h3 : u = v
  · rw [if_pos h3]
    by_cases h4 : s = t
    · rw [if_pos h4]
      refine mk Tryz.func116 rfl rfl L0 RPl (by decide +kernel) ?_
      intro A S hA hS
      have e1 := (hK.eqz hA pz).trans (decide_eq_false h1)
      have e2 := (hK.eqz hA qz).trans (decide_eq_false h2)
      have e3 := (hK.eq hA u v).trans (decide_eq_true h3)
      have e4 := (hK.eq hA s t).trans (decide_eq_true h4)
      generalize Cv.dbl K.O ⟨px, py, pz⟩ = d at *
      unfold bodyOf Tryz.f116
      cbv
      refine ABr.f e1 ?_
      cbv
      refine ABr.f e2 ?_
      cbv
      refine ACall.mk _ (cf hS cpp) ?_
      cbv
      refine ACall.mk _ (cf hS cqq) ?_
      cbv
      refine ACall.mk _ (cf hS cu) ?_
      cbv
      refine ACall.mk _ (cf hS cv) ?_
      cbv
      refine ACall.mk _ (cf hS cs0) ?_
      cbv
      refine ACall.mk _ (cf hS cs) ?_
      cbv
      refine ACall.mk _ (cf hS ct0) ?_
      cbv
      refine ACall.mk _ (cf hS ct) ?_
      cbv
      refine ABr.t e3 ?_
      cbv
      refine ABr.t e4 ?_
      cbv
      refine ACall.mk _ (cf hS tw) ?_
      cbv
    · rw [if_neg h4]
      refine mk Tryz.func116 rfl rfl L0 RPl (by decide +kernel) ?_
      intro A S hA hS
      have e1 := (hK.eqz hA pz).trans (decide_eq_false h1)
      have e2 := (hK.eqz hA qz).trans (decide_eq_false h2)
      have e3 := (hK.eq hA u v).trans (decide_eq_true h3)
      have e4 := (hK.eq hA s t).trans (decide_eq_false h4)
      have z := hK.zero
      unfold bodyOf Tryz.f116
      cbv
      refine ABr.f e1 ?_
      cbv
      refine ABr.f e2 ?_
      cbv
      refine ACall.mk _ (cf hS cpp) ?_
      cbv
      refine ACall.mk _ (cf hS cqq) ?_
      cbv
      refine ACall.mk _ (cf hS cu) ?_
      cbv
      refine ACall.mk _ (cf hS cv) ?_
      cbv
      refine ACall.mk _ (cf hS cs0) ?_
      cbv
      refine ACall.mk _ (cf hS cs) ?_
      cbv
      refine ACall.mk _ (cf hS ct0) ?_
      cbv
      refine ACall.mk _ (cf hS ct) ?_
      cbv
      refine ABr.t e3 ?_
      cbv
      refine ABr.f e4 ?_
      cbv
      repeat' (first | exact (z _ (by decide)).symm | constructor)
  rw [if_neg h3]
  obtain ⟨h, hh⟩ : ∃ q_, q_ = K.O.sub v u := ⟨_, rfl⟩
  have ch := hK.sub v u
  rw [← hh] at ch ⊢
  obtain ⟨rr, hrr⟩ : ∃ q_, q_ = K.O.sub t s := ⟨_, rfl⟩
  have crr := hK.sub t s
  rw [← hrr] at crr ⊢
  obtain ⟨hh, hhh⟩ : ∃ q_, q_ = K.O.mul h h := ⟨_, rfl⟩
  have chh := hK.mul h h
  rw [← hhh] at chh ⊢
  obtain ⟨hhh, hhhh⟩ : ∃ q_, q_ = K.O.mul hh h := ⟨_, rfl⟩
  have chhh := hK.mul hh h
  rw [← hhhh] at chhh ⊢
  obtain ⟨w, hw⟩ : ∃ q_, q_ = K.O.mul u hh := ⟨_, rfl⟩
  have cw := hK.mul u hh
  rw [← hw] at cw ⊢
  obtain ⟨r2, hr2⟩ : ∃ q_, q_ = K.O.mul rr rr := ⟨_, rfl⟩
  have cr2 := hK.mul rr rr
  rw [← hr2] at cr2 ⊢
  obtain ⟨x0, hx0⟩ : ∃ q_, q_ = K.O.sub r2 hhh := ⟨_, rfl⟩
  have cx0 := hK.sub r2 hhh
  rw [← hx0] at cx0 ⊢
  obtain ⟨ww, hww⟩ : ∃ q_, q_ = K.O.add w w := ⟨_, rfl⟩
  have cww := hK.add w w
  rw [← hww] at cww ⊢
  obtain ⟨x, hx⟩ : ∃ q_, q_ = K.O.sub x0 ww := ⟨_, rfl⟩
  have cx := hK.sub x0 ww
  rw [← hx] at cx ⊢
  obtain ⟨wx, hwx⟩ : ∃ q_, q_ = K.O.sub w x := ⟨_, rfl⟩
  have cwx := hK.sub w x
  rw [← hwx] at cwx ⊢
  obtain ⟨rx, hrx⟩ : ∃ q_, q_ = K.O.mul rr wx := ⟨_, rfl⟩
  have crx := hK.mul rr wx
  rw [← hrx] at crx ⊢
  obtain ⟨sh, hsh⟩ : ∃ q_, q_ = K.O.mul s hhh := ⟨_, rfl⟩
  have csh := hK.mul s hhh
  rw [← hsh] at csh ⊢
  obtain ⟨y, hy⟩ : ∃ q_, q_ = K.O.sub rx sh := ⟨_, rfl⟩
  have cy := hK.sub rx sh
  rw [← hy] at cy ⊢
  obtain ⟨pq, hpq⟩ : ∃ q_, q_ = K.O.mul pz qz := ⟨_, rfl⟩
  have cpq := hK.mul pz qz
  rw [← hpq] at cpq ⊢
  obtain ⟨z, hz⟩ : ∃ q_, q_ = K.O.mul pq h := ⟨_, rfl⟩
  have cz := hK.mul pq h
  rw [← hz] at cz ⊢
  refine mk Tryz.func116 rfl rfl L0 RPl (by decide +kernel) ?_
  intro A S hA hS
  have e1 := (hK.eqz hA pz).trans (decide_eq_false h1)
  have e2 := (hK.eqz hA qz).trans (decide_eq_false h2)
  have e3 := (hK.eq hA u v).trans (decide_eq_false h3)
  unfold bodyOf Tryz.f116
  cbv
  refine ABr.f e1 ?_
  cbv
  refine ABr.f e2 ?_
  cbv
  refine ACall.mk _ (cf hS cpp) ?_
  cbv
  refine ACall.mk _ (cf hS cqq) ?_
  cbv
  refine ACall.mk _ (cf hS cu) ?_
  cbv
  refine ACall.mk _ (cf hS cv) ?_
  cbv
  refine ACall.mk _ (cf hS cs0) ?_
  cbv
  refine ACall.mk _ (cf hS cs) ?_
  cbv
  refine ACall.mk _ (cf hS ct0) ?_
  cbv
  refine ACall.mk _ (cf hS ct) ?_
  cbv
  refine ABr.f e3 ?_
  cbv
  refine ACall.mk _ (cf hS ch) ?_
  cbv
  refine ACall.mk _ (cf hS crr) ?_
  cbv
  refine ACall.mk _ (cf hS chh) ?_
  cbv
  refine ACall.mk _ (cf hS chhh) ?_
  cbv
  refine ACall.mk _ (cf hS cw) ?_
  cbv
  refine ACall.mk _ (cf hS cr2) ?_
  cbv
  refine ACall.mk _ (cf hS cx0) ?_
  cbv
  refine ACall.mk _ (cf hS cww) ?_
  cbv
  refine ACall.mk _ (cf hS cx) ?_
  cbv
  refine ACall.mk _ (cf hS cwx) ?_
  cbv
  refine ACall.mk _ (cf hS crx) ?_
  cbv
  refine ACall.mk _ (cf hS csh) ?_
  cbv
  refine ACall.mk _ (cf hS cy) ?_
  cbv
  refine ACall.mk _ (cf hS cpq) ?_
  cbv
  refine ACall.mk _ (cf hS cz) ?_
  cbv
/-- A curve's group: the field, the number b. -/
def Grb6 {α : Type} (K : Kd α) (r : List AVal) (b : α) : AVal := .agg [.ifc 134 (.agg [.ref r 0]), .s .u64 (K.w b 0), .s .u64 (K.w b 1), .s .u64 (K.w b 2), .s .u64 (K.w b 3), .s .u64 (K.w b 4), .s .u64 (K.w b 5)]
theorem twiceb6 {α : Type} {K : Kd α} {r : List AVal} (hK : Okb6 K r) (b : α) (p : Cv.Jac α) : Sp 164 [Grb6 K r b, Jb6 K p] (Jb6 K (Cv.dbl K.O p)) := by
  obtain ⟨px, py, pz⟩ := p
  unfold Cv.dbl
  dsimp only
  obtain ⟨a, ha⟩ : ∃ q_, q_ = K.O.mul px px := ⟨_, rfl⟩
  have ca := hK.mul px px
  rw [← ha] at ca ⊢
  obtain ⟨bb, hbb⟩ : ∃ q_, q_ = K.O.mul py py := ⟨_, rfl⟩
  have cbb := hK.mul py py
  rw [← hbb] at cbb ⊢
  obtain ⟨s0, hs0⟩ : ∃ q_, q_ = K.O.mul px bb := ⟨_, rfl⟩
  have cs0 := hK.mul px bb
  rw [← hs0] at cs0 ⊢
  obtain ⟨s1, hs1⟩ : ∃ q_, q_ = K.O.add s0 s0 := ⟨_, rfl⟩
  have cs1 := hK.add s0 s0
  rw [← hs1] at cs1 ⊢
  obtain ⟨s2, hs2⟩ : ∃ q_, q_ = K.O.add s1 s1 := ⟨_, rfl⟩
  have cs2 := hK.add s1 s1
  rw [← hs2] at cs2 ⊢
  obtain ⟨aa, haa⟩ : ∃ q_, q_ = K.O.add a a := ⟨_, rfl⟩
  have caa := hK.add a a
  rw [← haa] at caa ⊢
  obtain ⟨e, he⟩ : ∃ q_, q_ = K.O.add aa a := ⟨_, rfl⟩
  have ce := hK.add aa a
  rw [← he] at ce ⊢
  obtain ⟨c0, hc0⟩ : ∃ q_, q_ = K.O.mul bb bb := ⟨_, rfl⟩
  have cc0 := hK.mul bb bb
  rw [← hc0] at cc0 ⊢
  obtain ⟨d1, hd1⟩ : ∃ q_, q_ = K.O.add c0 c0 := ⟨_, rfl⟩
  have cd1 := hK.add c0 c0
  rw [← hd1] at cd1 ⊢
  obtain ⟨d2, hd2⟩ : ∃ q_, q_ = K.O.add d1 d1 := ⟨_, rfl⟩
  have cd2 := hK.add d1 d1
  rw [← hd2] at cd2 ⊢
  obtain ⟨d3, hd3⟩ : ∃ q_, q_ = K.O.add d2 d2 := ⟨_, rfl⟩
  have cd3 := hK.add d2 d2
  rw [← hd3] at cd3 ⊢
  obtain ⟨ee, hee⟩ : ∃ q_, q_ = K.O.mul e e := ⟨_, rfl⟩
  have cee := hK.mul e e
  rw [← hee] at cee ⊢
  obtain ⟨ss, hss⟩ : ∃ q_, q_ = K.O.add s2 s2 := ⟨_, rfl⟩
  have css := hK.add s2 s2
  rw [← hss] at css ⊢
  obtain ⟨x, hx⟩ : ∃ q_, q_ = K.O.sub ee ss := ⟨_, rfl⟩
  have cx := hK.sub ee ss
  rw [← hx] at cx ⊢
  obtain ⟨z0, hz0⟩ : ∃ q_, q_ = K.O.mul py pz := ⟨_, rfl⟩
  have cz0 := hK.mul py pz
  rw [← hz0] at cz0 ⊢
  obtain ⟨d, hd⟩ : ∃ q_, q_ = K.O.sub s2 x := ⟨_, rfl⟩
  have cd := hK.sub s2 x
  rw [← hd] at cd ⊢
  obtain ⟨ed, hed⟩ : ∃ q_, q_ = K.O.mul e d := ⟨_, rfl⟩
  have ced := hK.mul e d
  rw [← hed] at ced ⊢
  obtain ⟨y, hy⟩ : ∃ q_, q_ = K.O.sub ed d3 := ⟨_, rfl⟩
  have cy := hK.sub ed d3
  rw [← hy] at cy ⊢
  obtain ⟨z, hz⟩ : ∃ q_, q_ = K.O.add z0 z0 := ⟨_, rfl⟩
  have cz := hK.add z0 z0
  rw [← hz] at cz ⊢
  refine mk Tryz.func164 rfl rfl L0 RTw (by decide +kernel) ?_
  intro A S hA hS
  unfold bodyOf Tryz.f164
  cbv
  refine ACall.mk _ (cf hS ca) ?_
  cbv
  refine ACall.mk _ (cf hS cbb) ?_
  cbv
  refine ACall.mk _ (cf hS cs0) ?_
  cbv
  refine ACall.mk _ (cf hS cs1) ?_
  cbv
  refine ACall.mk _ (cf hS cs2) ?_
  cbv
  refine ACall.mk _ (cf hS caa) ?_
  cbv
  refine ACall.mk _ (cf hS ce) ?_
  cbv
  refine ACall.mk _ (cf hS cc0) ?_
  cbv
  refine ACall.mk _ (cf hS cd1) ?_
  cbv
  refine ACall.mk _ (cf hS cd2) ?_
  cbv
  refine ACall.mk _ (cf hS cd3) ?_
  cbv
  refine ACall.mk _ (cf hS cee) ?_
  cbv
  refine ACall.mk _ (cf hS css) ?_
  cbv
  refine ACall.mk _ (cf hS cx) ?_
  cbv
  refine ACall.mk _ (cf hS cz0) ?_
  cbv
  refine ACall.mk _ (cf hS cd) ?_
  cbv
  refine ACall.mk _ (cf hS ced) ?_
  cbv
  refine ACall.mk _ (cf hS cy) ?_
  cbv
  refine ACall.mk _ (cf hS cz) ?_
  cbv
theorem plusb6 {α : Type} [DecidableEq α] {K : Kd α} {r : List AVal} (hK : Okb6 K r) (b : α) (p q : Cv.Jac α) : Sp 96 [Grb6 K r b, Jb6 K p, Jb6 K q] (Jb6 K (Cv.plus K.O p q)) := by
  have tw := twiceb6 hK b p
  obtain ⟨px, py, pz⟩ := p
  obtain ⟨qx, qy, qz⟩ := q
  unfold Cv.plus
  dsimp only
  by_cases h1 : pz = K.O.zero
  · rw [if_pos h1]
    refine mk Tryz.func96 rfl rfl L0 RPl (by decide +kernel) ?_
    intro A S hA hS
    have e1 := (hK.eqz hA pz).trans (decide_eq_true h1)
    unfold bodyOf Tryz.f96
    cbv
    refine ABr.t e1 ?_
    cbv
  rw [if_neg h1]
  by_cases h2 : qz = K.O.zero
  · rw [if_pos h2]
    refine mk Tryz.func96 rfl rfl L0 RPl (by decide +kernel) ?_
    intro A S hA hS
    have e1 := (hK.eqz hA pz).trans (decide_eq_false h1)
    have e2 := (hK.eqz hA qz).trans (decide_eq_true h2)
    unfold bodyOf Tryz.f96
    cbv
    refine ABr.f e1 ?_
    cbv
    refine ABr.t e2 ?_
    cbv
  rw [if_neg h2]
  obtain ⟨pp, hpp⟩ : ∃ q_, q_ = K.O.mul pz pz := ⟨_, rfl⟩
  have cpp := hK.mul pz pz
  rw [← hpp] at cpp ⊢
  obtain ⟨qq, hqq⟩ : ∃ q_, q_ = K.O.mul qz qz := ⟨_, rfl⟩
  have cqq := hK.mul qz qz
  rw [← hqq] at cqq ⊢
  obtain ⟨u, hu⟩ : ∃ q_, q_ = K.O.mul px qq := ⟨_, rfl⟩
  have cu := hK.mul px qq
  rw [← hu] at cu ⊢
  obtain ⟨v, hv⟩ : ∃ q_, q_ = K.O.mul qx pp := ⟨_, rfl⟩
  have cv := hK.mul qx pp
  rw [← hv] at cv ⊢
  obtain ⟨s0, hs0⟩ : ∃ q_, q_ = K.O.mul py qq := ⟨_, rfl⟩
  have cs0 := hK.mul py qq
  rw [← hs0] at cs0 ⊢
  obtain ⟨s, hs⟩ : ∃ q_, q_ = K.O.mul s0 qz := ⟨_, rfl⟩
  have cs := hK.mul s0 qz
  rw [← hs] at cs ⊢
  obtain ⟨t0, ht0⟩ : ∃ q_, q_ = K.O.mul qy pp := ⟨_, rfl⟩
  have ct0 := hK.mul qy pp
  rw [← ht0] at ct0 ⊢
  obtain ⟨t, ht⟩ : ∃ q_, q_ = K.O.mul t0 pz := ⟨_, rfl⟩
  have ct := hK.mul t0 pz
  rw [← ht] at ct ⊢
  by_cases h3 : u = v
  · rw [if_pos h3]
    by_cases h4 : s = t
    · rw [if_pos h4]
      refine mk Tryz.func96 rfl rfl L0 RPl (by decide +kernel) ?_
      intro A S hA hS
      have e1 := (hK.eqz hA pz).trans (decide_eq_false h1)
      have e2 := (hK.eqz hA qz).trans (decide_eq_false h2)
      have e3 := (hK.eq hA u v).trans (decide_eq_true h3)
      have e4 := (hK.eq hA s t).trans (decide_eq_true h4)
      generalize Cv.dbl K.O ⟨px, py, pz⟩ = d at *
      unfold bodyOf Tryz.f96
      cbv
      refine ABr.f e1 ?_
      cbv
      refine ABr.f e2 ?_
      cbv
      refine ACall.mk _ (cf hS cpp) ?_
      cbv
      refine ACall.mk _ (cf hS cqq) ?_
      cbv
      refine ACall.mk _ (cf hS cu) ?_
      cbv
      refine ACall.mk _ (cf hS cv) ?_
      cbv
      refine ACall.mk _ (cf hS cs0) ?_
      cbv
      refine ACall.mk _ (cf hS cs) ?_
      cbv
      refine ACall.mk _ (cf hS ct0) ?_
      cbv
      refine ACall.mk _ (cf hS ct) ?_
      cbv
      refine ABr.t e3 ?_
      cbv
      refine ABr.t e4 ?_
      cbv
      refine ACall.mk _ (cf hS tw) ?_
      cbv
    · rw [if_neg h4]
      refine mk Tryz.func96 rfl rfl L0 RPl (by decide +kernel) ?_
      intro A S hA hS
      have e1 := (hK.eqz hA pz).trans (decide_eq_false h1)
      have e2 := (hK.eqz hA qz).trans (decide_eq_false h2)
      have e3 := (hK.eq hA u v).trans (decide_eq_true h3)
      have e4 := (hK.eq hA s t).trans (decide_eq_false h4)
      have z := hK.zero
      unfold bodyOf Tryz.f96
      cbv
      refine ABr.f e1 ?_
      cbv
      refine ABr.f e2 ?_
      cbv
      refine ACall.mk _ (cf hS cpp) ?_
      cbv
      refine ACall.mk _ (cf hS cqq) ?_
      cbv
      refine ACall.mk _ (cf hS cu) ?_
      cbv
      refine ACall.mk _ (cf hS cv) ?_
      cbv
      refine ACall.mk _ (cf hS cs0) ?_
      cbv
      refine ACall.mk _ (cf hS cs) ?_
      cbv
      refine ACall.mk _ (cf hS ct0) ?_
      cbv
      refine ACall.mk _ (cf hS ct) ?_
      cbv
      refine ABr.t e3 ?_
      cbv
      refine ABr.f e4 ?_
      cbv
      repeat' (first | exact (z _ (by decide)).symm | constructor)
  rw [if_neg h3]
  obtain ⟨h, hh⟩ : ∃ q_, q_ = K.O.sub v u := ⟨_, rfl⟩
  have ch := hK.sub v u
  rw [← hh] at ch ⊢
  obtain ⟨rr, hrr⟩ : ∃ q_, q_ = K.O.sub t s := ⟨_, rfl⟩
  have crr := hK.sub t s
  rw [← hrr] at crr ⊢
  obtain ⟨hh, hhh⟩ : ∃ q_, q_ = K.O.mul h h := ⟨_, rfl⟩
  have chh := hK.mul h h
  rw [← hhh] at chh ⊢
  obtain ⟨hhh, hhhh⟩ : ∃ q_, q_ = K.O.mul hh h := ⟨_, rfl⟩
  have chhh := hK.mul hh h
  rw [← hhhh] at chhh ⊢
  obtain ⟨w, hw⟩ : ∃ q_, q_ = K.O.mul u hh := ⟨_, rfl⟩
  have cw := hK.mul u hh
  rw [← hw] at cw ⊢
  obtain ⟨r2, hr2⟩ : ∃ q_, q_ = K.O.mul rr rr := ⟨_, rfl⟩
  have cr2 := hK.mul rr rr
  rw [← hr2] at cr2 ⊢
  obtain ⟨x0, hx0⟩ : ∃ q_, q_ = K.O.sub r2 hhh := ⟨_, rfl⟩
  have cx0 := hK.sub r2 hhh
  rw [← hx0] at cx0 ⊢
  obtain ⟨ww, hww⟩ : ∃ q_, q_ = K.O.add w w := ⟨_, rfl⟩
  have cww := hK.add w w
  rw [← hww] at cww ⊢
  obtain ⟨x, hx⟩ : ∃ q_, q_ = K.O.sub x0 ww := ⟨_, rfl⟩
  have cx := hK.sub x0 ww
  rw [← hx] at cx ⊢
  obtain ⟨wx, hwx⟩ : ∃ q_, q_ = K.O.sub w x := ⟨_, rfl⟩
  have cwx := hK.sub w x
  rw [← hwx] at cwx ⊢
  obtain ⟨rx, hrx⟩ : ∃ q_, q_ = K.O.mul rr wx := ⟨_, rfl⟩
  have crx := hK.mul rr wx
  rw [← hrx] at crx ⊢
  obtain ⟨sh, hsh⟩ : ∃ q_, q_ = K.O.mul s hhh := ⟨_, rfl⟩
  have csh := hK.mul s hhh
  rw [← hsh] at csh ⊢
  obtain ⟨y, hy⟩ : ∃ q_, q_ = K.O.sub rx sh := ⟨_, rfl⟩
  have cy := hK.sub rx sh
  rw [← hy] at cy ⊢
  obtain ⟨pq, hpq⟩ : ∃ q_, q_ = K.O.mul pz qz := ⟨_, rfl⟩
  have cpq := hK.mul pz qz
  rw [← hpq] at cpq ⊢
  obtain ⟨z, hz⟩ : ∃ q_, q_ = K.O.mul pq h := ⟨_, rfl⟩
  have cz := hK.mul pq h
  rw [← hz] at cz ⊢
  refine mk Tryz.func96 rfl rfl L0 RPl (by decide +kernel) ?_
  intro A S hA hS
  have e1 := (hK.eqz hA pz).trans (decide_eq_false h1)
  have e2 := (hK.eqz hA qz).trans (decide_eq_false h2)
  have e3 := (hK.eq hA u v).trans (decide_eq_false h3)
  unfold bodyOf Tryz.f96
  cbv
  refine ABr.f e1 ?_
  cbv
  refine ABr.f e2 ?_
  cbv
  refine ACall.mk _ (cf hS cpp) ?_
  cbv
  refine ACall.mk _ (cf hS cqq) ?_
  cbv
  refine ACall.mk _ (cf hS cu) ?_
  cbv
  refine ACall.mk _ (cf hS cv) ?_
  cbv
  refine ACall.mk _ (cf hS cs0) ?_
  cbv
  refine ACall.mk _ (cf hS cs) ?_
  cbv
  refine ACall.mk _ (cf hS ct0) ?_
  cbv
  refine ACall.mk _ (cf hS ct) ?_
  cbv
  refine ABr.f e3 ?_
  cbv
  refine ACall.mk _ (cf hS ch) ?_
  cbv
  refine ACall.mk _ (cf hS crr) ?_
  cbv
  refine ACall.mk _ (cf hS chh) ?_
  cbv
  refine ACall.mk _ (cf hS chhh) ?_
  cbv
  refine ACall.mk _ (cf hS cw) ?_
  cbv
  refine ACall.mk _ (cf hS cr2) ?_
  cbv
  refine ACall.mk _ (cf hS cx0) ?_
  cbv
  refine ACall.mk _ (cf hS cww) ?_
  cbv
  refine ACall.mk _ (cf hS cx) ?_
  cbv
  refine ACall.mk _ (cf hS cwx) ?_
  cbv
  refine ACall.mk _ (cf hS crx) ?_
  cbv
  refine ACall.mk _ (cf hS csh) ?_
  cbv
  refine ACall.mk _ (cf hS cy) ?_
  cbv
  refine ACall.mk _ (cf hS cpq) ?_
  cbv
  refine ACall.mk _ (cf hS cz) ?_
  cbv
end Go.Proofs.YtmholgclgamnnaaGreat
