import Derived.Test.YtkhipnhdbaahcaaGreatQBWA
import Derived.Test.YtkhipnhdbaahcaaGreatQBTE
import Derived.Test.YtkhipnhdbaahcaaGreatQBTG
set_option linter.unusedVariables false
set_option linter.unusedSectionVars false
set_option linter.unusedSimpArgs false
namespace Go.Proofs.YtkhipnhdbaahcaaGreat
open Go Eng
set_option maxRecDepth 100000
set_option exponentiation.threshold 2000
set_option maxHeartbeats 8000000
/-- The reference's arithmetic modulo a prime: what a walk is not to open. -/
structure Rf {p : Nat} (k : Kf p) (lim : Lim) (m : Nat) : Prop where
  add : ∀ a b, Sp 91 [Uf k a, Uf k b, u4 lim m] (Uf k (k.O.add a b))
  sub : ∀ a b, Sp 58 [Uf k a, Uf k b, u4 lim m] (Uf k (k.O.sub a b))
  mul : ∀ a b, Sp 45 [Uf k a, Uf k b, u4 lim m] (Uf k (k.O.mul a b))
  inv : ∀ a, Sp 86 [Uf k a, u4 lim m] (Uf k (k.O.inv a))
  zerov : ∀ i, i < 4 → k.v k.O.zero i = 0
  one : k.v k.O.one 0 = 1 ∧ ∀ i, i < 3 → k.v k.O.one (i + 1) = 0
  injv : ∀ a b, k.v a 0 = k.v b 0 ∧ k.v a 1 = k.v b 1 ∧ k.v a 2 = k.v b 2 ∧ k.v a 3 = k.v b 3 → a = b
theorem Uf_eq {p : Nat} {k : Kf p} {lim : Lim} (uv : ∀ (a : Fin p) i, k.v a i = lim a.val i) (a : Fin p) : Uf k a = u4 lim a.val := by
  unfold Uf; rw [uv, uv, uv, uv]; rfl
theorem inv1_val {p : Nat} [NeZero p] (a : Fin p) : (Cv.inv1 a).val = a.val ^ (p - 2) % p := rfl
theorem mkRf {p : Nat} [NeZero p] {k : Kf p} {lim : Lim} (hl : lim = limR) (uv : ∀ (a : Fin p) i, k.v a i = lim a.val i) (hO : k.O = Cv.ops1 Cv.inv1) (hM : RedM lim p)
    (z : ∀ i, i < 4 → k.v k.O.zero i = 0) (o : k.v k.O.one 0 = 1 ∧ ∀ i, i < 3 → k.v k.O.one (i + 1) = 0) (inj : ∀ a b, k.v a 0 = k.v b 0 ∧ k.v a 1 = k.v b 1 ∧ k.v a 2 = k.v b 2 ∧ k.v a 3 = k.v b 3 → a = b) : Rf k lim p := by
  have h256 : ∀ a : Fin p, a.val < 2 ^ 256 := fun a => Nat.lt_trans a.isLt hM.lt
  refine ⟨fun a b => ?_, fun a b => ?_, fun a b => ?_, fun a => ?_, z, o, inj⟩
  · rw [Uf_eq uv, Uf_eq uv, Uf_eq uv]
    have c := r6add hl hM a.val b.val (h256 a) (h256 b)
    have e : (a.val + b.val) % p = (k.O.add a b).val := by rw [hO]; exact (Fin.val_add a b).symm
    rw [e] at c; exact c
  · rw [Uf_eq uv, Uf_eq uv, Uf_eq uv]
    have c := r6sub hl hM a.val b.val a.isLt b.isLt
    have e : (a.val + p - b.val) % p = (k.O.sub a b).val := by rw [hO]; exact fin_subF a b
    rw [e] at c; exact c
  · rw [Uf_eq uv, Uf_eq uv, Uf_eq uv]
    have c := r6mul hl hM a.val b.val (h256 a) (h256 b)
    have e : a.val * b.val % p = (k.O.mul a b).val := by rw [hO]; exact (Fin.val_mul a b).symm
    rw [e] at c; exact c
  · rw [Uf_eq uv, Uf_eq uv]
    exact r6inverse hl hM a.val (h256 a) _ (by rw [hO]; exact inv1_val a)
def JU {p : Nat} (k : Kf p) (j : Cv.Jac (Fin p)) : AVal := .agg [.s .u64 (k.v j.x 0), .s .u64 (k.v j.x 1), .s .u64 (k.v j.x 2), .s .u64 (k.v j.x 3), .s .u64 (k.v j.y 0), .s .u64 (k.v j.y 1), .s .u64 (k.v j.y 2), .s .u64 (k.v j.y 3), .s .u64 (k.v j.z 0), .s .u64 (k.v j.z 1), .s .u64 (k.v j.z 2), .s .u64 (k.v j.z 3)]
def upR {α : Type} (O : Cv.Ops α) : Cv.Pt α → Cv.Jac α
  | none => Gp.inf1 O
  | some (x, y) => ⟨x, y, O.one⟩
def RTw : Nat → Md := fun r => match r with | 4 => .res [] | _ => .mid
def RPl : Nat → Md := fun r => match r with | 6 => .res [] | 7 => .res [] | 8 => .res [] | 13 => .res [] | _ => .mid
def RBo : Nat → Md := fun r => match r with | 1 => .res [] | _ => .mid
section
variable {p : Nat} [NeZero p] {k : Kf p} {lim : Lim} {m : Nat} (hK : Rf k lim m) (hp : Sp 44 [] (u4 lim m))
include hK
theorem upS (P : Cv.Pt (Fin p)) : Sp 64 [Pf k P] (JU k (upR k.O P)) := by
  have e0 := hK.one.1
  have es := hK.one.2
  have z := hK.zerov
  have e1 := es 0 (by decide)
  have e2 := es 1 (by decide)
  have e3 := es 2 (by decide)
  have z0 := z 0 (by decide)
  have z1 := z 1 (by decide)
  have z2 := z 2 (by decide)
  have z3 := z 3 (by decide)
  clear es z hK
  rcases P with _ | ⟨x, y⟩
  · unfold upR Gp.inf1
    generalize k.O.one = o at *
    generalize k.O.zero = zz at *
    refine mk Tryz.func64 rfl rfl L0 R1 (by decide +kernel) fun A S hA hS => ?_
    unfold bodyOf Tryz.f64
    cbv
    repeat' (first | exact e0.symm | exact e1.symm | exact e2.symm | exact e3.symm | exact z0.symm | exact z1.symm | exact z2.symm | exact z3.symm | exact rfl | exact trivial | constructor)
  · unfold upR
    generalize k.O.one = o at *
    refine mk Tryz.func64 rfl rfl L0 R1 (by decide +kernel) fun A S hA hS => ?_
    unfold bodyOf Tryz.f64
    cbv
    repeat' (first | exact e0.symm | exact e1.symm | exact e2.symm | exact e3.symm | exact rfl | exact trivial | constructor)
include hp
theorem downS (j : Cv.Jac (Fin p)) : Sp 62 [JU k j] (Pf k (Cv.down k.O j)) := by
  obtain ⟨px, py, pz⟩ := j
  unfold Cv.down
  dsimp only
  by_cases h : pz = k.O.zero
  · rw [if_pos h]
    refine mk Tryz.func62 rfl rfl L0 R1 (by decide +kernel) fun A S hA hS => ?_
    have e1 := (words_eqz hK.injv hK.zerov hA pz).trans (decide_eq_true h)
    unfold bodyOf Tryz.f62
    cbv
    repeat (first
      | (refine ABr.t (by assumption) ?_; cbv)
      | (refine ABr.f (by assumption) ?_; cbv)
      | (refine ABr.t rfl ?_; cbv)
      | (refine ABr.f rfl ?_; cbv)
      | (refine ACall.mk _ (cf hS hp) ?_; cbv))
  · rw [if_neg h]
    obtain ⟨i_, hi_⟩ : ∃ q_, q_ = k.O.inv pz := ⟨_, rfl⟩
    have ci_ := hK.inv pz
    rw [← hi_] at ci_ ⊢
    obtain ⟨i2, hi2⟩ : ∃ q_, q_ = k.O.mul i_ i_ := ⟨_, rfl⟩
    have ci2 := hK.mul i_ i_
    rw [← hi2] at ci2 ⊢
    obtain ⟨x, hx⟩ : ∃ q_, q_ = k.O.mul px i2 := ⟨_, rfl⟩
    have cx := hK.mul px i2
    rw [← hx] at cx ⊢
    obtain ⟨y2, hy2⟩ : ∃ q_, q_ = k.O.mul py i2 := ⟨_, rfl⟩
    have cy2 := hK.mul py i2
    rw [← hy2] at cy2 ⊢
    obtain ⟨y, hy⟩ : ∃ q_, q_ = k.O.mul y2 i_ := ⟨_, rfl⟩
    have cy := hK.mul y2 i_
    rw [← hy] at cy ⊢
    refine mk Tryz.func62 rfl rfl L0 R1 (by decide +kernel) fun A S hA hS => ?_
    have e1 := (words_eqz hK.injv hK.zerov hA pz).trans (decide_eq_false h)
    unfold bodyOf Tryz.f62
    cbv
    repeat (first
      | (refine ABr.t (by assumption) ?_; cbv)
      | (refine ABr.f (by assumption) ?_; cbv)
      | (refine ABr.t rfl ?_; cbv)
      | (refine ABr.f rfl ?_; cbv)
      | (refine ACall.mk _ (cf hS hp) ?_; cbv)
      | (refine ACall.mk _ (cf hS ci_) ?_; cbv)
      | (refine ACall.mk _ (cf hS ci2) ?_; cbv)
      | (refine ACall.mk _ (cf hS cx) ?_; cbv)
      | (refine ACall.mk _ (cf hS cy2) ?_; cbv)
      | (refine ACall.mk _ (cf hS cy) ?_; cbv))
theorem twS (j : Cv.Jac (Fin p)) : Sp 110 [JU k j] (JU k (Gp.twR k.O j)) := by
  obtain ⟨px, py, pz⟩ := j
  have bad : ∀ (hz : pz = k.O.zero ∨ py = k.O.zero), Sp 110 [JU k ⟨px, py, pz⟩] (JU k (Gp.inf1 k.O)) := fun hz => by
    have e0 := hK.one.1
    have es := hK.one.2
    have z := hK.zerov
    have e1 := es 0 (by decide)
    have e2 := es 1 (by decide)
    have e3 := es 2 (by decide)
    have z0 := z 0 (by decide)
    have z1 := z 1 (by decide)
    have z2 := z 2 (by decide)
    have z3 := z 3 (by decide)
    have qz := fun (A : Ar) (hA : A = Ar.real) => words_eqz hK.injv hK.zerov hA pz
    have qy := fun (A : Ar) (hA : A = Ar.real) => words_eqz hK.injv hK.zerov hA py
    clear es z
    unfold Gp.inf1
    by_cases h1 : pz = k.O.zero
    · rw [decide_eq_true h1] at qz
      clear h1 hz qy
      generalize k.O.one = o at *
      generalize k.O.zero = zz at *
      refine mk Tryz.func110 rfl rfl L0 RTw (by decide +kernel) fun A S hA hS => ?_
      have qz := qz A hA
      unfold bodyOf Tryz.f110
      cbv
      repeat (first
        | (refine ABr.t (by assumption) ?_; cbv)
        | (refine ABr.f (by assumption) ?_; cbv)
        | (refine ABr.t rfl ?_; cbv)
        | (refine ABr.f rfl ?_; cbv)
        | (refine ACall.mk _ (cf hS hp) ?_; cbv))
      repeat' (first | exact e0.symm | exact e1.symm | exact e2.symm | exact e3.symm | exact z0.symm | exact z1.symm | exact z2.symm | exact z3.symm | exact rfl | exact trivial | constructor)
    · rw [decide_eq_false h1] at qz
      have h2 : py = k.O.zero := by rcases hz with h | h; exact absurd h h1; exact h
      rw [decide_eq_true h2] at qy
      clear h1 h2 hz
      generalize k.O.one = o at *
      generalize k.O.zero = zz at *
      refine mk Tryz.func110 rfl rfl L0 RTw (by decide +kernel) fun A S hA hS => ?_
      have qz := qz A hA
      have qy := qy A hA
      unfold bodyOf Tryz.f110
      cbv
      repeat (first
        | (refine ABr.t (by assumption) ?_; cbv)
        | (refine ABr.f (by assumption) ?_; cbv)
        | (refine ABr.t rfl ?_; cbv)
        | (refine ABr.f rfl ?_; cbv)
        | (refine ACall.mk _ (cf hS hp) ?_; cbv))
      repeat' (first | exact e0.symm | exact e1.symm | exact e2.symm | exact e3.symm | exact z0.symm | exact z1.symm | exact z2.symm | exact z3.symm | exact rfl | exact trivial | constructor)
  unfold Gp.twR
  dsimp only
  by_cases h : pz = k.O.zero ∨ py = k.O.zero
  · rw [if_pos h]; exact bad h
  rw [if_neg h]
  clear bad
  unfold Cv.dbl
  dsimp only
  obtain ⟨a, ha⟩ : ∃ q_, q_ = k.O.mul px px := ⟨_, rfl⟩
  have ca := hK.mul px px
  rw [← ha] at ca ⊢
  obtain ⟨bb, hbb⟩ : ∃ q_, q_ = k.O.mul py py := ⟨_, rfl⟩
  have cbb := hK.mul py py
  rw [← hbb] at cbb ⊢
  obtain ⟨s0, hs0⟩ : ∃ q_, q_ = k.O.mul px bb := ⟨_, rfl⟩
  have cs0 := hK.mul px bb
  rw [← hs0] at cs0 ⊢
  obtain ⟨s1, hs1⟩ : ∃ q_, q_ = k.O.add s0 s0 := ⟨_, rfl⟩
  have cs1 := hK.add s0 s0
  rw [← hs1] at cs1 ⊢
  obtain ⟨s2, hs2⟩ : ∃ q_, q_ = k.O.add s1 s1 := ⟨_, rfl⟩
  have cs2 := hK.add s1 s1
  rw [← hs2] at cs2 ⊢
  obtain ⟨aa, haa⟩ : ∃ q_, q_ = k.O.add a a := ⟨_, rfl⟩
  have caa := hK.add a a
  rw [← haa] at caa ⊢
  obtain ⟨e, he⟩ : ∃ q_, q_ = k.O.add aa a := ⟨_, rfl⟩
  have ce := hK.add aa a
  rw [← he] at ce ⊢
  obtain ⟨c0, hc0⟩ : ∃ q_, q_ = k.O.mul bb bb := ⟨_, rfl⟩
  have cc0 := hK.mul bb bb
  rw [← hc0] at cc0 ⊢
  obtain ⟨d1, hd1⟩ : ∃ q_, q_ = k.O.add c0 c0 := ⟨_, rfl⟩
  have cd1 := hK.add c0 c0
  rw [← hd1] at cd1 ⊢
  obtain ⟨d2, hd2⟩ : ∃ q_, q_ = k.O.add d1 d1 := ⟨_, rfl⟩
  have cd2 := hK.add d1 d1
  rw [← hd2] at cd2 ⊢
  obtain ⟨d3, hd3⟩ : ∃ q_, q_ = k.O.add d2 d2 := ⟨_, rfl⟩
  have cd3 := hK.add d2 d2
  rw [← hd3] at cd3 ⊢
  obtain ⟨ee, hee⟩ : ∃ q_, q_ = k.O.mul e e := ⟨_, rfl⟩
  have cee := hK.mul e e
  rw [← hee] at cee ⊢
  obtain ⟨ss, hss⟩ : ∃ q_, q_ = k.O.add s2 s2 := ⟨_, rfl⟩
  have css := hK.add s2 s2
  rw [← hss] at css ⊢
  obtain ⟨x, hx⟩ : ∃ q_, q_ = k.O.sub ee ss := ⟨_, rfl⟩
  have cx := hK.sub ee ss
  rw [← hx] at cx ⊢
  obtain ⟨z0, hz0⟩ : ∃ q_, q_ = k.O.mul py pz := ⟨_, rfl⟩
  have cz0 := hK.mul py pz
  rw [← hz0] at cz0 ⊢
  obtain ⟨d, hd⟩ : ∃ q_, q_ = k.O.sub s2 x := ⟨_, rfl⟩
  have cd := hK.sub s2 x
  rw [← hd] at cd ⊢
  obtain ⟨ed, hed⟩ : ∃ q_, q_ = k.O.mul e d := ⟨_, rfl⟩
  have ced := hK.mul e d
  rw [← hed] at ced ⊢
  obtain ⟨y, hy⟩ : ∃ q_, q_ = k.O.sub ed d3 := ⟨_, rfl⟩
  have cy := hK.sub ed d3
  rw [← hy] at cy ⊢
  obtain ⟨z, hz⟩ : ∃ q_, q_ = k.O.add z0 z0 := ⟨_, rfl⟩
  have cz := hK.add z0 z0
  rw [← hz] at cz ⊢
  refine mk Tryz.func110 rfl rfl L0 RTw (by decide +kernel) fun A S hA hS => ?_
  have qz := (words_eqz hK.injv hK.zerov hA pz).trans (decide_eq_false fun e => h (.inl e))
  have qy := (words_eqz hK.injv hK.zerov hA py).trans (decide_eq_false fun e => h (.inr e))
  unfold bodyOf Tryz.f110
  cbv
  repeat (first
    | (refine ABr.t (by assumption) ?_; cbv)
    | (refine ABr.f (by assumption) ?_; cbv)
    | (refine ABr.t rfl ?_; cbv)
    | (refine ABr.f rfl ?_; cbv)
    | (refine ACall.mk _ (cf hS hp) ?_; cbv))
  repeat (first
    | (refine ABr.t (by assumption) ?_; cbv)
    | (refine ABr.f (by assumption) ?_; cbv)
    | (refine ABr.t rfl ?_; cbv)
    | (refine ABr.f rfl ?_; cbv)
    | (refine ACall.mk _ (cf hS ca) ?_; cbv)
    | (refine ACall.mk _ (cf hS cbb) ?_; cbv)
    | (refine ACall.mk _ (cf hS cs0) ?_; cbv)
    | (refine ACall.mk _ (cf hS cs1) ?_; cbv)
    | (refine ACall.mk _ (cf hS cs2) ?_; cbv)
    | (refine ACall.mk _ (cf hS caa) ?_; cbv)
    | (refine ACall.mk _ (cf hS ce) ?_; cbv)
    | (refine ACall.mk _ (cf hS cc0) ?_; cbv)
    | (refine ACall.mk _ (cf hS cd1) ?_; cbv)
    | (refine ACall.mk _ (cf hS cd2) ?_; cbv)
    | (refine ACall.mk _ (cf hS cd3) ?_; cbv)
    | (refine ACall.mk _ (cf hS cee) ?_; cbv)
    | (refine ACall.mk _ (cf hS css) ?_; cbv)
    | (refine ACall.mk _ (cf hS cx) ?_; cbv)
    | (refine ACall.mk _ (cf hS cz0) ?_; cbv)
    | (refine ACall.mk _ (cf hS cd) ?_; cbv)
    | (refine ACall.mk _ (cf hS ced) ?_; cbv)
    | (refine ACall.mk _ (cf hS cy) ?_; cbv)
    | (refine ACall.mk _ (cf hS cz) ?_; cbv))
theorem plS (j q : Cv.Jac (Fin p)) : Sp 63 [JU k j, JU k q] (JU k (Gp.plR k.O j q)) := by
  have ctw := twS hK hp j
  obtain ⟨px, py, pz⟩ := j
  obtain ⟨qx, qy, qz⟩ := q
  unfold Gp.plR
  dsimp only
  by_cases h1 : pz = k.O.zero
  · rw [if_pos h1]
    refine mk Tryz.func63 rfl rfl L0 RPl (by decide +kernel) fun A S hA hS => ?_
    have e1 := (words_eqz hK.injv hK.zerov hA pz).trans (decide_eq_true h1)
    unfold bodyOf Tryz.f63
    cbv
    repeat (first
      | (refine ABr.t (by assumption) ?_; cbv)
      | (refine ABr.f (by assumption) ?_; cbv)
      | (refine ABr.t rfl ?_; cbv)
      | (refine ABr.f rfl ?_; cbv)
      | (refine ACall.mk _ (cf hS hp) ?_; cbv))
  rw [if_neg h1]
  by_cases h2 : qz = k.O.zero
  · rw [if_pos h2]
    refine mk Tryz.func63 rfl rfl L0 RPl (by decide +kernel) fun A S hA hS => ?_
    have e1 := (words_eqz hK.injv hK.zerov hA pz).trans (decide_eq_false h1)
    have e2 := (words_eqz hK.injv hK.zerov hA qz).trans (decide_eq_true h2)
    unfold bodyOf Tryz.f63
    cbv
    repeat (first
      | (refine ABr.t (by assumption) ?_; cbv)
      | (refine ABr.f (by assumption) ?_; cbv)
      | (refine ABr.t rfl ?_; cbv)
      | (refine ABr.f rfl ?_; cbv)
      | (refine ACall.mk _ (cf hS hp) ?_; cbv))
  rw [if_neg h2]
  unfold Gp.mixG
  dsimp only
  obtain ⟨pp, hpp⟩ : ∃ q_, q_ = k.O.mul pz pz := ⟨_, rfl⟩
  have cpp := hK.mul pz pz
  rw [← hpp] at cpp ⊢
  obtain ⟨qq, hqq⟩ : ∃ q_, q_ = k.O.mul qz qz := ⟨_, rfl⟩
  have cqq := hK.mul qz qz
  rw [← hqq] at cqq ⊢
  obtain ⟨u, hu⟩ : ∃ q_, q_ = k.O.mul px qq := ⟨_, rfl⟩
  have cu := hK.mul px qq
  rw [← hu] at cu ⊢
  obtain ⟨v, hv⟩ : ∃ q_, q_ = k.O.mul qx pp := ⟨_, rfl⟩
  have cv := hK.mul qx pp
  rw [← hv] at cv ⊢
  obtain ⟨s0, hs0⟩ : ∃ q_, q_ = k.O.mul py qq := ⟨_, rfl⟩
  have cs0 := hK.mul py qq
  rw [← hs0] at cs0 ⊢
  obtain ⟨s, hs⟩ : ∃ q_, q_ = k.O.mul s0 qz := ⟨_, rfl⟩
  have cs := hK.mul s0 qz
  rw [← hs] at cs ⊢
  obtain ⟨t0, ht0⟩ : ∃ q_, q_ = k.O.mul qy pp := ⟨_, rfl⟩
  have ct0 := hK.mul qy pp
  rw [← ht0] at ct0 ⊢
  obtain ⟨t, ht⟩ : ∃ q_, q_ = k.O.mul t0 pz := ⟨_, rfl⟩
  have ct := hK.mul t0 pz
  rw [← ht] at ct ⊢
  by_cases h3 : u = v
  · rw [if_pos h3]
    by_cases h4 : s = t
    · rw [if_pos h4]
      refine mk Tryz.func63 rfl rfl L0 RPl (by decide +kernel) fun A S hA hS => ?_
      have e1 := (words_eqz hK.injv hK.zerov hA pz).trans (decide_eq_false h1)
      have e2 := (words_eqz hK.injv hK.zerov hA qz).trans (decide_eq_false h2)
      have e3 := (words_eq hK.injv hA u v).trans (decide_eq_true h3)
      have e4 := (words_eq hK.injv hA s t).trans (decide_eq_true h4)
      have e5 := (congrArg A.not e4).trans (not_t hA)
      generalize Gp.twR k.O ⟨px, py, pz⟩ = d at *
      unfold bodyOf Tryz.f63
      cbv
      repeat (first
        | (refine ABr.t (by assumption) ?_; cbv)
        | (refine ABr.f (by assumption) ?_; cbv)
        | (refine ABr.t rfl ?_; cbv)
        | (refine ABr.f rfl ?_; cbv)
        | (refine ACall.mk _ (cf hS hp) ?_; cbv))
      repeat (first
        | (refine ABr.t (by assumption) ?_; cbv)
        | (refine ABr.f (by assumption) ?_; cbv)
        | (refine ABr.t rfl ?_; cbv)
        | (refine ABr.f rfl ?_; cbv)
        | (refine ACall.mk _ (cf hS cpp) ?_; cbv)
        | (refine ACall.mk _ (cf hS cqq) ?_; cbv)
        | (refine ACall.mk _ (cf hS cu) ?_; cbv)
        | (refine ACall.mk _ (cf hS cv) ?_; cbv)
        | (refine ACall.mk _ (cf hS cs0) ?_; cbv)
        | (refine ACall.mk _ (cf hS cs) ?_; cbv)
        | (refine ACall.mk _ (cf hS ct0) ?_; cbv)
        | (refine ACall.mk _ (cf hS ct) ?_; cbv)
        | (refine ACall.mk _ (cf hS ctw) ?_; cbv))
    · rw [if_neg h4]
      have f0 := hK.one.1
      have fs := hK.one.2
      have z := hK.zerov
      have f1 := fs 0 (by decide)
      have f2 := fs 1 (by decide)
      have f3 := fs 2 (by decide)
      have z0 := z 0 (by decide)
      have z1 := z 1 (by decide)
      have z2 := z 2 (by decide)
      have z3 := z 3 (by decide)
      clear fs z
      unfold Gp.inf1
      have q1 := fun (A : Ar) (hA : A = Ar.real) => (words_eqz hK.injv hK.zerov hA pz).trans (decide_eq_false h1)
      have q2 := fun (A : Ar) (hA : A = Ar.real) => (words_eqz hK.injv hK.zerov hA qz).trans (decide_eq_false h2)
      have q3 := fun (A : Ar) (hA : A = Ar.real) => (words_eq hK.injv hA u v).trans (decide_eq_true h3)
      have q4 := fun (A : Ar) (hA : A = Ar.real) => (words_eq hK.injv hA s t).trans (decide_eq_false h4)
      generalize k.O.one = o at *
      generalize k.O.zero = zz at *
      refine mk Tryz.func63 rfl rfl L0 RPl (by decide +kernel) fun A S hA hS => ?_
      have e1 := q1 A hA
      have e2 := q2 A hA
      have e3 := q3 A hA
      have e4 := q4 A hA
      have e5 := (congrArg A.not e4).trans (not_f hA)
      unfold bodyOf Tryz.f63
      cbv
      repeat (first
        | (refine ABr.t (by assumption) ?_; cbv)
        | (refine ABr.f (by assumption) ?_; cbv)
        | (refine ABr.t rfl ?_; cbv)
        | (refine ABr.f rfl ?_; cbv)
        | (refine ACall.mk _ (cf hS hp) ?_; cbv))
      repeat (first
        | (refine ABr.t (by assumption) ?_; cbv)
        | (refine ABr.f (by assumption) ?_; cbv)
        | (refine ABr.t rfl ?_; cbv)
        | (refine ABr.f rfl ?_; cbv)
        | (refine ACall.mk _ (cf hS cpp) ?_; cbv)
        | (refine ACall.mk _ (cf hS cqq) ?_; cbv)
        | (refine ACall.mk _ (cf hS cu) ?_; cbv)
        | (refine ACall.mk _ (cf hS cv) ?_; cbv)
        | (refine ACall.mk _ (cf hS cs0) ?_; cbv)
        | (refine ACall.mk _ (cf hS cs) ?_; cbv)
        | (refine ACall.mk _ (cf hS ct0) ?_; cbv)
        | (refine ACall.mk _ (cf hS ct) ?_; cbv))
      repeat' (first | exact f0.symm | exact f1.symm | exact f2.symm | exact f3.symm | exact z0.symm | exact z1.symm | exact z2.symm | exact z3.symm | exact rfl | exact trivial | constructor)
  rw [if_neg h3]
  obtain ⟨h, hh⟩ : ∃ q_, q_ = k.O.sub v u := ⟨_, rfl⟩
  have ch := hK.sub v u
  rw [← hh] at ch ⊢
  obtain ⟨rr, hrr⟩ : ∃ q_, q_ = k.O.sub t s := ⟨_, rfl⟩
  have crr := hK.sub t s
  rw [← hrr] at crr ⊢
  obtain ⟨hh, hhh⟩ : ∃ q_, q_ = k.O.mul h h := ⟨_, rfl⟩
  have chh := hK.mul h h
  rw [← hhh] at chh ⊢
  obtain ⟨hhh, hhhh⟩ : ∃ q_, q_ = k.O.mul hh h := ⟨_, rfl⟩
  have chhh := hK.mul hh h
  rw [← hhhh] at chhh ⊢
  obtain ⟨w, hw⟩ : ∃ q_, q_ = k.O.mul u hh := ⟨_, rfl⟩
  have cw := hK.mul u hh
  rw [← hw] at cw ⊢
  obtain ⟨r2, hr2⟩ : ∃ q_, q_ = k.O.mul rr rr := ⟨_, rfl⟩
  have cr2 := hK.mul rr rr
  rw [← hr2] at cr2 ⊢
  obtain ⟨x0, hx0⟩ : ∃ q_, q_ = k.O.sub r2 hhh := ⟨_, rfl⟩
  have cx0 := hK.sub r2 hhh
  rw [← hx0] at cx0 ⊢
  obtain ⟨ww, hww⟩ : ∃ q_, q_ = k.O.add w w := ⟨_, rfl⟩
  have cww := hK.add w w
  rw [← hww] at cww ⊢
  obtain ⟨x, hx⟩ : ∃ q_, q_ = k.O.sub x0 ww := ⟨_, rfl⟩
  have cx := hK.sub x0 ww
  rw [← hx] at cx ⊢
  obtain ⟨wx, hwx⟩ : ∃ q_, q_ = k.O.sub w x := ⟨_, rfl⟩
  have cwx := hK.sub w x
  rw [← hwx] at cwx ⊢
  obtain ⟨rx, hrx⟩ : ∃ q_, q_ = k.O.mul rr wx := ⟨_, rfl⟩
  have crx := hK.mul rr wx
  rw [← hrx] at crx ⊢
  obtain ⟨sh, hsh⟩ : ∃ q_, q_ = k.O.mul s hhh := ⟨_, rfl⟩
  have csh := hK.mul s hhh
  rw [← hsh] at csh ⊢
  obtain ⟨y, hy⟩ : ∃ q_, q_ = k.O.sub rx sh := ⟨_, rfl⟩
  have cy := hK.sub rx sh
  rw [← hy] at cy ⊢
  obtain ⟨pq, hpq⟩ : ∃ q_, q_ = k.O.mul pz qz := ⟨_, rfl⟩
  have cpq := hK.mul pz qz
  rw [← hpq] at cpq ⊢
  obtain ⟨z, hz⟩ : ∃ q_, q_ = k.O.mul pq h := ⟨_, rfl⟩
  have cz := hK.mul pq h
  rw [← hz] at cz ⊢
  refine mk Tryz.func63 rfl rfl L0 RPl (by decide +kernel) fun A S hA hS => ?_
  have e1 := (words_eqz hK.injv hK.zerov hA pz).trans (decide_eq_false h1)
  have e2 := (words_eqz hK.injv hK.zerov hA qz).trans (decide_eq_false h2)
  have e3 := (words_eq hK.injv hA u v).trans (decide_eq_false h3)
  unfold bodyOf Tryz.f63
  cbv
  repeat (first
    | (refine ABr.t (by assumption) ?_; cbv)
    | (refine ABr.f (by assumption) ?_; cbv)
    | (refine ABr.t rfl ?_; cbv)
    | (refine ABr.f rfl ?_; cbv)
    | (refine ACall.mk _ (cf hS hp) ?_; cbv))
  repeat (first
    | (refine ABr.t (by assumption) ?_; cbv)
    | (refine ABr.f (by assumption) ?_; cbv)
    | (refine ABr.t rfl ?_; cbv)
    | (refine ABr.f rfl ?_; cbv)
    | (refine ACall.mk _ (cf hS cpp) ?_; cbv)
    | (refine ACall.mk _ (cf hS cqq) ?_; cbv)
    | (refine ACall.mk _ (cf hS cu) ?_; cbv)
    | (refine ACall.mk _ (cf hS cv) ?_; cbv)
    | (refine ACall.mk _ (cf hS cs0) ?_; cbv)
    | (refine ACall.mk _ (cf hS cs) ?_; cbv)
    | (refine ACall.mk _ (cf hS ct0) ?_; cbv)
    | (refine ACall.mk _ (cf hS ct) ?_; cbv)
    | (refine ACall.mk _ (cf hS ch) ?_; cbv)
    | (refine ACall.mk _ (cf hS crr) ?_; cbv))
  repeat (first
    | (refine ABr.t (by assumption) ?_; cbv)
    | (refine ABr.f (by assumption) ?_; cbv)
    | (refine ABr.t rfl ?_; cbv)
    | (refine ABr.f rfl ?_; cbv)
    | (refine ACall.mk _ (cf hS chh) ?_; cbv)
    | (refine ACall.mk _ (cf hS chhh) ?_; cbv)
    | (refine ACall.mk _ (cf hS cw) ?_; cbv)
    | (refine ACall.mk _ (cf hS cr2) ?_; cbv)
    | (refine ACall.mk _ (cf hS cx0) ?_; cbv)
    | (refine ACall.mk _ (cf hS cww) ?_; cbv)
    | (refine ACall.mk _ (cf hS cx) ?_; cbv)
    | (refine ACall.mk _ (cf hS cwx) ?_; cbv)
    | (refine ACall.mk _ (cf hS crx) ?_; cbv)
    | (refine ACall.mk _ (cf hS csh) ?_; cbv)
    | (refine ACall.mk _ (cf hS cy) ?_; cbv)
    | (refine ACall.mk _ (cf hS cpq) ?_; cbv)
    | (refine ACall.mk _ (cf hS cz) ?_; cbv))
end
end Go.Proofs.YtkhipnhdbaahcaaGreat
