import Derived.Test.YtkhipnhdbaahcaaQASH
import Derived.Test.YtkhipnhdbaahcaaQAC
import Derived.Test.YtkhipnhdbaahcaaQAP
set_option linter.unusedVariables false
set_option linter.unusedSimpArgs false
set_option linter.unusedSectionVars false
set_option maxRecDepth 100000
set_option exponentiation.threshold 2000
set_option maxHeartbeats 4000000
section
namespace Go.Proofs.Ytkhipnhdbaahcaa
open Go Eng
theorem weq4 {A : Ar} (hA : A = Ar.real) {lim : Lim} (hl : lim = limR) {a b : Nat} (ha : a < 2 ^ 256) (hb : b < 2 ^ 256) :
   A.eqs [(.s .u64 (lim a 0), .s .u64 (lim b 0)), (.s .u64 (lim a 1), .s .u64 (lim b 1)), (.s .u64 (lim a 2), .s .u64 (lim b 2)), (.s .u64 (lim a 3), .s .u64 (lim b 3))] = decide (a = b) := by
 have h0 : ∀ x y : Int, leafEq (.s .u64 x, .s .u64 y) = (x == y) := fun x y => rfl
 refine eqs_decF hA ⟨fun h => lim_inj4 hl ha hb ?_, fun h => ?_⟩
 . simpa only [List.all_cons, List.all_nil, h0, beq_iff_eq, Bool.and_eq_true, and_true] using h
 . subst h; simp only [List.all_cons, List.all_nil, h0, beq_iff_eq, Bool.and_eq_true, and_true, and_self]
theorem nf_mod (z : Nat) : Sk.nf (z % Sk.nS) = Sk.nf z := Fin.ext (Nat.mod_mod _ _)
theorem finN_256 (a : Fin Sk.nS) : a.val < 2 ^ 256 := Nat.lt_trans a.isLt (by decide)
theorem finP_256 (a : Fin Sk.pS) : a.val < 2 ^ 256 := Nat.lt_trans a.isLt (by decide)
theorem odd_tests {A : Ar} (hA : A = Ar.real) {oi : Int} (h : oi = 0 ∨ oi = 1) : (A.cmp .neq oi 0 = false ∧ oi = 0) ∨ (A.cmp .neq oi 0 = true ∧ A.cmp .neq oi 1 = false) := by
 rw [i_ne hA, i_ne hA]
 rcases h with h | h <;> subst h
 . exact .inl ⟨rfl, rfl⟩
 . exact .inr ⟨rfl, rfl⟩
abbrev hsh (F : Nat → Int) : List AVal := [.s .u8 (F 0), .s .u8 (F 1), .s .u8 (F 2), .s .u8 (F 3), .s .u8 (F 4), .s .u8 (F 5), .s .u8 (F 6), .s .u8 (F 7), .s .u8 (F 8), .s .u8 (F 9), .s .u8 (F 10), .s .u8 (F 11), .s .u8 (F 12), .s .u8 (F 13), .s .u8 (F 14), .s .u8 (F 15), .s .u8 (F 16), .s .u8 (F 17), .s .u8 (F 18), .s .u8 (F 19), .s .u8 (F 20), .s .u8 (F 21), .s .u8 (F 22), .s .u8 (F 23), .s .u8 (F 24), .s .u8 (F 25), .s .u8 (F 26), .s .u8 (F 27), .s .u8 (F 28), .s .u8 (F 29), .s .u8 (F 30), .s .u8 (F 31)]
abbrev sgn9 (lim : Lim) (a b : Nat) (oi : Int) : AVal := .agg [.s .u64 (lim a 0), .s .u64 (lim a 1), .s .u64 (lim a 2), .s .u64 (lim a 3), .s .u64 (lim b 0), .s .u64 (lim b 1), .s .u64 (lim b 2), .s .u64 (lim b 3), .s .i64 oi]
section
variable {H : H5} {k : Kf Sk.pS} {r : List AVal} {kn : Kf Sk.nS} {rn : List AVal} {m n : Nat} (hs : Sec H k r kn rn m n) (hr : RootK H k r)
include hs
theorem Sec.mulN (a b : Fin Sk.nS) : Sp 48 [.ref rn 0, Ef kn a, Ef kn b] (Ef kn (a * b)) := by
 have h := hs.okn.mul a b
 rw [hs.on] at h; exact h
theorem Sec.invN (a : Fin Sk.nS) : Sp 43 [.ref rn 0, Ef kn a] (Ef kn (Cv.inv1 a)) := by
 have h := hs.okn.inv a
 rw [hs.on] at h; exact h
theorem Sec.negN (a : Fin Sk.nS) : Sp 47 [.ref rn 0, Ef kn a] (Ef kn (0 - a)) := by
 have h := hs.okn.neg a
 rw [hs.on] at h; exact h
theorem Sec.verifyGood (px py : Fin Sk.pS) (hP : onS (some (px, py))) (h : Nat → Nat) (hh : ∀ j, h j < 256) (F : Nat → Int) (hF : F = fun j => ((h j : Nat) : Int)) (a b : Nat) (ha : a ≠ 0 ∧ a < Sk.nS) (hb : b ≠ 0 ∧ b < Sk.nS)
   (R : Cv.Pt (Fin Sk.pS)) (hR : R = Cv.sumR Sk.O (Gp.mn Sk.O Sk.G (Sk.nf (rdN h) * Cv.inv1 (Sk.nf b)).val) (Gp.mn Sk.O (some (px, py)) (Sk.nf a * Cv.inv1 (Sk.nf b)).val))
   (t : Bool) (ht : match (generalizing := false) R with | none => t = false | some (x, _) => t = decide (x.val % Sk.nS = a)) : Sp 19 [Pf k (some (px, py)), .agg (hsh F), u4 H.lim a, u4 H.lim b] (.sb t) := by
 have hl := H5.hlim hs.hH
 have gp := hs.goodP _ hP
 have a256 : a < 2 ^ 256 := Nat.lt_trans ha.2 (by decide)
 have b256 : b < 2 ^ 256 := Nat.lt_trans hb.2 (by decide)
 have ca := hs.scalar a a256 true (decide_eq_true ha).symm
 have cb := hs.scalar b b256 true (decide_eq_true hb).symm
 have co := hs.order
 have ib := hs.inN hb.2
 have ia := hs.inN ha.2
 have cnum := hs.number h hh F hF
 have iz := hs.inN (x := rdN h % Sk.nS) (Nat.mod_lt _ (by decide))
 rw [nf_mod] at iz
 have ci := hs.invN (Sk.nf b)
 have m1 := hs.mulN (Sk.nf (rdN h)) (Cv.inv1 (Sk.nf b))
 have m2 := hs.mulN (Sk.nf a) (Cv.inv1 (Sk.nf b))
 have o1 := hs.outN (Sk.nf (rdN h) * Cv.inv1 (Sk.nf b))
 have o2 := hs.outN (Sk.nf a * Cv.inv1 (Sk.nf b))
 have cs_ := hs.sum (Sk.nf (rdN h) * Cv.inv1 (Sk.nf b)).val (Sk.nf a * Cv.inv1 (Sk.nf b)).val (finN_256 _) (finN_256 _) _ hP
 rw [← hR] at cs_
 clear hR
 have sn := hs.sn
 have hsim := hs.okn.sim
 generalize Sk.nf a * Cv.inv1 (Sk.nf b) = w2 at *
 generalize Sk.nf (rdN h) * Cv.inv1 (Sk.nf b) = w1 at *
 generalize Cv.inv1 (Sk.nf b) = iv at *
 generalize Sk.nf b = fb at *
 generalize Sk.nf a = fa at *
 generalize Sk.nf (rdN h) = fz at *
 generalize w1.val = v1 at *
 generalize w2.val = v2 at *
 obtain ⟨z, hz⟩ : ∃ z, z = rdN h % Sk.nS := ⟨_, rfl⟩
 rw [← hz] at cnum iz
 clear hz
 rcases R with _ | ⟨x, y⟩
 . dsimp only at ht
   subst ht
   refine mk Try.func19 rfl rfl L0 R1 (by decide +kernel) fun A S hA hS => ?_
   have nt := not_t hA
   have nf := not_f hA
   unfold bodyOf Try.f19
   cbv
   repeat ((first | refine ABr.t (by first | assumption | rfl) ?_ | refine ABr.f (by first | assumption | rfl) ?_ | refine aF hS gp ?_ | refine aF hS ca ?_ | refine aF hS cb ?_ | refine aF hS co ?_ | refine aF hS ib ?_ | refine aF hS ci ?_ | refine aF hS cnum ?_ | refine aF hS iz ?_ | refine aF hS m1 ?_ | refine aF hS o1 ?_ | refine aF hS ia ?_ | refine aF hS m2 ?_ | refine aF hS o2 ?_ | refine aF hS cs_ ?_); cbv)
 . dsimp only at ht
   have vx := hs.uv x
   have x256 := finP_256 x
   have cm_ := modS hl x.val n x256 (by rw [hs.hn]; exact topN)
   have e : x.val % n = x.val % Sk.nS := by rw [hs.hn]
   have q256 : x.val % Sk.nS < 2 ^ 256 := Nat.lt_trans (Nat.mod_lt _ (by decide)) (by decide : Sk.nS < 2 ^ 256)
   rw [e] at cm_
   have eqs := fun (A : Ar) (hA : A = Ar.real) => (weq4 hA hl q256 a256).trans ht.symm
   clear ht e
   have x0 := vx 0
   have x1 := vx 1
   have x2 := vx 2
   have x3 := vx 3
   clear vx
   generalize x.val % Sk.nS = xm at *
   generalize x.val = xv at *
   refine mk Try.func19 rfl rfl L0 R1 (by decide +kernel) fun A S hA hS => ?_
   have nt := not_t hA
   have nf := not_f hA
   have eqs := eqs A hA
   unfold bodyOf Try.f19
   cbv
   repeat ((first | refine ABr.t (by first | assumption | rfl) ?_ | refine ABr.f (by first | assumption | rfl) ?_ | refine aF hS gp ?_ | refine aF hS ca ?_ | refine aF hS cb ?_ | refine aF hS co ?_ | refine aF hS ib ?_ | refine aF hS ci ?_ | refine aF hS cnum ?_ | refine aF hS iz ?_ | refine aF hS m1 ?_ | refine aF hS o1 ?_ | refine aF hS ia ?_ | refine aF hS m2 ?_ | refine aF hS o2 ?_ | refine aF hS cs_ ?_); cbv)
   repeat ((first | refine ABr.t (by first | assumption | rfl) ?_ | refine ABr.f (by first | assumption | rfl) ?_ | refine aF hS sn ?_); cbv)
   refine aG hS cm_ ?_ ?_
   . cbv
     repeat' (first | exact x0 | exact x1 | exact x2 | exact x3 | exact rfl | exact trivial | constructor)
   cbv
   exact eqs
theorem Sec.recBad (F : Nat → Int) (a b : Nat) (ha : a < 2 ^ 256) (hb : b < 2 ^ 256) (oi : Int) (h : ¬ ((oi = 0 ∨ oi = 1) ∧ (a ≠ 0 ∧ a < Sk.nS) ∧ (b ≠ 0 ∧ b < Sk.nS))) : Sp 17 [.agg (hsh F), sgn9 H.lim a b oi] (.tup [zPt, .i .i64 62]) := by
 have ca := hs.scalar a ha _ rfl
 have cb := hs.scalar b hb _ rfl
 by_cases h0 : oi = 0 ∨ oi = 1
 . by_cases h1 : a ≠ 0 ∧ a < Sk.nS
   . rw [decide_eq_true h1] at ca
     rw [decide_eq_false fun e => h ⟨h0, h1, e⟩] at cb
     refine mk Try.func17 rfl rfl L0 R1 (by decide +kernel) fun A S hA hS => ?_
     have nt := not_t hA
     have nf := not_f hA
     have tt := odd_tests hA h0
     unfold bodyOf Try.f17
     cbv
     rcases tt with ⟨t1, _⟩ | ⟨t1, t2⟩
     all_goals
       repeat ((first | refine ABr.t (by first | assumption | rfl) ?_ | refine ABr.f (by first | assumption | rfl) ?_ | refine aF hS ca ?_ | refine aF hS cb ?_); cbv)
   . rw [decide_eq_false h1] at ca
     refine mk Try.func17 rfl rfl L0 R1 (by decide +kernel) fun A S hA hS => ?_
     have nf := not_f hA
     have tt := odd_tests hA h0
     unfold bodyOf Try.f17
     cbv
     rcases tt with ⟨t1, _⟩ | ⟨t1, t2⟩
     all_goals
       repeat ((first | refine ABr.t (by first | assumption | rfl) ?_ | refine ABr.f (by first | assumption | rfl) ?_ | refine aF hS ca ?_); cbv)
 . refine mk Try.func17 rfl rfl L0 R1 (by decide +kernel) fun A S hA hS => ?_
   have t1 : A.cmp .neq oi 0 = true := by rw [i_ne hA, decide_eq_false fun e => h0 (.inl e)]; rfl
   have t2 : A.cmp .neq oi 1 = true := by rw [i_ne hA, decide_eq_false fun e => h0 (.inr e)]; rfl
   unfold bodyOf Try.f17
   cbv
   repeat ((first | refine ABr.t (by first | assumption | rfl) ?_ | refine ABr.f (by first | assumption | rfl) ?_ | refine aF hS ca ?_); cbv)
include hr
theorem Sec.recNone (F : Nat → Int) (a b : Nat) (ha : a ≠ 0 ∧ a < Sk.nS) (hb : b ≠ 0 ∧ b < Sk.nS) (oi : Int) (ho : oi = 0 ∨ oi = 1) (y : Fin Sk.pS) (hy : y = rtS (cvS a)) (hc : y * y ≠ cvS a) : Sp 17 [.agg (hsh F), sgn9 H.lim a b oi] (.tup [zPt, .i .i64 62]) := by
 have a256 : a < 2 ^ 256 := Nat.lt_trans ha.2 (by decide)
 have b256 : b < 2 ^ 256 := Nat.lt_trans hb.2 (by decide)
 have ca := hs.scalar a a256 true (decide_eq_true ha).symm
 have cb := hs.scalar b b256 true (decide_eq_true hb).symm
 have cl : Sp 39 [u4 H.lim a, .s .i64 oi] (.tup [zPt, .i .i64 60]) := by
   rcases ho with h | h
   . exact hs.liftNone hr (Nat.lt_trans ha.2 (by decide)) y hy hc 0 (by decide) oi h
   . exact hs.liftNone hr (Nat.lt_trans ha.2 (by decide)) y hy hc 1 (by decide) oi h
 clear hr hc hy
 refine mk Try.func17 rfl rfl L0 R1 (by decide +kernel) fun A S hA hS => ?_
 have nt := not_t hA
 have tt := odd_tests hA ho
 unfold bodyOf Try.f17
 cbv
 rcases tt with ⟨t1, _⟩ | ⟨t1, t2⟩
 all_goals
   repeat ((first | refine ABr.t (by first | assumption | rfl) ?_ | refine ABr.f (by first | assumption | rfl) ?_ | refine aF hS ca ?_ | refine aF hS cb ?_ | refine aF hS cl ?_); cbv)
theorem Sec.recGood (h : Nat → Nat) (hh : ∀ j, h j < 256) (F : Nat → Int) (hF : F = fun j => ((h j : Nat) : Int)) (a b : Nat) (ha : a ≠ 0 ∧ a < Sk.nS) (hb : b ≠ 0 ∧ b < Sk.nS) (o : Nat) (ho : o ≤ 1) (oi : Int) (hoi : oi = (o : Int)) (y : Fin Sk.pS) (hy : y = rtS (cvS a)) (hc : y * y = cvS a)
   (R : Cv.Pt (Fin Sk.pS)) (hR : R = Cv.sumR Sk.O (Gp.mn Sk.O Sk.G (0 - Sk.nf (rdN h) * Cv.inv1 (Sk.nf a)).val) (Gp.mn Sk.O (some (Sk.fs a, pickS y o)) (Sk.nf b * Cv.inv1 (Sk.nf a)).val)) (hon : onS (some (Sk.fs a, pickS y o))) :
   (R = none → Sp 17 [.agg (hsh F), sgn9 H.lim a b oi] (.tup [zPt, .i .i64 62])) ∧ (R ≠ none → Sp 17 [.agg (hsh F), sgn9 H.lim a b oi] (.tup [Pf k R, .i .i64 0])) := by
 have a256 : a < 2 ^ 256 := Nat.lt_trans ha.2 (by decide)
 have b256 : b < 2 ^ 256 := Nat.lt_trans hb.2 (by decide)
 have ca := hs.scalar a a256 true (decide_eq_true ha).symm
 have cb := hs.scalar b b256 true (decide_eq_true hb).symm
 have cl := hs.liftGood hr (Nat.lt_trans ha.2 (by decide)) y hy hc o ho oi hoi
 have co := hs.order
 have ib := hs.inN hb.2
 have ia := hs.inN ha.2
 have cnum := hs.number h hh F hF
 have iz := hs.inN (x := rdN h % Sk.nS) (Nat.mod_lt _ (by decide))
 rw [nf_mod] at iz
 have ci := hs.invN (Sk.nf a)
 have m1 := hs.mulN (Sk.nf (rdN h)) (Cv.inv1 (Sk.nf a))
 have m2 := hs.mulN (Sk.nf b) (Cv.inv1 (Sk.nf a))
 have n1 := hs.negN (Sk.nf (rdN h) * Cv.inv1 (Sk.nf a))
 have o1 := hs.outN (0 - Sk.nf (rdN h) * Cv.inv1 (Sk.nf a))
 have o2 := hs.outN (Sk.nf b * Cv.inv1 (Sk.nf a))
 have cs_ := hs.sum (0 - Sk.nf (rdN h) * Cv.inv1 (Sk.nf a)).val (Sk.nf b * Cv.inv1 (Sk.nf a)).val (finN_256 _) (finN_256 _) _ hon
 rw [← hR] at cs_
 clear hR hr hy hc hon
 have ho2 : oi = 0 ∨ oi = 1 := by omega
 clear hoi ho
 generalize Sk.nf b * Cv.inv1 (Sk.nf a) = w2 at *
 generalize (0 : Fin Sk.nS) - Sk.nf (rdN h) * Cv.inv1 (Sk.nf a) = w1 at *
 generalize Sk.nf (rdN h) * Cv.inv1 (Sk.nf a) = w3 at *
 generalize Cv.inv1 (Sk.nf a) = iv at *
 generalize Sk.nf b = fb at *
 generalize Sk.nf a = fa at *
 generalize Sk.nf (rdN h) = fz at *
 generalize w1.val = v1 at *
 generalize w2.val = v2 at *
 generalize pickS y o = yy at *
 generalize Sk.fs a = xx at *
 obtain ⟨z, hz⟩ : ∃ z, z = rdN h % Sk.nS := ⟨_, rfl⟩
 rw [← hz] at cnum iz
 clear hz
 rcases R with _ | ⟨x, y⟩
 . refine ⟨fun _ => ?_, fun e => absurd rfl e⟩
   refine mk Try.func17 rfl rfl L0 R1 (by decide +kernel) fun A S hA hS => ?_
   have nt := not_t hA
   have tt := odd_tests hA ho2
   unfold bodyOf Try.f17
   cbv
   rcases tt with ⟨t1, _⟩ | ⟨t1, t2⟩
   all_goals
     repeat ((first | refine ABr.t (by first | assumption | rfl) ?_ | refine ABr.f (by first | assumption | rfl) ?_ | refine aF hS ca ?_ | refine aF hS cb ?_ | refine aF hS cl ?_); cbv)
     repeat ((first | refine ABr.t (by first | assumption | rfl) ?_ | refine ABr.f (by first | assumption | rfl) ?_ | refine aF hS co ?_ | refine aF hS ia ?_ | refine aF hS ci ?_ | refine aF hS cnum ?_ | refine aF hS iz ?_ | refine aF hS m1 ?_ | refine aF hS n1 ?_ | refine aF hS o1 ?_ | refine aF hS ib ?_ | refine aF hS m2 ?_ | refine aF hS o2 ?_ | refine aF hS cs_ ?_); cbv)
 . refine ⟨fun e => (by cases e), fun _ => ?_⟩
   refine mk Try.func17 rfl rfl L0 R1 (by decide +kernel) fun A S hA hS => ?_
   have nt := not_t hA
   have tt := odd_tests hA ho2
   unfold bodyOf Try.f17
   cbv
   rcases tt with ⟨t1, _⟩ | ⟨t1, t2⟩
   all_goals
     repeat ((first | refine ABr.t (by first | assumption | rfl) ?_ | refine ABr.f (by first | assumption | rfl) ?_ | refine aF hS ca ?_ | refine aF hS cb ?_ | refine aF hS cl ?_); cbv)
     repeat ((first | refine ABr.t (by first | assumption | rfl) ?_ | refine ABr.f (by first | assumption | rfl) ?_ | refine aF hS co ?_ | refine aF hS ia ?_ | refine aF hS ci ?_ | refine aF hS cnum ?_ | refine aF hS iz ?_ | refine aF hS m1 ?_ | refine aF hS n1 ?_ | refine aF hS o1 ?_ | refine aF hS ib ?_ | refine aF hS m2 ?_ | refine aF hS o2 ?_ | refine aF hS cs_ ?_); cbv)
end
theorem cells_st {W : World} {base : Nat} {t : TypeId} {fs : Array Field} {ts : List TypeId} {v : Value} (hu : Try.prog.underlying t = some (.struct fs)) (hts : Try.prog.cellTypes Try.prog.depth t = some ts)
   (h : Value.okWide Try.prog W .any base t v) : ∃ cs : Array Value, v = .agg cs ∧ cs.size = Try.prog.cellsOf t ∧ ∀ (i : Nat) (v : Value), cs[i]? = some v → ∃ u, ts[i % ts.length]? = some u ∧ Cell.okWide Try.prog W .any base u v := by
 unfold Value.okWide at h
 rw [hu] at h
 obtain ⟨cs, rfl, hcs, ts', h1, ⟨k, hk⟩, h2⟩ := h
 rw [hts] at h1
 cases h1
 exact ⟨cs, rfl, hcs, h2⟩
theorem cells_ar {W : World} {base : Nat} {t : TypeId} {n : Nat} {e : TypeId} {ts : List TypeId} {v : Value} (hu : Try.prog.underlying t = some (.array n e)) (hts : Try.prog.cellTypes Try.prog.depth t = some ts)
   (h : Value.okWide Try.prog W .any base t v) : ∃ cs : Array Value, v = .agg cs ∧ cs.size = Try.prog.cellsOf t ∧ ∀ (i : Nat) (v : Value), cs[i]? = some v → ∃ u, ts[i % ts.length]? = some u ∧ Cell.okWide Try.prog W .any base u v := by
 unfold Value.okWide at h
 rw [hu] at h
 obtain ⟨cs, rfl, hcs, ts', h1, ⟨k, hk⟩, h2⟩ := h
 rw [hts] at h1
 cases h1
 exact ⟨cs, rfl, hcs, h2⟩
theorem cell_w {W : World} {base : Nat} {u : TypeId} {v : Value} (he : Try.prog.underlying u = some (.int .u64)) (h : Cell.okWide Try.prog W .any base u v) : ∃ z : Int, v = .int .u64 z ∧ 0 ≤ z ∧ z < 18446744073709551616 := by
 unfold Cell.okWide at h
 rw [he] at h
 unfold Cell.ok at h
 rw [he] at h
 cases v <;> simp only at h <;> try (exact h.elim)
 rename_i k' z
 obtain ⟨rfl, hz⟩ := h
 have h3 : (0 : Int) ≤ z ∧ z ≤ 18446744073709551615 := hz
 exact ⟨z, rfl, h3.1, by omega⟩
theorem cell_y {W : World} {base : Nat} {u : TypeId} {v : Value} (he : Try.prog.underlying u = some (.int .u8)) (h : Cell.okWide Try.prog W .any base u v) : ∃ z : Nat, v = .int .u8 (z : Int) ∧ z < 256 := by
 unfold Cell.okWide at h
 rw [he] at h
 unfold Cell.ok at h
 rw [he] at h
 cases v <;> simp only at h <;> try (exact h.elim)
 rename_i k' z
 obtain ⟨rfl, hz⟩ := h
 have h3 : (0 : Int) ≤ z ∧ z ≤ 255 := hz
 exact ⟨z.toNat, by rw [Int.toNat_of_nonneg h3.1], by omega⟩
theorem cell_i {W : World} {base : Nat} {u : TypeId} {v : Value} (he : Try.prog.underlying u = some (.int .i64)) (h : Cell.okWide Try.prog W .any base u v) : ∃ z : Int, v = .int .i64 z := by
 unfold Cell.okWide at h
 rw [he] at h
 unfold Cell.ok at h
 rw [he] at h
 cases v <;> simp only at h <;> try (exact h.elim)
 rename_i k' z
 obtain ⟨rfl, hz⟩ := h
 exact ⟨z, rfl⟩
theorem two_words {W : World} {base : Nat} {t : TypeId} {fs : Array Field} {e b : TypeId} {v : Value} (hu : Try.prog.underlying t = some (.struct fs)) (hts : Try.prog.cellTypes Try.prog.depth t = some (List.replicate 8 e ++ [b]))
   (he : Try.prog.underlying e = some (.int .u64)) (hsz : Try.prog.cellsOf t = 9) (h : Value.okWide Try.prog W .any base t v) :
   ∃ (x y : Nat) (w : Value), x < 2 ^ 256 ∧ y < 2 ^ 256 ∧ Cell.okWide Try.prog W .any base b w ∧ v = .agg #[.int .u64 (limR x 0), .int .u64 (limR x 1), .int .u64 (limR x 2), .int .u64 (limR x 3), .int .u64 (limR y 0), .int .u64 (limR y 1), .int .u64 (limR y 2), .int .u64 (limR y 3), w] := by
 obtain ⟨cs, rfl, hcs, each⟩ := cells_st hu hts h
 rw [hsz] at hcs
 have word : ∀ i, i < 8 → ∃ z : Int, cs[i]? = some (.int .u64 z) ∧ 0 ≤ z ∧ z < 18446744073709551616 := by
   intro i hi
   have hx : cs[i]? = some (cs[i]'(by omega)) := Array.getElem?_eq_getElem _
   obtain ⟨u, hu1, hu2⟩ := each i _ hx
   have hue : u = e := by
     rw [show (List.replicate 8 e ++ [b]).length = 9 by simp, Nat.mod_eq_of_lt (show i < 9 by omega), List.getElem?_append_left (by simpa using hi), List.getElem?_replicate, if_pos hi] at hu1
     cases hu1; rfl
   subst hue
   obtain ⟨z, hz, hr⟩ := cell_w he hu2
   exact ⟨z, by rw [hx, hz], hr⟩
 obtain ⟨w, gw, hw⟩ : ∃ w, cs[8]? = some w ∧ Cell.okWide Try.prog W .any base b w := by
   have hx : cs[8]? = some (cs[8]'(by omega)) := Array.getElem?_eq_getElem _
   obtain ⟨u, hu1, hu2⟩ := each 8 _ hx
   have hue : u = b := by
     rw [show (List.replicate 8 e ++ [b]).length = 9 by simp, Nat.mod_eq_of_lt (show 8 < 9 by omega), List.getElem?_append_right (by simp)] at hu1
     simp at hu1
     exact hu1.symm
   subst hue
   exact ⟨_, hx, hu2⟩
 have group : ∀ j, j < 2 → ∃ a : Nat, a < 2 ^ 256 ∧ ∀ i, i < 4 → cs[4 * j + i]? = some (.int .u64 (limR a i)) := by
   intro j hj
   obtain ⟨z0, e0, r0⟩ := word (4 * j) (by omega)
   obtain ⟨z1, e1, r1⟩ := word (4 * j + 1) (by omega)
   obtain ⟨z2, e2, r2⟩ := word (4 * j + 2) (by omega)
   obtain ⟨z3, e3, r3⟩ := word (4 * j + 3) (by omega)
   obtain ⟨a, ha⟩ : ∃ a : Nat, (a : Int) = z0 + 18446744073709551616 * (z1 + 18446744073709551616 * (z2 + 18446744073709551616 * z3)) := ⟨(z0 + 18446744073709551616 * (z1 + 18446744073709551616 * (z2 + 18446744073709551616 * z3))).toNat, Int.toNat_of_nonneg (by omega)⟩
   have han : a < 2 ^ 256 := by omega
   obtain ⟨l0, l1, l2, l3⟩ := lim_of4 rfl han r0 r1 r2 ha
   refine ⟨a, han, fun i hi => ?_⟩
   match i, hi with
   | 0, _ => rw [l0]; exact e0
   | 1, _ => rw [l1]; exact e1
   | 2, _ => rw [l2]; exact e2
   | 3, _ => rw [l3]; exact e3
 obtain ⟨x, h0, g0⟩ := group 0 (by decide)
 obtain ⟨y, h1, g1⟩ := group 1 (by decide)
 refine ⟨x, y, w, h0, h1, hw, ?_⟩
 congr 1
 apply Array.ext_getElem?
 intro i
 rcases Nat.lt_or_ge i 9 with hi | hi
 . rcases (by omega : i = 0 ∨ i = 1 ∨ i = 2 ∨ i = 3 ∨ i = 4 ∨ i = 5 ∨ i = 6 ∨ i = 7 ∨ i = 8) with rfl | rfl | rfl | rfl | rfl | rfl | rfl | rfl | rfl
   . exact g0 0 (by decide)
   . exact g0 1 (by decide)
   . exact g0 2 (by decide)
   . exact g0 3 (by decide)
   . exact g1 0 (by decide)
   . exact g1 1 (by decide)
   . exact g1 2 (by decide)
   . exact g1 3 (by decide)
   . exact gw
 . rw [Array.getElem?_eq_none (by omega), Array.getElem?_eq_none (by simpa using hi)]
theorem open_sg {W : World} {X : Nat → Prop} {base : Nat} {t : TypeId} {fs : Array Field} {e b : TypeId} {v : Value} (hu : Try.prog.underlying t = some (.struct fs)) (hts : Try.prog.cellTypes Try.prog.depth t = some (List.replicate 8 e ++ [b]))
   (he : Try.prog.underlying e = some (.int .u64)) (hb : Try.prog.underlying b = some (.int .i64)) (hsz : Try.prog.cellsOf t = 9) (h : Value.okWide Try.prog W .any base t v) :
   ∃ (x y : Nat) (o : Int), x < 2 ^ 256 ∧ y < 2 ^ 256 ∧ Rep W X noρ v (sgn9 limR x y o) := by
 obtain ⟨x, y, w, hx, hy, hw, rfl⟩ := two_words hu hts he hsz h
 obtain ⟨o, rfl⟩ := cell_i hb hw
 refine ⟨x, y, o, hx, hy, ?_⟩
 exact RepL.agg (.cons (.s _ _) (.cons (.s _ _) (.cons (.s _ _) (.cons (.s _ _) (.cons (.s _ _) (.cons (.s _ _) (.cons (.s _ _) (.cons (.s _ _) (.cons (.s _ _) .nil)))))))))
theorem open_h32 {W : World} {X : Nat → Prop} {base : Nat} {t : TypeId} {e : TypeId} {v : Value} (hu : Try.prog.underlying t = some (.array 32 e)) (hts : Try.prog.cellTypes Try.prog.depth t = some (List.replicate 32 e))
   (he : Try.prog.underlying e = some (.int .u8)) (hsz : Try.prog.cellsOf t = 32) (h : Value.okWide Try.prog W .any base t v) :
   ∃ g : Nat → Nat, (∀ j, g j < 256) ∧ Rep W X noρ v (.agg (hsh fun j => ((g j : Nat) : Int))) := by
 obtain ⟨cs, rfl, hcs, each⟩ := cells_ar hu hts h
 rw [hsz] at hcs
 have word : ∀ i, ∃ z : Nat, z < 256 ∧ (i < 32 → cs[i]? = some (.int .u8 (z : Int))) := by
   intro i
   by_cases hi : i < 32
   . have hx : cs[i]? = some (cs[i]'(by omega)) := Array.getElem?_eq_getElem _
     obtain ⟨u, hu1, hu2⟩ := each i _ hx
     have hue : u = e := by
       rw [List.length_replicate, Nat.mod_eq_of_lt hi, List.getElem?_replicate, if_pos hi] at hu1
       cases hu1; rfl
     subst hue
     obtain ⟨z, hz, hr⟩ := cell_y he hu2
     exact ⟨z, hr, fun _ => by rw [hx, hz]⟩
   . exact ⟨0, by decide, fun h => absurd h hi⟩
 obtain ⟨g, hg⟩ := Classical.axiomOfChoice word
 refine ⟨g, fun j => (hg j).1, ?_⟩
 have ec : cs = [.int .u8 ((g 0 : Nat) : Int), .int .u8 ((g 1 : Nat) : Int), .int .u8 ((g 2 : Nat) : Int), .int .u8 ((g 3 : Nat) : Int), .int .u8 ((g 4 : Nat) : Int), .int .u8 ((g 5 : Nat) : Int), .int .u8 ((g 6 : Nat) : Int), .int .u8 ((g 7 : Nat) : Int), .int .u8 ((g 8 : Nat) : Int), .int .u8 ((g 9 : Nat) : Int), .int .u8 ((g 10 : Nat) : Int), .int .u8 ((g 11 : Nat) : Int), .int .u8 ((g 12 : Nat) : Int), .int .u8 ((g 13 : Nat) : Int), .int .u8 ((g 14 : Nat) : Int), .int .u8 ((g 15 : Nat) : Int), .int .u8 ((g 16 : Nat) : Int), .int .u8 ((g 17 : Nat) : Int), .int .u8 ((g 18 : Nat) : Int), .int .u8 ((g 19 : Nat) : Int), .int .u8 ((g 20 : Nat) : Int), .int .u8 ((g 21 : Nat) : Int), .int .u8 ((g 22 : Nat) : Int), .int .u8 ((g 23 : Nat) : Int), .int .u8 ((g 24 : Nat) : Int), .int .u8 ((g 25 : Nat) : Int), .int .u8 ((g 26 : Nat) : Int), .int .u8 ((g 27 : Nat) : Int), .int .u8 ((g 28 : Nat) : Int), .int .u8 ((g 29 : Nat) : Int), .int .u8 ((g 30 : Nat) : Int), .int .u8 ((g 31 : Nat) : Int)].toArray := by
   apply Array.ext_getElem?
   intro i
   rcases Nat.lt_or_ge i 32 with hi | hi
   . rcases (by omega : i = 0 ∨ i = 1 ∨ i = 2 ∨ i = 3 ∨ i = 4 ∨ i = 5 ∨ i = 6 ∨ i = 7 ∨ i = 8 ∨ i = 9 ∨ i = 10 ∨ i = 11 ∨ i = 12 ∨ i = 13 ∨ i = 14 ∨ i = 15 ∨ i = 16 ∨ i = 17 ∨ i = 18 ∨ i = 19 ∨ i = 20 ∨ i = 21 ∨ i = 22 ∨ i = 23 ∨ i = 24 ∨ i = 25 ∨ i = 26 ∨ i = 27 ∨ i = 28 ∨ i = 29 ∨ i = 30 ∨ i = 31) with rfl | rfl | rfl | rfl | rfl | rfl | rfl | rfl | rfl | rfl | rfl | rfl | rfl | rfl | rfl | rfl | rfl | rfl | rfl | rfl | rfl | rfl | rfl | rfl | rfl | rfl | rfl | rfl | rfl | rfl | rfl | rfl
     . exact (hg 0).2 (by decide)
     . exact (hg 1).2 (by decide)
     . exact (hg 2).2 (by decide)
     . exact (hg 3).2 (by decide)
     . exact (hg 4).2 (by decide)
     . exact (hg 5).2 (by decide)
     . exact (hg 6).2 (by decide)
     . exact (hg 7).2 (by decide)
     . exact (hg 8).2 (by decide)
     . exact (hg 9).2 (by decide)
     . exact (hg 10).2 (by decide)
     . exact (hg 11).2 (by decide)
     . exact (hg 12).2 (by decide)
     . exact (hg 13).2 (by decide)
     . exact (hg 14).2 (by decide)
     . exact (hg 15).2 (by decide)
     . exact (hg 16).2 (by decide)
     . exact (hg 17).2 (by decide)
     . exact (hg 18).2 (by decide)
     . exact (hg 19).2 (by decide)
     . exact (hg 20).2 (by decide)
     . exact (hg 21).2 (by decide)
     . exact (hg 22).2 (by decide)
     . exact (hg 23).2 (by decide)
     . exact (hg 24).2 (by decide)
     . exact (hg 25).2 (by decide)
     . exact (hg 26).2 (by decide)
     . exact (hg 27).2 (by decide)
     . exact (hg 28).2 (by decide)
     . exact (hg 29).2 (by decide)
     . exact (hg 30).2 (by decide)
     . exact (hg 31).2 (by decide)
   . rw [Array.getElem?_eq_none (by omega), Array.getElem?_eq_none (by simpa using hi)]
 rw [ec]
 exact RepL.agg (.cons (.s _ _) (.cons (.s _ _) (.cons (.s _ _) (.cons (.s _ _) (.cons (.s _ _) (.cons (.s _ _) (.cons (.s _ _) (.cons (.s _ _) (.cons (.s _ _) (.cons (.s _ _) (.cons (.s _ _) (.cons (.s _ _) (.cons (.s _ _) (.cons (.s _ _) (.cons (.s _ _) (.cons (.s _ _) (.cons (.s _ _) (.cons (.s _ _) (.cons (.s _ _) (.cons (.s _ _) (.cons (.s _ _) (.cons (.s _ _) (.cons (.s _ _) (.cons (.s _ _) (.cons (.s _ _) (.cons (.s _ _) (.cons (.s _ _) (.cons (.s _ _) (.cons (.s _ _) (.cons (.s _ _) (.cons (.s _ _) (.cons (.s _ _) (.nil)))))))))))))))))))))))))))))))))
namespace Kk
def rot (x k : Nat) : Nat := (x * 2 ^ k % 18446744073709551616) ||| (x / 2 ^ (64 - k))
def nt (x : Nat) : Nat := 18446744073709551615 ^^^ x
def turn : List Nat := [0, 1, 62, 28, 27, 36, 44, 6, 55, 20, 3, 10, 43, 25, 39, 41, 45, 15, 21, 8, 18, 2, 61, 56, 14]
def rcs : List Nat := [1, 32898, 9223372036854808714, 9223372039002292224, 32907, 2147483649, 9223372039002292353, 9223372036854808585, 138, 136, 2147516425, 2147483658, 2147516555, 9223372036854775947, 9223372036854808713, 9223372036854808579, 9223372036854808578, 9223372036854775936, 32778, 9223372039002259466, 9223372039002292353, 9223372036854808704, 2147483649, 9223372039002292232]
def cc (a : Nat → Nat) (x : Nat) : Nat := a x ^^^ a (x + 5) ^^^ a (x + 10) ^^^ a (x + 15) ^^^ a (x + 20)
def rr (a : Nat → Nat) (x : Nat) : Nat := rot (cc a x) 1
def a1 (a : Nat → Nat) (q : Nat) : Nat := a q ^^^ (cc a ((q % 5 + 4) % 5) ^^^ rr a ((q % 5 + 1) % 5))
def src (p : Nat) : Nat := (3 * (p / 5) + p % 5) % 5 + 5 * (p % 5)
def bb (a : Nat → Nat) (p : Nat) : Nat := rot (a1 a (src p)) (turn.getD (src p) 0)
def ch (b : Nat → Nat) (p : Nat) : Nat := b p ^^^ (nt (b ((p % 5 + 1) % 5 + 5 * (p / 5))) &&& b ((p % 5 + 2) % 5 + 5 * (p / 5)))
def rnd (rc : Nat) (a : Nat → Nat) (p : Nat) : Nat := if p = 0 then ch (bb a) 0 ^^^ rc else ch (bb a) p
def st (a : Nat → Nat) : Nat → Nat → Nat
 | 0 => a
 | i + 1 => rnd (rcs.getD i 0) (st a i)
theorem xor_lt {x y : Nat} (hx : x < 18446744073709551616) (hy : y < 18446744073709551616) : x ^^^ y < 18446744073709551616 := by
 have := Nat.xor_lt_two_pow (n := 64) (x := x) (y := y) (by simpa using hx) (by simpa using hy)
 simpa using this
theorem or_lt {x y : Nat} (hx : x < 18446744073709551616) (hy : y < 18446744073709551616) : x ||| y < 18446744073709551616 := by
 have := Nat.or_lt_two_pow (n := 64) (x := x) (y := y) (by simpa using hx) (by simpa using hy)
 simpa using this
theorem and_lt {x y : Nat} (hx : x < 18446744073709551616) : x &&& y < 18446744073709551616 := Nat.lt_of_le_of_lt Nat.and_le_left hx
theorem nt_lt {x : Nat} (hx : x < 18446744073709551616) : nt x < 18446744073709551616 := xor_lt (by decide) hx
theorem rot_lt {x k : Nat} (hx : x < 18446744073709551616) : rot x k < 18446744073709551616 := or_lt (Nat.mod_lt _ (by decide)) (Nat.lt_of_le_of_lt (Nat.div_le_self _ _) hx)
theorem cc_lt {a : Nat → Nat} (h : ∀ p, p < 25 → a p < 18446744073709551616) (x : Nat) (hx : x < 5) : cc a x < 18446744073709551616 :=
 xor_lt (xor_lt (xor_lt (xor_lt (h _ (by omega)) (h _ (by omega))) (h _ (by omega))) (h _ (by omega))) (h _ (by omega))
theorem a1_lt {a : Nat → Nat} (h : ∀ p, p < 25 → a p < 18446744073709551616) (q : Nat) (hq : q < 25) : a1 a q < 18446744073709551616 :=
 xor_lt (h _ hq) (xor_lt (cc_lt h _ (Nat.mod_lt _ (by decide))) (rot_lt (cc_lt h _ (Nat.mod_lt _ (by decide)))))
theorem src_lt (p : Nat) : src p < 25 := by unfold src; omega
theorem bb_lt {a : Nat → Nat} (h : ∀ p, p < 25 → a p < 18446744073709551616) (p : Nat) : bb a p < 18446744073709551616 := rot_lt (a1_lt h _ (src_lt p))
theorem ch_lt {b : Nat → Nat} (h : ∀ p, b p < 18446744073709551616) (p : Nat) : ch b p < 18446744073709551616 := xor_lt (h _) (and_lt (nt_lt (h _)))
theorem rc_lt (i : Nat) (hi : i < 24) : rcs.getD i 0 < 18446744073709551616 := by
 have : ∀ i, i < 24 → rcs.getD i 0 < 18446744073709551616 := by decide
 exact this i hi
theorem rnd_lt {rc : Nat} (hr : rc < 18446744073709551616) {a : Nat → Nat} (h : ∀ p, p < 25 → a p < 18446744073709551616) (p : Nat) : rnd rc a p < 18446744073709551616 := by
 unfold rnd
 split
 . exact xor_lt (ch_lt (bb_lt h) _) hr
 . exact ch_lt (bb_lt h) _
theorem st_lt {a : Nat → Nat} (h : ∀ p, p < 25 → a p < 18446744073709551616) : ∀ i, i ≤ 24 → ∀ p, p < 25 → st a i p < 18446744073709551616
 | 0, _, p, hp => h p hp
 | i + 1, hi, p, _ => rnd_lt (rc_lt i (by omega)) (st_lt h i (by omega)) p
def pad (f : Nat → Nat) (n j : Nat) : Nat := if j < n then f j else if j = n then (if j = 135 then 129 else 1) else if j = 135 then 128 else 0
def lane (g : Nat → Nat) (i : Nat) : Nat := if i < 17 then ((((((((g (8 * i + 7)) * 256 + g (8 * i + 6)) * 256 + g (8 * i + 5)) * 256 + g (8 * i + 4)) * 256 + g (8 * i + 3)) * 256 + g (8 * i + 2)) * 256 + g (8 * i + 1)) * 256 + g (8 * i)) else 0
theorem lane_lt {g : Nat → Nat} (h : ∀ j, g j < 256) (i : Nat) : lane g i < 18446744073709551616 := by
 unfold lane
 split
 . have h0 := h (8 * i); have h1 := h (8 * i + 1); have h2 := h (8 * i + 2); have h3 := h (8 * i + 3)
   have h4 := h (8 * i + 4); have h5 := h (8 * i + 5); have h6 := h (8 * i + 6); have h7 := h (8 * i + 7)
   omega
 . decide
theorem pad_lt {f : Nat → Nat} (h : ∀ j, f j < 256) (n j : Nat) : pad f n j < 256 := by
 unfold pad
 have := h j
 repeat' split
 all_goals omega
def hash (f : Nat → Nat) (n j : Nat) : Nat := st (lane (pad f n)) 24 (j / 8) / 2 ^ (8 * (j % 8)) % 256
theorem u_xor (a b : Nat) (ha : a < 18446744073709551616) (hb : b < 18446744073709551616) : rbin .xor .u64 (Int.ofNat a) (Int.ofNat b) = Int.ofNat (a ^^^ b) := by
 show IntKind.u64.wrap (((BitVec.ofInt IntKind.u64.bits (Int.ofNat a) ^^^ BitVec.ofInt IntKind.u64.bits (Int.ofNat b)).toNat : Nat) : Int) = _
 have h : (BitVec.ofInt IntKind.u64.bits (Int.ofNat a) ^^^ BitVec.ofInt IntKind.u64.bits (Int.ofNat b)).toNat = a ^^^ b := by
   rw [BitVec.toNat_xor]
   show (BitVec.ofInt 64 (Int.ofNat a)).toNat ^^^ (BitVec.ofInt 64 (Int.ofNat b)).toNat = _
   rw [bv_nat, bv_nat, Nat.mod_eq_of_lt ha, Nat.mod_eq_of_lt hb]
 rw [h, wrap_u64]
 have := xor_lt ha hb
 simp only [Int.ofNat_eq_natCast]
 omega
theorem u_not (a : Nat) (ha : a < 18446744073709551616) : run1 .xor .u64 (Int.ofNat a) = Int.ofNat (nt a) := by
 show rbin .xor .u64 (IntKind.max .u64) (Int.ofNat a) = _
 exact u_xor 18446744073709551615 a (by decide) ha
theorem rot_bin (x k : Nat) (hx : x < 18446744073709551616) (hk : k < 64) : rbin .or .u64 (rbin .shl .u64 (Int.ofNat x) (Int.ofNat k)) (rbin .shr .u64 (Int.ofNat x) (Int.ofNat (64 - k))) = Int.ofNat (rot x k) := by
 rw [u_shl x k (by omega), u_shr x (64 - k) (by omega)]
 exact u_or _ _ (Nat.mod_lt _ (by decide)) (Nat.lt_of_le_of_lt (Nat.div_le_self _ _) hx)
end Kk
def LM : Nat → Nat := fun _ => 200
theorem rotS (x k : Nat) (hx : x < 18446744073709551616) (hk : k < 64) : Sp 111 [.s .u64 (x : Int), .s .i64 (k : Int)] (.s .u64 ((Kk.rot x k : Nat) : Int)) := by
 obtain ⟨xi, hxi⟩ : ∃ z : Int, z = (x : Int) := ⟨_, rfl⟩
 obtain ⟨ki, hki⟩ : ∃ z : Int, z = (k : Int) := ⟨_, rfl⟩
 obtain ⟨ri, hri⟩ : ∃ z : Int, z = ((Kk.rot x k : Nat) : Int) := ⟨_, rfl⟩
 rw [← hxi, ← hki, ← hri]
 have f1 : IntKind.u64.wrap ki = ki := by rw [wrap_u64, hki]; omega
 have f2 : rbin .and .u64 ki 63 = ki := by
   rw [hki]
   have := u_mask k 6 (by decide) (by omega)
   exact this.trans (congrArg Int.ofNat (Nat.mod_eq_of_lt (by omega)))
 have f3 : rbin .sub .u64 64 ki = ((64 - k : Nat) : Int) := by
   rw [hki]
   exact (u_sub 64 k (by omega)).trans (congrArg Int.ofNat (by omega))
 have g : ∀ A : Ar, A = Ar.real → A.okb .shl (A.bin .and .u64 (A.wrap .u64 ki) 63) = true ∧ A.okb .shr (A.bin .sub .u64 64 (A.bin .and .u64 (A.wrap .u64 ki) 63)) = true ∧
     A.bin .or .u64 (A.bin .shl .u64 xi (A.bin .and .u64 (A.wrap .u64 ki) 63)) (A.bin .shr .u64 xi (A.bin .sub .u64 64 (A.bin .and .u64 (A.wrap .u64 ki) 63))) = ri := by
   intro A hA
   subst hA
   show rokb .shl (rbin .and .u64 (IntKind.u64.wrap ki) 63) = true ∧ rokb .shr (rbin .sub .u64 64 (rbin .and .u64 (IntKind.u64.wrap ki) 63)) = true ∧
     rbin .or .u64 (rbin .shl .u64 xi (rbin .and .u64 (IntKind.u64.wrap ki) 63)) (rbin .shr .u64 xi (rbin .sub .u64 64 (rbin .and .u64 (IntKind.u64.wrap ki) 63))) = ri
   rw [f1, f2, f3, hki, hxi, hri]
   refine ⟨?_, ?_, Kk.rot_bin x k hx hk⟩
   . show (!(decide ((k : Int) < 0))) = true
     rw [decide_eq_false (by omega)]; rfl
   . show (!(decide (((64 - k : Nat) : Int) < 0))) = true
     rw [decide_eq_false (by omega)]; rfl
 clear f1 f2 f3 hki hxi hri
 refine mk Try.func111 rfl rfl L0 R1 (by decide +kernel) fun A S hA hS => ?_
 obtain ⟨g1, g2, g3⟩ := g A hA
 unfold bodyOf Try.f111
 cbv
 refine .mk g1 ?_
 cbv
 refine .mk g2 ?_
 cbv
 exact g3
theorem offsetsS : Sp 88 [] (.agg [.i .i64 0, .i .i64 1, .i .i64 62, .i .i64 28, .i .i64 27, .i .i64 36, .i .i64 44, .i .i64 6, .i .i64 55, .i .i64 20, .i .i64 3, .i .i64 10, .i .i64 43, .i .i64 25, .i .i64 39, .i .i64 41, .i .i64 45, .i .i64 15, .i .i64 21, .i .i64 8, .i .i64 18, .i .i64 2, .i .i64 61, .i .i64 56, .i .i64 14]) := by
 refine mk Try.func88 rfl rfl LM R0 (by decide +kernel) fun A S hA hS => ?_
 unfold bodyOf Try.f88
 cbv
end Go.Proofs.Ytkhipnhdbaahcaa
end
