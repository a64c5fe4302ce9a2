import Derived.Test.YtmholgclgamnnaaGreatQXCK
set_option linter.unusedVariables false
set_option linter.unusedSimpArgs false
set_option linter.unusedSectionVars false
set_option maxRecDepth 100000
set_option exponentiation.threshold 2000
set_option maxHeartbeats 4000000
section
namespace Go.Proofs.YtmholgclgamnnaaGreat
open Go Eng
section
variable {p : Nat} [NeZero p]
def good1 (b : Fin p) (P : PtA) : Nat :=
 if P.inf = true then (if P.x = 0 ∧ P.y = 0 then 0 else 70) else if P.x < p ∧ P.y < p then (if fo p P.y * fo p P.y = fo p P.x * fo p P.x * fo p P.x + b then 0 else 71) else 70
def good2 (b : Cv.F2 p) (P : PtB) : Nat :=
 if P.inf = true then (if (P.xa = 0 ∧ P.xb = 0) ∧ P.ya = 0 ∧ P.yb = 0 then 0 else 70) else if P.xa < p ∧ P.xb < p ∧ P.ya < p ∧ P.yb < p then
   (if (Cv.ops2 Cv.inv2).mul ⟨fo p P.ya, fo p P.yb⟩ ⟨fo p P.ya, fo p P.yb⟩ = (Cv.ops2 Cv.inv2).add ((Cv.ops2 Cv.inv2).mul ((Cv.ops2 Cv.inv2).mul ⟨fo p P.xa, fo p P.xb⟩ ⟨fo p P.xa, fo p P.xb⟩) ⟨fo p P.xa, fo p P.xb⟩) b then 0 else 71) else 70
theorem good1S4 {H : H5} (hH : H = H5.real) (hp : PrM 256 p) (c : Cu p) (P : PtA) (hx : P.x < 2 ^ 256) (hy : P.y < 2 ^ 256) : Sp 31 [.ref (Cc4 H c) 0, P1_4 H P] (.s .i64 (good1 c.b1 P : Nat)) := by
 obtain ⟨x, y, inf⟩ := P
 dsimp only at hx hy
 have his := CisS4 (H := H) c
 have hmo := ModulusS4 (H := H) p
 have z1 := fun A hA => nz4 (A := A) hA hH hx
 have z2 := fun A hA => nz4 (A := A) hA hH hy
 have l1 := LessS4 hH x p hx hp.lt
 have l2 := LessS4 hH y p hy hp.lt
 have g1 := inF4 hH hp hx
 have g2 := inF4 hH hp hy
 have ho := onb4 (ok1_4 hH hp) c.b1 (fo p x) (fo p y)
 have hlt : ∀ a b, H.lt a b = decide (a < b) := fun a b => by rw [hH]; rfl
 rw [hlt] at l1 l2
 unfold good1
 dsimp only
 cases inf
 . rw [if_neg (by simp)]
   by_cases h1 : x < p
   . by_cases h2 : y < p
     . rw [if_pos ⟨h1, h2⟩]
       rw [decide_eq_true h1] at l1
       rw [decide_eq_true h2] at l2
       by_cases h3 : fo p y * fo p y = fo p x * fo p x * fo p x + c.b1
       . rw [if_pos h3]
         have h3' : (K1_4 H p).O.mul (fo p y) (fo p y) = (K1_4 H p).O.add ((K1_4 H p).O.mul ((K1_4 H p).O.mul (fo p x) (fo p x)) (fo p x)) c.b1 := h3
         rw [decide_eq_true h3'] at ho
         clear h3 h3'
         generalize fo p x = u at *
         generalize fo p y = v at *
         refine mk Tryz.func31 rfl rfl L0 R1 (by decide +kernel) fun A S hA hS => ?_
         have n1 := i_not hA (rfl : true = true)
         unfold bodyOf Tryz.f31
         cbv
         repeat ((first | refine ABr.t (by first | assumption | rfl) ?_ | refine ABr.f (by first | assumption | rfl) ?_ | refine aF hS his ?_ | refine aF hS hmo ?_ | refine aF hS l1 ?_ | refine aF hS l2 ?_ | refine aF hS g1 ?_ | refine aF hS g2 ?_ | refine aF hS ho ?_); cbv)
       . rw [if_neg h3]
         have h3' : ¬ (K1_4 H p).O.mul (fo p y) (fo p y) = (K1_4 H p).O.add ((K1_4 H p).O.mul ((K1_4 H p).O.mul (fo p x) (fo p x)) (fo p x)) c.b1 := h3
         rw [decide_eq_false h3'] at ho
         clear h3 h3'
         generalize fo p x = u at *
         generalize fo p y = v at *
         refine mk Tryz.func31 rfl rfl L0 R1 (by decide +kernel) fun A S hA hS => ?_
         have n1 := i_not hA (rfl : true = true)
         have n2 := i_not hA (rfl : false = false)
         unfold bodyOf Tryz.f31
         cbv
         repeat ((first | refine ABr.t (by first | assumption | rfl) ?_ | refine ABr.f (by first | assumption | rfl) ?_ | refine aF hS his ?_ | refine aF hS hmo ?_ | refine aF hS l1 ?_ | refine aF hS l2 ?_ | refine aF hS g1 ?_ | refine aF hS g2 ?_ | refine aF hS ho ?_); cbv)
     . rw [if_neg (fun h => h2 h.2)]
       rw [decide_eq_true h1] at l1
       rw [decide_eq_false h2] at l2
       clear ho g1 g2
       refine mk Tryz.func31 rfl rfl L0 R1 (by decide +kernel) fun A S hA hS => ?_
       have n1 := i_not hA (rfl : true = true)
       have n2 := i_not hA (rfl : false = false)
       unfold bodyOf Tryz.f31
       cbv
       repeat ((first | refine ABr.t (by first | assumption | rfl) ?_ | refine ABr.f (by first | assumption | rfl) ?_ | refine aF hS his ?_ | refine aF hS hmo ?_ | refine aF hS l1 ?_ | refine aF hS l2 ?_); cbv)
   . rw [if_neg (fun h => h1 h.1)]
     rw [decide_eq_false h1] at l1
     clear ho g1 g2
     refine mk Tryz.func31 rfl rfl L0 R1 (by decide +kernel) fun A S hA hS => ?_
     have n2 := i_not hA (rfl : false = false)
     unfold bodyOf Tryz.f31
     cbv
     repeat ((first | refine ABr.t (by first | assumption | rfl) ?_ | refine ABr.f (by first | assumption | rfl) ?_ | refine aF hS his ?_ | refine aF hS hmo ?_ | refine aF hS l1 ?_); cbv)
 . rw [if_pos rfl]
   clear ho g1 g2 l1 l2
   by_cases h1 : x = 0
   . by_cases h2 : y = 0
     . rw [if_pos ⟨h1, h2⟩]
       refine mk Tryz.func31 rfl rfl L0 R1 (by decide +kernel) fun A S hA hS => ?_
       have n1 := i_not hA ((z1 A hA).trans (decide_eq_true h1))
       have n2 := i_not hA ((z2 A hA).trans (decide_eq_true h2))
       clear z1 z2 h1 h2
       unfold bodyOf Tryz.f31
       cbv
       repeat ((first | refine ABr.t (by first | assumption | rfl) ?_ | refine ABr.f (by first | assumption | rfl) ?_ | refine aF hS his ?_ | refine aF hS hmo ?_); cbv)
     . rw [if_neg (fun h => h2 h.2)]
       refine mk Tryz.func31 rfl rfl L0 R1 (by decide +kernel) fun A S hA hS => ?_
       have n1 := i_not hA ((z1 A hA).trans (decide_eq_true h1))
       have n2 := i_not hA ((z2 A hA).trans (decide_eq_false h2))
       clear z1 z2 h1 h2
       unfold bodyOf Tryz.f31
       cbv
       repeat ((first | refine ABr.t (by first | assumption | rfl) ?_ | refine ABr.f (by first | assumption | rfl) ?_ | refine aF hS his ?_ | refine aF hS hmo ?_); cbv)
   . rw [if_neg (fun h => h1 h.1)]
     refine mk Tryz.func31 rfl rfl L0 R1 (by decide +kernel) fun A S hA hS => ?_
     have n1 := i_not hA ((z1 A hA).trans (decide_eq_false h1))
     clear z1 z2 h1
     unfold bodyOf Tryz.f31
     cbv
     repeat ((first | refine ABr.t (by first | assumption | rfl) ?_ | refine ABr.f (by first | assumption | rfl) ?_ | refine aF hS his ?_ | refine aF hS hmo ?_); cbv)
theorem nz24 {A : Ar} (hA : A = Ar.real) {H : H5} (hH : H = H5.real) {a b : Nat} (ha : a < 2 ^ 256) (hb : b < 2 ^ 256) : A.eqs [(.s .u64 (H.lim a 0), .i .u64 0), (.s .u64 (H.lim a 1), .i .u64 0), (.s .u64 (H.lim a 2), .i .u64 0), (.s .u64 (H.lim a 3), .i .u64 0), (.s .u64 (H.lim b 0), .i .u64 0), (.s .u64 (H.lim b 1), .i .u64 0), (.s .u64 (H.lim b 2), .i .u64 0), (.s .u64 (H.lim b 3), .i .u64 0)] = decide (a = 0 ∧ b = 0) := by
 have h0 : ∀ x : Int, leafEq (.s .u64 x, .i .u64 0) = (x == 0) := fun x => rfl
 have l0 := lim04 hH
 refine eqs_dec hA ⟨fun h => ?_, fun h => ?_⟩
 . simp only [List.all_cons, List.all_nil, h0, beq_iff_eq, Bool.and_eq_true, and_true] at h
   obtain ⟨h0, h1, h2, h3, h4, h5, h6, h7⟩ := h
   exact ⟨lim_inj4 (H5.hlim hH) ha (by decide) ⟨h0.trans (l0 0).symm, h1.trans (l0 1).symm, h2.trans (l0 2).symm, h3.trans (l0 3).symm⟩, lim_inj4 (H5.hlim hH) hb (by decide) ⟨h4.trans (l0 _).symm, h5.trans (l0 _).symm, h6.trans (l0 _).symm, h7.trans (l0 _).symm⟩⟩
 . obtain ⟨rfl, rfl⟩ := h
   simp only [List.all_cons, List.all_nil, h0, beq_iff_eq, Bool.and_eq_true, and_true]
   exact ⟨l0 0, l0 1, l0 2, l0 3, l0 0, l0 1, l0 2, l0 3⟩
theorem good2S4 {H : H5} (hH : H = H5.real) (hp : PrM 256 p) (c : Cu p) (P : PtB) (hxa : P.xa < 2 ^ 256) (hxb : P.xb < 2 ^ 256) (hya : P.ya < 2 ^ 256) (hyb : P.yb < 2 ^ 256) : Sp 59 [.ref (Cc4 H c) 0, P2_4 H P] (.s .i64 (good2 c.b2 P : Nat)) := by
 obtain ⟨xa, xb, ya, yb, inf⟩ := P
 dsimp only at hxa hxb hya hyb
 have his := CisS4 (H := H) c
 have hmo := ModulusS4 (H := H) p
 have z1 := fun A hA => nz24 (A := A) hA hH hxa hxb
 have z2 := fun A hA => nz24 (A := A) hA hH hya hyb
 have l1 := LessS4 hH xa p hxa hp.lt
 have l2 := LessS4 hH xb p hxb hp.lt
 have l3 := LessS4 hH ya p hya hp.lt
 have l4 := LessS4 hH yb p hyb hp.lt
 have g1 := in2S4 hH hp c hxa hxb
 have g2 := in2S4 hH hp c hya hyb
 have ho := ont4 (ok2_4 hH hp) c.b2 ⟨fo p xa, fo p xb⟩ ⟨fo p ya, fo p yb⟩
 have hlt : ∀ a b, H.lt a b = decide (a < b) := fun a b => by rw [hH]; rfl
 rw [hlt] at l1 l2 l3 l4
 unfold good2
 dsimp only
 cases inf
 . rw [if_neg (by simp)]
   by_cases h1 : xa < p
   . by_cases h2 : xb < p
     . by_cases h3 : ya < p
       . by_cases h4 : yb < p
         . rw [if_pos ⟨h1, h2, h3, h4⟩]
           rw [decide_eq_true h1] at l1
           rw [decide_eq_true h2] at l2
           rw [decide_eq_true h3] at l3
           rw [decide_eq_true h4] at l4
           split
           . rename_i h5
             have h5' : (K2_4 H p).O.mul ⟨fo p ya, fo p yb⟩ ⟨fo p ya, fo p yb⟩ = (K2_4 H p).O.add ((K2_4 H p).O.mul ((K2_4 H p).O.mul ⟨fo p xa, fo p xb⟩ ⟨fo p xa, fo p xb⟩) ⟨fo p xa, fo p xb⟩) c.b2 := h5
             rw [decide_eq_true h5'] at ho
             clear h5 h5'
             generalize fo p xa = u at *
             generalize fo p ya = v at *
             generalize fo p xb = u' at *
             generalize fo p yb = v' at *
             refine mk Tryz.func59 rfl rfl L0 R1 (by decide +kernel) fun A S hA hS => ?_
             have n1 := i_not hA (rfl : true = true)
             unfold bodyOf Tryz.f59
             cbv
             repeat ((first | refine ABr.t (by first | assumption | rfl) ?_ | refine ABr.f (by first | assumption | rfl) ?_ | refine aF hS his ?_ | refine aF hS hmo ?_ | refine aF hS l1 ?_ | refine aF hS l2 ?_ | refine aF hS l3 ?_ | refine aF hS l4 ?_ | refine aF hS g1 ?_ | refine aF hS g2 ?_ | refine aF hS ho ?_); cbv)
           . rename_i h5
             have h5' : ¬ (K2_4 H p).O.mul ⟨fo p ya, fo p yb⟩ ⟨fo p ya, fo p yb⟩ = (K2_4 H p).O.add ((K2_4 H p).O.mul ((K2_4 H p).O.mul ⟨fo p xa, fo p xb⟩ ⟨fo p xa, fo p xb⟩) ⟨fo p xa, fo p xb⟩) c.b2 := h5
             rw [decide_eq_false h5'] at ho
             clear h5 h5'
             generalize fo p xa = u at *
             generalize fo p ya = v at *
             generalize fo p xb = u' at *
             generalize fo p yb = v' at *
             refine mk Tryz.func59 rfl rfl L0 R1 (by decide +kernel) fun A S hA hS => ?_
             have n1 := i_not hA (rfl : true = true)
             have n2 := i_not hA (rfl : false = false)
             unfold bodyOf Tryz.f59
             cbv
             repeat ((first | refine ABr.t (by first | assumption | rfl) ?_ | refine ABr.f (by first | assumption | rfl) ?_ | refine aF hS his ?_ | refine aF hS hmo ?_ | refine aF hS l1 ?_ | refine aF hS l2 ?_ | refine aF hS l3 ?_ | refine aF hS l4 ?_ | refine aF hS g1 ?_ | refine aF hS g2 ?_ | refine aF hS ho ?_); cbv)
         . rw [if_neg (fun h => h4 h.2.2.2)]
           rw [decide_eq_true h1] at l1
           rw [decide_eq_true h2] at l2
           rw [decide_eq_true h3] at l3
           rw [decide_eq_false h4] at l4
           clear ho g1 g2
           refine mk Tryz.func59 rfl rfl L0 R1 (by decide +kernel) fun A S hA hS => ?_
           have n1 := i_not hA (rfl : true = true)
           have n2 := i_not hA (rfl : false = false)
           unfold bodyOf Tryz.f59
           cbv
           repeat ((first | refine ABr.t (by first | assumption | rfl) ?_ | refine ABr.f (by first | assumption | rfl) ?_ | refine aF hS his ?_ | refine aF hS hmo ?_ | refine aF hS l1 ?_ | refine aF hS l2 ?_ | refine aF hS l3 ?_ | refine aF hS l4 ?_); cbv)
       . rw [if_neg (fun h => h3 h.2.2.1)]
         rw [decide_eq_true h1] at l1
         rw [decide_eq_true h2] at l2
         rw [decide_eq_false h3] at l3
         clear ho g1 g2
         refine mk Tryz.func59 rfl rfl L0 R1 (by decide +kernel) fun A S hA hS => ?_
         have n1 := i_not hA (rfl : true = true)
         have n2 := i_not hA (rfl : false = false)
         unfold bodyOf Tryz.f59
         cbv
         repeat ((first | refine ABr.t (by first | assumption | rfl) ?_ | refine ABr.f (by first | assumption | rfl) ?_ | refine aF hS his ?_ | refine aF hS hmo ?_ | refine aF hS l1 ?_ | refine aF hS l2 ?_ | refine aF hS l3 ?_); cbv)
     . rw [if_neg (fun h => h2 h.2.1)]
       rw [decide_eq_true h1] at l1
       rw [decide_eq_false h2] at l2
       clear ho g1 g2
       refine mk Tryz.func59 rfl rfl L0 R1 (by decide +kernel) fun A S hA hS => ?_
       have n1 := i_not hA (rfl : true = true)
       have n2 := i_not hA (rfl : false = false)
       unfold bodyOf Tryz.f59
       cbv
       repeat ((first | refine ABr.t (by first | assumption | rfl) ?_ | refine ABr.f (by first | assumption | rfl) ?_ | refine aF hS his ?_ | refine aF hS hmo ?_ | refine aF hS l1 ?_ | refine aF hS l2 ?_); cbv)
   . rw [if_neg (fun h => h1 h.1)]
     rw [decide_eq_false h1] at l1
     clear ho g1 g2
     refine mk Tryz.func59 rfl rfl L0 R1 (by decide +kernel) fun A S hA hS => ?_
     have n2 := i_not hA (rfl : false = false)
     unfold bodyOf Tryz.f59
     cbv
     repeat ((first | refine ABr.t (by first | assumption | rfl) ?_ | refine ABr.f (by first | assumption | rfl) ?_ | refine aF hS his ?_ | refine aF hS hmo ?_ | refine aF hS l1 ?_); cbv)
 . rw [if_pos rfl]
   clear ho g1 g2 l1 l2 l3 l4
   by_cases h1 : xa = 0 ∧ xb = 0
   . by_cases h2 : ya = 0 ∧ yb = 0
     . rw [if_pos ⟨h1, h2⟩]
       refine mk Tryz.func59 rfl rfl L0 R1 (by decide +kernel) fun A S hA hS => ?_
       have n1 := i_not hA ((z1 A hA).trans (decide_eq_true h1))
       have n2 := i_not hA ((z2 A hA).trans (decide_eq_true h2))
       clear z1 z2 h1 h2
       unfold bodyOf Tryz.f59
       cbv
       repeat ((first | refine ABr.t (by first | assumption | rfl) ?_ | refine ABr.f (by first | assumption | rfl) ?_ | refine aF hS his ?_ | refine aF hS hmo ?_); cbv)
     . rw [if_neg (fun h => h2 h.2)]
       refine mk Tryz.func59 rfl rfl L0 R1 (by decide +kernel) fun A S hA hS => ?_
       have n1 := i_not hA ((z1 A hA).trans (decide_eq_true h1))
       have n2 := i_not hA ((z2 A hA).trans (decide_eq_false h2))
       clear z1 z2 h1 h2
       unfold bodyOf Tryz.f59
       cbv
       repeat ((first | refine ABr.t (by first | assumption | rfl) ?_ | refine ABr.f (by first | assumption | rfl) ?_ | refine aF hS his ?_ | refine aF hS hmo ?_); cbv)
   . rw [if_neg (fun h => h1 h.1)]
     refine mk Tryz.func59 rfl rfl L0 R1 (by decide +kernel) fun A S hA hS => ?_
     have n1 := i_not hA ((z1 A hA).trans (decide_eq_false h1))
     clear z1 z2 h1
     unfold bodyOf Tryz.f59
     cbv
     repeat ((first | refine ABr.t (by first | assumption | rfl) ?_ | refine ABr.f (by first | assumption | rfl) ?_ | refine aF hS his ?_ | refine aF hS hmo ?_); cbv)
theorem good1S6 {H : H5} (hH : H = H5.real) (hp : PrM 384 p) (c : Cu p) (P : PtA) (hx : P.x < 2 ^ 384) (hy : P.y < 2 ^ 384) : Sp 18 [.ref (Cc6 H c) 0, P1_6 H P] (.s .i64 (good1 c.b1 P : Nat)) := by
 obtain ⟨x, y, inf⟩ := P
 dsimp only at hx hy
 have his := CisS6 (H := H) c
 have hmo := ModulusS6 (H := H) p
 have z1 := fun A hA => nz6 (A := A) hA hH hx
 have z2 := fun A hA => nz6 (A := A) hA hH hy
 have l1 := LessS6 hH x p hx hp.lt
 have l2 := LessS6 hH y p hy hp.lt
 have g1 := inF6 hH hp hx
 have g2 := inF6 hH hp hy
 have ho := onb6 (ok1_6 hH hp) c.b1 (fo p x) (fo p y)
 have hlt : ∀ a b, H.lt a b = decide (a < b) := fun a b => by rw [hH]; rfl
 rw [hlt] at l1 l2
 unfold good1
 dsimp only
 cases inf
 . rw [if_neg (by simp)]
   by_cases h1 : x < p
   . by_cases h2 : y < p
     . rw [if_pos ⟨h1, h2⟩]
       rw [decide_eq_true h1] at l1
       rw [decide_eq_true h2] at l2
       by_cases h3 : fo p y * fo p y = fo p x * fo p x * fo p x + c.b1
       . rw [if_pos h3]
         have h3' : (K1_6 H p).O.mul (fo p y) (fo p y) = (K1_6 H p).O.add ((K1_6 H p).O.mul ((K1_6 H p).O.mul (fo p x) (fo p x)) (fo p x)) c.b1 := h3
         rw [decide_eq_true h3'] at ho
         clear h3 h3'
         generalize fo p x = u at *
         generalize fo p y = v at *
         refine mk Tryz.func18 rfl rfl L0 R1 (by decide +kernel) fun A S hA hS => ?_
         have n1 := i_not hA (rfl : true = true)
         unfold bodyOf Tryz.f18
         cbv
         repeat ((first | refine ABr.t (by first | assumption | rfl) ?_ | refine ABr.f (by first | assumption | rfl) ?_ | refine aF hS his ?_ | refine aF hS hmo ?_ | refine aF hS l1 ?_ | refine aF hS l2 ?_ | refine aF hS g1 ?_ | refine aF hS g2 ?_ | refine aF hS ho ?_); cbv)
       . rw [if_neg h3]
         have h3' : ¬ (K1_6 H p).O.mul (fo p y) (fo p y) = (K1_6 H p).O.add ((K1_6 H p).O.mul ((K1_6 H p).O.mul (fo p x) (fo p x)) (fo p x)) c.b1 := h3
         rw [decide_eq_false h3'] at ho
         clear h3 h3'
         generalize fo p x = u at *
         generalize fo p y = v at *
         refine mk Tryz.func18 rfl rfl L0 R1 (by decide +kernel) fun A S hA hS => ?_
         have n1 := i_not hA (rfl : true = true)
         have n2 := i_not hA (rfl : false = false)
         unfold bodyOf Tryz.f18
         cbv
         repeat ((first | refine ABr.t (by first | assumption | rfl) ?_ | refine ABr.f (by first | assumption | rfl) ?_ | refine aF hS his ?_ | refine aF hS hmo ?_ | refine aF hS l1 ?_ | refine aF hS l2 ?_ | refine aF hS g1 ?_ | refine aF hS g2 ?_ | refine aF hS ho ?_); cbv)
     . rw [if_neg (fun h => h2 h.2)]
       rw [decide_eq_true h1] at l1
       rw [decide_eq_false h2] at l2
       clear ho g1 g2
       refine mk Tryz.func18 rfl rfl L0 R1 (by decide +kernel) fun A S hA hS => ?_
       have n1 := i_not hA (rfl : true = true)
       have n2 := i_not hA (rfl : false = false)
       unfold bodyOf Tryz.f18
       cbv
       repeat ((first | refine ABr.t (by first | assumption | rfl) ?_ | refine ABr.f (by first | assumption | rfl) ?_ | refine aF hS his ?_ | refine aF hS hmo ?_ | refine aF hS l1 ?_ | refine aF hS l2 ?_); cbv)
   . rw [if_neg (fun h => h1 h.1)]
     rw [decide_eq_false h1] at l1
     clear ho g1 g2
     refine mk Tryz.func18 rfl rfl L0 R1 (by decide +kernel) fun A S hA hS => ?_
     have n2 := i_not hA (rfl : false = false)
     unfold bodyOf Tryz.f18
     cbv
     repeat ((first | refine ABr.t (by first | assumption | rfl) ?_ | refine ABr.f (by first | assumption | rfl) ?_ | refine aF hS his ?_ | refine aF hS hmo ?_ | refine aF hS l1 ?_); cbv)
 . rw [if_pos rfl]
   clear ho g1 g2 l1 l2
   by_cases h1 : x = 0
   . by_cases h2 : y = 0
     . rw [if_pos ⟨h1, h2⟩]
       refine mk Tryz.func18 rfl rfl L0 R1 (by decide +kernel) fun A S hA hS => ?_
       have n1 := i_not hA ((z1 A hA).trans (decide_eq_true h1))
       have n2 := i_not hA ((z2 A hA).trans (decide_eq_true h2))
       clear z1 z2 h1 h2
       unfold bodyOf Tryz.f18
       cbv
       repeat ((first | refine ABr.t (by first | assumption | rfl) ?_ | refine ABr.f (by first | assumption | rfl) ?_ | refine aF hS his ?_ | refine aF hS hmo ?_); cbv)
     . rw [if_neg (fun h => h2 h.2)]
       refine mk Tryz.func18 rfl rfl L0 R1 (by decide +kernel) fun A S hA hS => ?_
       have n1 := i_not hA ((z1 A hA).trans (decide_eq_true h1))
       have n2 := i_not hA ((z2 A hA).trans (decide_eq_false h2))
       clear z1 z2 h1 h2
       unfold bodyOf Tryz.f18
       cbv
       repeat ((first | refine ABr.t (by first | assumption | rfl) ?_ | refine ABr.f (by first | assumption | rfl) ?_ | refine aF hS his ?_ | refine aF hS hmo ?_); cbv)
   . rw [if_neg (fun h => h1 h.1)]
     refine mk Tryz.func18 rfl rfl L0 R1 (by decide +kernel) fun A S hA hS => ?_
     have n1 := i_not hA ((z1 A hA).trans (decide_eq_false h1))
     clear z1 z2 h1
     unfold bodyOf Tryz.f18
     cbv
     repeat ((first | refine ABr.t (by first | assumption | rfl) ?_ | refine ABr.f (by first | assumption | rfl) ?_ | refine aF hS his ?_ | refine aF hS hmo ?_); cbv)
end
section
variable {p : Nat} [NeZero p]
theorem one_ne {b : Nat} (hp : PrM b p) : (1 : Fin p) ≠ 0 := fun h => by
 have := congrArg Fin.val h
 rw [Cv.val_one, Cv.val_zero, hp.ne] at this
 omega
def mulP (b : Fin p) (P : PtA) (k : Nat) : PtA × Nat := if good1 b P ≠ 0 then (⟨0, 0, false⟩, good1 b P) else (ofPt (Cv.down (Cv.ops1 Cv.inv1) (Cv.tm (Cv.ops1 Cv.inv1) (Cv.up (Cv.ops1 Cv.inv1) (ptOf p P)) k 256 256)), 0)
def grpP (b : Fin p) (P : PtA) (r : Nat) : Nat := if good1 b P ≠ 0 then good1 b P else if (Cv.tm (Cv.ops1 Cv.inv1) (Cv.up (Cv.ops1 Cv.inv1) (ptOf p P)) r 256 256).z = 0 then 0 else 72
def grpQ (b : Cv.F2 p) (P : PtB) (r : Nat) : Nat := if good2 b P ≠ 0 then good2 b P else if (Cv.tm (Cv.ops2 Cv.inv2) (Cv.up (Cv.ops2 Cv.inv2) (ptOf2 p P)) r 256 256).z = ⟨0, 0⟩ then 0 else 72
theorem infS1_4 {H : H5} (hH : H = H5.real) (c : Cu p) : Sp 114 [.ref (Cc4 H c) 0] (P1_4 H ⟨0, 0, false⟩) := by
 have h := CisS4 (H := H) c
 have l0 := lim04 hH
 refine mk Tryz.func114 rfl rfl L0 R1 (by decide +kernel) fun A S hA hS => ?_
 unfold bodyOf Tryz.f114
 cbv
 refine aF hS h ?_
 cbv
 exact ⟨(l0 0).symm, (l0 1).symm, (l0 2).symm, (l0 3).symm, (l0 0).symm, (l0 1).symm, (l0 2).symm, (l0 3).symm, trivial⟩
theorem mulS1_4 {H : H5} (hH : H = H5.real) (hp : PrM 256 p) {c : Cu p} (h1c : c.one = fo p 1) (P : PtA) (hPx : P.x < 2 ^ 256) (hPy : P.y < 2 ^ 256) (k : Nat) (hk : k < 2 ^ 256) :
   Sp 37 [.ref (Cc4 H c) 0, P1_4 H P, u4 H.lim k] (.tup [P1_4 H (mulP c.b1 P k).1, .s .i64 ((mulP c.b1 P k).2 : Nat)]) := by
 have g1 := good1S4 hH hp c P hPx hPy
 have u1 := up1S4 hH hp h1c P hPx hPy
 have hi := infS1_4 hH c
 have ne := fun A hA x => i_ne (A := A) hA (x := x) (y := 0)
 unfold mulP
 by_cases h1 : good1 c.b1 P = 0
 . rw [if_neg (fun h => h h1)]
   have tm := timesb4 (ok1_4 hH hp) c.b1 (Cv.up (K1_4 H p).O (ptOf p P)) (H5.hlim hH) k hk
   have dn := down1S4 hH hp c (Cv.tm (K1_4 H p).O (Cv.up (K1_4 H p).O (ptOf p P)) k 256 256)
   rw [h1] at g1
   clear h1
   dsimp only
   change Sp _ _ (P1_4 H (ofPt (Cv.down (Cv.ops1 Cv.inv1) (Cv.tm (Cv.ops1 Cv.inv1) (Cv.up (Cv.ops1 Cv.inv1) (ptOf p P)) k 256 256)))) at dn
   generalize ofPt (Cv.down (Cv.ops1 Cv.inv1) (Cv.tm (Cv.ops1 Cv.inv1) (Cv.up (Cv.ops1 Cv.inv1) (ptOf p P)) k 256 256)) = R at *
   generalize Cv.tm (K1_4 H p).O (Cv.up (K1_4 H p).O (ptOf p P)) k 256 256 = j at *
   generalize Cv.up (K1_4 H p).O (ptOf p P) = j1 at *
   refine mk Tryz.func37 rfl rfl L0 R1 (by decide +kernel) fun A S hA hS => ?_
   have e0 : A.cmp .neq ((0 : Nat) : Int) 0 = false := ne A hA _
   unfold bodyOf Tryz.f37
   cbv
   repeat ((first | refine ABr.t (by first | assumption | rfl) ?_ | refine ABr.f (by first | assumption | rfl) ?_ | refine aF hS g1 ?_ | refine aF hS u1 ?_ | refine aF hS tm ?_ | refine aF hS dn ?_); cbv)
 . rw [if_pos h1]
   clear u1
   have h1' : ((good1 c.b1 P : Nat) : Int) ≠ 0 := by omega
   dsimp only
   generalize ((good1 c.b1 P : Nat) : Int) = e at *
   refine mk Tryz.func37 rfl rfl L0 R1 (by decide +kernel) fun A S hA hS => ?_
   have e1 : A.cmp .neq e 0 = true := by rw [ne A hA, decide_eq_false h1']; rfl
   unfold bodyOf Tryz.f37
   cbv
   repeat ((first | refine ABr.t (by first | assumption | rfl) ?_ | refine ABr.f (by first | assumption | rfl) ?_ | refine aF hS g1 ?_ | refine aF hS hi ?_); cbv)
end
section
variable {p : Nat} [NeZero p]
theorem grpS1_6 {H : H5} (hH : H = H5.real) (hp : PrM 384 p) {c : Cu p} (h1c : c.one = fo p 1) (hr : c.r < 2 ^ 256) (P : PtA) (hPx : P.x < 2 ^ 384) (hPy : P.y < 2 ^ 384) :
   Sp 20 [.ref (Cc6 H c) 0, P1_6 H P] (.s .i64 (grpP c.b1 P c.r : Nat)) := by
 have g1 := good1S6 hH hp c P hPx hPy
 have u1 := up1S6 hH hp h1c P hPx hPy
 have ne := fun A hA x => i_ne (A := A) hA (x := x) (y := 0)
 unfold grpP
 by_cases h1 : good1 c.b1 P = 0
 . rw [if_neg (fun h => h h1)]
   have tm := timesb6 (ok1_6 hH hp) c.b1 (Cv.up (K1_6 H p).O (ptOf p P)) (H5.hlim hH) c.r hr
   have hz := fun A hA x => (ok1_6 hH hp).eqz (A := A) hA x
   rw [h1] at g1
   clear h1
   change Sp _ _ (Jb6 (K1_6 H p) (Cv.tm (Cv.ops1 Cv.inv1) (Cv.up (Cv.ops1 Cv.inv1) (ptOf p P)) c.r 256 256)) at tm
   generalize Cv.tm (Cv.ops1 Cv.inv1) (Cv.up (Cv.ops1 Cv.inv1) (ptOf p P)) c.r 256 256 = j at *
   change Sp _ [_, _] (Jb6 (K1_6 H p) (Cv.up (Cv.ops1 Cv.inv1) (ptOf p P))) at u1
   change Sp _ [_, Jb6 (K1_6 H p) (Cv.up (Cv.ops1 Cv.inv1) (ptOf p P)), _] _ at tm
   generalize Cv.up (Cv.ops1 Cv.inv1) (ptOf p P) = j1 at *
   by_cases h2 : j.z = 0
   . rw [if_pos h2]
     refine mk Tryz.func20 rfl rfl L0 R1 (by decide +kernel) fun A S hA hS => ?_
     have e0 : A.cmp .neq ((0 : Nat) : Int) 0 = false := ne A hA _
     have e2 := i_not hA ((hz A hA j.z).trans (decide_eq_true h2))
     unfold bodyOf Tryz.f20
     cbv
     repeat ((first | refine ABr.t (by first | assumption | rfl) ?_ | refine ABr.f (by first | assumption | rfl) ?_ | refine aF hS g1 ?_ | refine aF hS u1 ?_ | refine aF hS tm ?_); cbv)
   . rw [if_neg h2]
     refine mk Tryz.func20 rfl rfl L0 R1 (by decide +kernel) fun A S hA hS => ?_
     have e0 : A.cmp .neq ((0 : Nat) : Int) 0 = false := ne A hA _
     have e2 := i_not hA ((hz A hA j.z).trans (decide_eq_false h2))
     unfold bodyOf Tryz.f20
     cbv
     repeat ((first | refine ABr.t (by first | assumption | rfl) ?_ | refine ABr.f (by first | assumption | rfl) ?_ | refine aF hS g1 ?_ | refine aF hS u1 ?_ | refine aF hS tm ?_); cbv)
 . rw [if_pos h1]
   clear u1
   have h1' : ((good1 c.b1 P : Nat) : Int) ≠ 0 := by omega
   generalize ((good1 c.b1 P : Nat) : Int) = e at *
   refine mk Tryz.func20 rfl rfl L0 R1 (by decide +kernel) fun A S hA hS => ?_
   have e1 : A.cmp .neq e 0 = true := by rw [ne A hA, decide_eq_false h1']; rfl
   unfold bodyOf Tryz.f20
   cbv
   repeat ((first | refine ABr.t (by first | assumption | rfl) ?_ | refine ABr.f (by first | assumption | rfl) ?_ | refine aF hS g1 ?_); cbv)
theorem grpS2_4 {H : H5} (hH : H = H5.real) (hp : PrM 256 p) {c : Cu p} (h1c : c.one = fo p 1) (hr : c.r < 2 ^ 256) (P : PtB) (hPxa : P.xa < 2 ^ 256) (hPxb : P.xb < 2 ^ 256) (hPya : P.ya < 2 ^ 256) (hPyb : P.yb < 2 ^ 256) :
   Sp 51 [.ref (Cc4 H c) 0, P2_4 H P] (.s .i64 (grpQ c.b2 P c.r : Nat)) := by
 have g1 := good2S4 hH hp c P hPxa hPxb hPya hPyb
 have u1 := up2S4 hH hp h1c P hPxa hPxb hPya hPyb
 have ne := fun A hA x => i_ne (A := A) hA (x := x) (y := 0)
 unfold grpQ
 by_cases h1 : good2 c.b2 P = 0
 . rw [if_neg (fun h => h h1)]
   have tm := timest4 (ok2_4 hH hp) c.b2 (Cv.up (K2_4 H p).O (ptOf2 p P)) (H5.hlim hH) c.r hr
   have hz := fun A hA x => (ok2_4 hH hp).eqz (A := A) hA x
   rw [h1] at g1
   clear h1
   change Sp _ _ (Jt4 (K2_4 H p) (Cv.tm (Cv.ops2 Cv.inv2) (Cv.up (Cv.ops2 Cv.inv2) (ptOf2 p P)) c.r 256 256)) at tm
   generalize Cv.tm (Cv.ops2 Cv.inv2) (Cv.up (Cv.ops2 Cv.inv2) (ptOf2 p P)) c.r 256 256 = j at *
   change Sp _ [_, _] (Jt4 (K2_4 H p) (Cv.up (Cv.ops2 Cv.inv2) (ptOf2 p P))) at u1
   change Sp _ [_, Jt4 (K2_4 H p) (Cv.up (Cv.ops2 Cv.inv2) (ptOf2 p P)), _] _ at tm
   generalize Cv.up (Cv.ops2 Cv.inv2) (ptOf2 p P) = j1 at *
   by_cases h2 : j.z = ⟨0, 0⟩
   . rw [if_pos h2]
     refine mk Tryz.func51 rfl rfl L0 R1 (by decide +kernel) fun A S hA hS => ?_
     have e0 : A.cmp .neq ((0 : Nat) : Int) 0 = false := ne A hA _
     have e2 := i_not hA ((hz A hA j.z).trans (decide_eq_true h2))
     unfold bodyOf Tryz.f51
     cbv
     repeat ((first | refine ABr.t (by first | assumption | rfl) ?_ | refine ABr.f (by first | assumption | rfl) ?_ | refine aF hS g1 ?_ | refine aF hS u1 ?_ | refine aF hS tm ?_); cbv)
   . rw [if_neg h2]
     refine mk Tryz.func51 rfl rfl L0 R1 (by decide +kernel) fun A S hA hS => ?_
     have e0 : A.cmp .neq ((0 : Nat) : Int) 0 = false := ne A hA _
     have e2 := i_not hA ((hz A hA j.z).trans (decide_eq_false h2))
     unfold bodyOf Tryz.f51
     cbv
     repeat ((first | refine ABr.t (by first | assumption | rfl) ?_ | refine ABr.f (by first | assumption | rfl) ?_ | refine aF hS g1 ?_ | refine aF hS u1 ?_ | refine aF hS tm ?_); cbv)
 . rw [if_pos h1]
   clear u1
   have h1' : ((good2 c.b2 P : Nat) : Int) ≠ 0 := by omega
   generalize ((good2 c.b2 P : Nat) : Int) = e at *
   refine mk Tryz.func51 rfl rfl L0 R1 (by decide +kernel) fun A S hA hS => ?_
   have e1 : A.cmp .neq e 0 = true := by rw [ne A hA, decide_eq_false h1']; rfl
   unfold bodyOf Tryz.f51
   cbv
   repeat ((first | refine ABr.t (by first | assumption | rfl) ?_ | refine ABr.f (by first | assumption | rfl) ?_ | refine aF hS g1 ?_); cbv)
end
end Go.Proofs.YtmholgclgamnnaaGreat
end
