import Derived.Test.YtmholgclgamnnaaGreatQXDY
set_option linter.unusedVariables false
set_option linter.unusedSectionVars false
set_option linter.unusedSimpArgs false
namespace Go.Proofs.YtmholgclgamnnaaGreat
open Go Eng
set_option maxRecDepth 100000
set_option exponentiation.threshold 2000
set_option maxHeartbeats 4000000
theorem rowb_ok {row : List AVal} {bs : Nat → Nat} {k : Nat} (h : IsRowB row bs k) : (row.length == k && row.all isU8) = true := by
 rw [rowB_eq h]
 simp [isU8]
theorem room_ok {A : Ar} (hA : A = Ar.real) {k : Nat} (hk : k ≤ 140737488355328) : A.room k 1 = true := by rw [hA]; exact decide_eq_true (by omega)
theorem rend_ok {A : Ar} (hA : A = Ar.real) {row : List AVal} {k : Nat} (h : row.length = k) : A.rowend row k 1 = true := by rw [hA]; show (row.length == k * 1) = true; rw [h]; simp
theorem rowb_a {A : Ar} (hA : A = Ar.real) {row : List AVal} {k : Nat} (h : (row.length == k && row.all isU8) = true) : A.rowb row k = true := by rw [hA]; exact h
theorem str_ok {A : Ar} (hA : A = Ar.real) {x y : List AVal} (h : y = x) : A.eqs [(.v (.string (A.str x)), .v (.string (A.str y)))] = true := by rw [h]; exact eqs_str hA _
theorem eq_ff {A : Ar} (hA : A = Ar.real) {u : Int} (h : u ≠ 0) : A.cmp .eql u 0 = false := by rw [i_eq hA, decide_eq_false h]
theorem ne_tt {A : Ar} (hA : A = Ar.real) {u : Int} (h : u ≠ 0) : A.cmp .neq u 0 = true := by rw [i_ne hA, decide_eq_false h]; rfl
theorem lw_reads {H : H5} (hH : H = H5.real) {row1 row2 row3 : List AVal} {bs1 bs2 bs3 : Nat → Nat} {k1 k2 k3 : Nat} (hr1 : IsRowB row1 bs1 k1) (hk1 : k1 ≤ 140737488355328) (hr2 : IsRowB row2 bs2 k2) (hk2 : k2 ≤ 140737488355328) (hr3 : IsRowB row3 bs3 k3) (hk3 : k3 ≤ 140737488355328) :
   Sp 11 [.lst true k1 row1, .lst true k2 row2, .lst true k3 row3] (.sb true) := by
 obtain ⟨B, hB⟩ : ∃ B, B = byteN := ⟨_, rfl⟩
 obtain ⟨c, hc⟩ : ∃ c, c = bnC := ⟨_, rfl⟩
 obtain ⟨d, hd⟩ : ∃ d, d = blsC := ⟨_, rfl⟩
 have aw := awakeS
 have b1 := rBn1S hH hc
 have b2 := rBn2S hH hc
 obtain ⟨P1, e1, rd1, rr1, n1, y1, x1a, x1b⟩ := jn1 hH hB hc hr1 hk1
 obtain ⟨P2, e2, rd2, rr2, n2, y2, x2a, x2b, x2c, x2d⟩ := jn2 hH hB hc hr2 hk2
 obtain ⟨P3, e3, rd3, rr3, n3, y3, x3a, x3b⟩ := jn6 hH hB hd hr3 hk3
 have f1 := from4_1 hH P1 x1a x1b
 have f2 := from4_2 hH P2 x2a x2b x2c x2d
 have f3 := from6_1 hH P3 x3a x3b
 have o1 : Sp 45 [.agg [.lst true 1 [.lst false 4 (ws4 H.lim P1.x)], .lst true 1 [.lst false 4 (ws4 H.lim P1.y)], .sb P1.inf]] _ := Spec.args (of4_1 hH P1 x1a x1b) (by cbv)
 have o2 : Sp 45 [.agg [.lst true 2 [.lst false 4 (ws4 H.lim P2.xa), .lst false 4 (ws4 H.lim P2.xb)], .lst true 2 [.lst false 4 (ws4 H.lim P2.ya), .lst false 4 (ws4 H.lim P2.yb)], .sb P2.inf]] _ := Spec.args (of4_2 hH P2 x2a x2b x2c x2d) (by cbv)
 have o3 : Sp 45 [.agg [.lst true 1 [.lst false 6 (ws6 H.lim P3.x)], .lst true 1 [.lst false 6 (ws6 H.lim P3.y)], .sb P3.inf]] _ := Spec.args (of6_1 hH P3 x3a x3b) (by cbv)
 have w1 := writeBn1S hH hB P1
 have w2 := writeBn2S hH hB P2
 have w3 := writeBls1S hH hB hd P3 x3a x3b
 have rl1 := hr1.1
 have rl2 := hr2.1
 have rl3 := hr3.1
 have rb1 := rowb_ok hr1
 have rb2 := rowb_ok hr2
 have rb3 := rowb_ok hr3
 clear hc hB x1a x1b x2a x2b x2c x2d x3a x3b hr1 hr2 hr3
 cases e1 with
 | zero =>
   have q1 := (y1 rfl).2
   have a1 := ans0S (H := H) P1.x 0 P1.y 0 P1.inf o1
   unfold RdN at rr1
   dsimp only at rr1
   clear y1 n1 o1
   cases e2 with
   | zero =>
     have q2 := (y2 rfl).2
     have a2 := ans0S (H := H) P2.xa P2.xb P2.ya P2.yb P2.inf o2
     unfold RdN at rr2
     dsimp only at rr2
     clear y2 n2 o2
     cases e3 with
     | zero =>
       have q3 := (y3 rfl).2.1
       have a3 := ans0S (H := H) P3.x 0 P3.y 0 P3.inf o3
       unfold RdN at rr3
       dsimp only at rr3
       rw [(y3 rfl).2.2] at w3
       unfold wrB at w3
       dsimp only at w3
       clear y3 n3 o3
       refine mk Tryz.func11 rfl rfl L0 R1 (by decide +kernel) fun A S hA hS => ?_
       have room1 := room_ok hA hk1
       have rend1 := rend_ok hA rl1
       have rowb1 := rowb_a hA rb1
       have es1 := str_ok hA q1
       have ns1 := i_not hA es1
       have room2 := room_ok hA hk2
       have rend2 := rend_ok hA rl2
       have rowb2 := rowb_a hA rb2
       have es2 := str_ok hA q2
       have ns2 := i_not hA es2
       have room3 := room_ok hA hk3
       have rend3 := rend_ok hA rl3
       have rowb3 := rowb_a hA rb3
       have es3 := str_ok hA q3
       have ns3 := i_not hA es3
       have nt : A.not true = false := i_not hA rfl
       have z0 : A.cmp .eql ((0 : Nat) : Int) 0 = true := i_eq hA
       have z1 : A.cmp .neq ((0 : Nat) : Int) 0 = false := i_ne hA
       have z2 : A.cmp .eql 0 0 = true := i_eq hA
       unfold bodyOf Tryz.f11
       cbv
       repeat ((first | refine ABr.t (by first | assumption | rfl) ?_ | refine ABr.f (by first | assumption | rfl) ?_ | refine .mk rend1 ?_ | refine .mk room1 ?_ | refine .mk rowb1 ?_ | refine .mk rend2 ?_ | refine .mk room2 ?_ | refine .mk rowb2 ?_ | refine .mk rend3 ?_ | refine .mk room3 ?_ | refine .mk rowb3 ?_ | refine aF hS aw ?_ | refine aF hS b1 ?_ | refine aF hS b2 ?_ | refine aF hS rd1 ?_ | (refine aG hS rr1 ?_ ?_; focus (cbv; done)) | refine aF hS rd2 ?_ | (refine aG hS rr2 ?_ ?_; focus (cbv; done)) | refine aF hS rd3 ?_ | (refine aG hS rr3 ?_ ?_; focus (cbv; done)) | refine aF hS f1 ?_ | refine aF hS f2 ?_ | refine aF hS f3 ?_ | (refine aG hS a1 ?_ ?_; focus (cbv; done)) | (refine aG hS a2 ?_ ?_; focus (cbv; done)) | (refine aG hS a3 ?_ ?_; focus (cbv; done)) | (refine aG hS w1 ?_ ?_; focus (cbv; done)) | (refine aG hS w2 ?_ ?_; focus (cbv; done)) | (refine aG hS w3 ?_ ?_; focus (cbv; done))); cbv)
       exact es3
     | succ e3 =>
       obtain rfl := n3 (Nat.succ_ne_zero _)
       have a3 := ans1S hH e3
       unfold RdN at rr3
       dsimp only at rr3 f3
       clear y3 n3 o3 w3
       have hu3 : ((e3 + 1 : Nat) : Int) ≠ 0 := by omega
       generalize ((e3 + 1 : Nat) : Int) = u3 at *
       refine mk Tryz.func11 rfl rfl L0 R1 (by decide +kernel) fun A S hA hS => ?_
       have room1 := room_ok hA hk1
       have rend1 := rend_ok hA rl1
       have rowb1 := rowb_a hA rb1
       have es1 := str_ok hA q1
       have ns1 := i_not hA es1
       have room2 := room_ok hA hk2
       have rend2 := rend_ok hA rl2
       have rowb2 := rowb_a hA rb2
       have es2 := str_ok hA q2
       have ns2 := i_not hA es2
       have room3 := room_ok hA hk3
       have rend3 := rend_ok hA rl3
       have nt : A.not true = false := i_not hA rfl
       have z0 : A.cmp .eql ((0 : Nat) : Int) 0 = true := i_eq hA
       have z1 : A.cmp .neq ((0 : Nat) : Int) 0 = false := i_ne hA
       have z2 : A.cmp .eql 0 0 = true := i_eq hA
       have v3 := eq_ff hA hu3
       have v3' := ne_tt hA hu3
       unfold bodyOf Tryz.f11
       cbv
       repeat ((first | refine ABr.t (by first | assumption | rfl) ?_ | refine ABr.f (by first | assumption | rfl) ?_ | refine .mk rend1 ?_ | refine .mk room1 ?_ | refine .mk rowb1 ?_ | refine .mk rend2 ?_ | refine .mk room2 ?_ | refine .mk rowb2 ?_ | refine .mk rend3 ?_ | refine .mk room3 ?_ | refine aF hS aw ?_ | refine aF hS b1 ?_ | refine aF hS b2 ?_ | refine aF hS rd1 ?_ | (refine aG hS rr1 ?_ ?_; focus (cbv; done)) | refine aF hS rd2 ?_ | (refine aG hS rr2 ?_ ?_; focus (cbv; done)) | refine aF hS rd3 ?_ | (refine aG hS rr3 ?_ ?_; focus (cbv; done)) | refine aF hS f1 ?_ | refine aF hS f2 ?_ | refine aF hS f3 ?_ | (refine aG hS a1 ?_ ?_; focus (cbv; done)) | (refine aG hS a2 ?_ ?_; focus (cbv; done)) | (refine aG hS a3 ?_ ?_; focus (cbv; done)) | (refine aG hS w1 ?_ ?_; focus (cbv; done)) | (refine aG hS w2 ?_ ?_; focus (cbv; done))); cbv)
   | succ e2 =>
     obtain rfl := n2 (Nat.succ_ne_zero _)
     have a2 := ans1S hH e2
     unfold RdN at rr2
     dsimp only at rr2 f2
     clear y2 n2 o2 w2
     have hu2 : ((e2 + 1 : Nat) : Int) ≠ 0 := by omega
     generalize ((e2 + 1 : Nat) : Int) = u2 at *
     cases e3 with
     | zero =>
       have q3 := (y3 rfl).2.1
       have a3 := ans0S (H := H) P3.x 0 P3.y 0 P3.inf o3
       unfold RdN at rr3
       dsimp only at rr3
       rw [(y3 rfl).2.2] at w3
       unfold wrB at w3
       dsimp only at w3
       clear y3 n3 o3
       refine mk Tryz.func11 rfl rfl L0 R1 (by decide +kernel) fun A S hA hS => ?_
       have room1 := room_ok hA hk1
       have rend1 := rend_ok hA rl1
       have rowb1 := rowb_a hA rb1
       have es1 := str_ok hA q1
       have ns1 := i_not hA es1
       have room2 := room_ok hA hk2
       have rend2 := rend_ok hA rl2
       have room3 := room_ok hA hk3
       have rend3 := rend_ok hA rl3
       have rowb3 := rowb_a hA rb3
       have es3 := str_ok hA q3
       have ns3 := i_not hA es3
       have nt : A.not true = false := i_not hA rfl
       have z0 : A.cmp .eql ((0 : Nat) : Int) 0 = true := i_eq hA
       have z1 : A.cmp .neq ((0 : Nat) : Int) 0 = false := i_ne hA
       have z2 : A.cmp .eql 0 0 = true := i_eq hA
       have v2 := eq_ff hA hu2
       have v2' := ne_tt hA hu2
       unfold bodyOf Tryz.f11
       cbv
       repeat ((first | refine ABr.t (by first | assumption | rfl) ?_ | refine ABr.f (by first | assumption | rfl) ?_ | refine .mk rend1 ?_ | refine .mk room1 ?_ | refine .mk rowb1 ?_ | refine .mk rend2 ?_ | refine .mk room2 ?_ | refine .mk rend3 ?_ | refine .mk room3 ?_ | refine .mk rowb3 ?_ | refine aF hS aw ?_ | refine aF hS b1 ?_ | refine aF hS b2 ?_ | refine aF hS rd1 ?_ | (refine aG hS rr1 ?_ ?_; focus (cbv; done)) | refine aF hS rd2 ?_ | (refine aG hS rr2 ?_ ?_; focus (cbv; done)) | refine aF hS rd3 ?_ | (refine aG hS rr3 ?_ ?_; focus (cbv; done)) | refine aF hS f1 ?_ | refine aF hS f2 ?_ | refine aF hS f3 ?_ | (refine aG hS a1 ?_ ?_; focus (cbv; done)) | (refine aG hS a2 ?_ ?_; focus (cbv; done)) | (refine aG hS a3 ?_ ?_; focus (cbv; done)) | (refine aG hS w1 ?_ ?_; focus (cbv; done)) | (refine aG hS w3 ?_ ?_; focus (cbv; done))); cbv)
       exact es3
     | succ e3 =>
       obtain rfl := n3 (Nat.succ_ne_zero _)
       have a3 := ans1S hH e3
       unfold RdN at rr3
       dsimp only at rr3 f3
       clear y3 n3 o3 w3
       have hu3 : ((e3 + 1 : Nat) : Int) ≠ 0 := by omega
       generalize ((e3 + 1 : Nat) : Int) = u3 at *
       refine mk Tryz.func11 rfl rfl L0 R1 (by decide +kernel) fun A S hA hS => ?_
       have room1 := room_ok hA hk1
       have rend1 := rend_ok hA rl1
       have rowb1 := rowb_a hA rb1
       have es1 := str_ok hA q1
       have ns1 := i_not hA es1
       have room2 := room_ok hA hk2
       have rend2 := rend_ok hA rl2
       have room3 := room_ok hA hk3
       have rend3 := rend_ok hA rl3
       have nt : A.not true = false := i_not hA rfl
       have z0 : A.cmp .eql ((0 : Nat) : Int) 0 = true := i_eq hA
       have z1 : A.cmp .neq ((0 : Nat) : Int) 0 = false := i_ne hA
       have z2 : A.cmp .eql 0 0 = true := i_eq hA
       have v2 := eq_ff hA hu2
       have v2' := ne_tt hA hu2
       have v3 := eq_ff hA hu3
       have v3' := ne_tt hA hu3
       unfold bodyOf Tryz.f11
       cbv
       repeat ((first | refine ABr.t (by first | assumption | rfl) ?_ | refine ABr.f (by first | assumption | rfl) ?_ | refine .mk rend1 ?_ | refine .mk room1 ?_ | refine .mk rowb1 ?_ | refine .mk rend2 ?_ | refine .mk room2 ?_ | refine .mk rend3 ?_ | refine .mk room3 ?_ | refine aF hS aw ?_ | refine aF hS b1 ?_ | refine aF hS b2 ?_ | refine aF hS rd1 ?_ | (refine aG hS rr1 ?_ ?_; focus (cbv; done)) | refine aF hS rd2 ?_ | (refine aG hS rr2 ?_ ?_; focus (cbv; done)) | refine aF hS rd3 ?_ | (refine aG hS rr3 ?_ ?_; focus (cbv; done)) | refine aF hS f1 ?_ | refine aF hS f2 ?_ | refine aF hS f3 ?_ | (refine aG hS a1 ?_ ?_; focus (cbv; done)) | (refine aG hS a2 ?_ ?_; focus (cbv; done)) | (refine aG hS a3 ?_ ?_; focus (cbv; done)) | (refine aG hS w1 ?_ ?_; focus (cbv; done))); cbv)
 | succ e1 =>
   obtain rfl := n1 (Nat.succ_ne_zero _)
   have a1 := ans1S hH e1
   unfold RdN at rr1
   dsimp only at rr1 f1
   clear y1 n1 o1 w1
   have hu1 : ((e1 + 1 : Nat) : Int) ≠ 0 := by omega
   generalize ((e1 + 1 : Nat) : Int) = u1 at *
   cases e2 with
   | zero =>
     have q2 := (y2 rfl).2
     have a2 := ans0S (H := H) P2.xa P2.xb P2.ya P2.yb P2.inf o2
     unfold RdN at rr2
     dsimp only at rr2
     clear y2 n2 o2
     cases e3 with
     | zero =>
       have q3 := (y3 rfl).2.1
       have a3 := ans0S (H := H) P3.x 0 P3.y 0 P3.inf o3
       unfold RdN at rr3
       dsimp only at rr3
       rw [(y3 rfl).2.2] at w3
       unfold wrB at w3
       dsimp only at w3
       clear y3 n3 o3
       refine mk Tryz.func11 rfl rfl L0 R1 (by decide +kernel) fun A S hA hS => ?_
       have room1 := room_ok hA hk1
       have rend1 := rend_ok hA rl1
       have room2 := room_ok hA hk2
       have rend2 := rend_ok hA rl2
       have rowb2 := rowb_a hA rb2
       have es2 := str_ok hA q2
       have ns2 := i_not hA es2
       have room3 := room_ok hA hk3
       have rend3 := rend_ok hA rl3
       have rowb3 := rowb_a hA rb3
       have es3 := str_ok hA q3
       have ns3 := i_not hA es3
       have nt : A.not true = false := i_not hA rfl
       have z0 : A.cmp .eql ((0 : Nat) : Int) 0 = true := i_eq hA
       have z1 : A.cmp .neq ((0 : Nat) : Int) 0 = false := i_ne hA
       have z2 : A.cmp .eql 0 0 = true := i_eq hA
       have v1 := eq_ff hA hu1
       have v1' := ne_tt hA hu1
       unfold bodyOf Tryz.f11
       cbv
       repeat ((first | refine ABr.t (by first | assumption | rfl) ?_ | refine ABr.f (by first | assumption | rfl) ?_ | refine .mk rend1 ?_ | refine .mk room1 ?_ | refine .mk rend2 ?_ | refine .mk room2 ?_ | refine .mk rowb2 ?_ | refine .mk rend3 ?_ | refine .mk room3 ?_ | refine .mk rowb3 ?_ | refine aF hS aw ?_ | refine aF hS b1 ?_ | refine aF hS b2 ?_ | refine aF hS rd1 ?_ | (refine aG hS rr1 ?_ ?_; focus (cbv; done)) | refine aF hS rd2 ?_ | (refine aG hS rr2 ?_ ?_; focus (cbv; done)) | refine aF hS rd3 ?_ | (refine aG hS rr3 ?_ ?_; focus (cbv; done)) | refine aF hS f1 ?_ | refine aF hS f2 ?_ | refine aF hS f3 ?_ | (refine aG hS a1 ?_ ?_; focus (cbv; done)) | (refine aG hS a2 ?_ ?_; focus (cbv; done)) | (refine aG hS a3 ?_ ?_; focus (cbv; done)) | (refine aG hS w2 ?_ ?_; focus (cbv; done)) | (refine aG hS w3 ?_ ?_; focus (cbv; done))); cbv)
       exact es3
     | succ e3 =>
       obtain rfl := n3 (Nat.succ_ne_zero _)
       have a3 := ans1S hH e3
       unfold RdN at rr3
       dsimp only at rr3 f3
       clear y3 n3 o3 w3
       have hu3 : ((e3 + 1 : Nat) : Int) ≠ 0 := by omega
       generalize ((e3 + 1 : Nat) : Int) = u3 at *
       refine mk Tryz.func11 rfl rfl L0 R1 (by decide +kernel) fun A S hA hS => ?_
       have room1 := room_ok hA hk1
       have rend1 := rend_ok hA rl1
       have room2 := room_ok hA hk2
       have rend2 := rend_ok hA rl2
       have rowb2 := rowb_a hA rb2
       have es2 := str_ok hA q2
       have ns2 := i_not hA es2
       have room3 := room_ok hA hk3
       have rend3 := rend_ok hA rl3
       have nt : A.not true = false := i_not hA rfl
       have z0 : A.cmp .eql ((0 : Nat) : Int) 0 = true := i_eq hA
       have z1 : A.cmp .neq ((0 : Nat) : Int) 0 = false := i_ne hA
       have z2 : A.cmp .eql 0 0 = true := i_eq hA
       have v1 := eq_ff hA hu1
       have v1' := ne_tt hA hu1
       have v3 := eq_ff hA hu3
       have v3' := ne_tt hA hu3
       unfold bodyOf Tryz.f11
       cbv
       repeat ((first | refine ABr.t (by first | assumption | rfl) ?_ | refine ABr.f (by first | assumption | rfl) ?_ | refine .mk rend1 ?_ | refine .mk room1 ?_ | refine .mk rend2 ?_ | refine .mk room2 ?_ | refine .mk rowb2 ?_ | refine .mk rend3 ?_ | refine .mk room3 ?_ | refine aF hS aw ?_ | refine aF hS b1 ?_ | refine aF hS b2 ?_ | refine aF hS rd1 ?_ | (refine aG hS rr1 ?_ ?_; focus (cbv; done)) | refine aF hS rd2 ?_ | (refine aG hS rr2 ?_ ?_; focus (cbv; done)) | refine aF hS rd3 ?_ | (refine aG hS rr3 ?_ ?_; focus (cbv; done)) | refine aF hS f1 ?_ | refine aF hS f2 ?_ | refine aF hS f3 ?_ | (refine aG hS a1 ?_ ?_; focus (cbv; done)) | (refine aG hS a2 ?_ ?_; focus (cbv; done)) | (refine aG hS a3 ?_ ?_; focus (cbv; done)) | (refine aG hS w2 ?_ ?_; focus (cbv; done))); cbv)
   | succ e2 =>
     obtain rfl := n2 (Nat.succ_ne_zero _)
     have a2 := ans1S hH e2
     unfold RdN at rr2
     dsimp only at rr2 f2
     clear y2 n2 o2 w2
     have hu2 : ((e2 + 1 : Nat) : Int) ≠ 0 := by omega
     generalize ((e2 + 1 : Nat) : Int) = u2 at *
     cases e3 with
     | zero =>
       have q3 := (y3 rfl).2.1
       have a3 := ans0S (H := H) P3.x 0 P3.y 0 P3.inf o3
       unfold RdN at rr3
       dsimp only at rr3
       rw [(y3 rfl).2.2] at w3
       unfold wrB at w3
       dsimp only at w3
       clear y3 n3 o3
       refine mk Tryz.func11 rfl rfl L0 R1 (by decide +kernel) fun A S hA hS => ?_
       have room1 := room_ok hA hk1
       have rend1 := rend_ok hA rl1
       have room2 := room_ok hA hk2
       have rend2 := rend_ok hA rl2
       have room3 := room_ok hA hk3
       have rend3 := rend_ok hA rl3
       have rowb3 := rowb_a hA rb3
       have es3 := str_ok hA q3
       have ns3 := i_not hA es3
       have nt : A.not true = false := i_not hA rfl
       have z0 : A.cmp .eql ((0 : Nat) : Int) 0 = true := i_eq hA
       have z1 : A.cmp .neq ((0 : Nat) : Int) 0 = false := i_ne hA
       have z2 : A.cmp .eql 0 0 = true := i_eq hA
       have v1 := eq_ff hA hu1
       have v1' := ne_tt hA hu1
       have v2 := eq_ff hA hu2
       have v2' := ne_tt hA hu2
       unfold bodyOf Tryz.f11
       cbv
       repeat ((first | refine ABr.t (by first | assumption | rfl) ?_ | refine ABr.f (by first | assumption | rfl) ?_ | refine .mk rend1 ?_ | refine .mk room1 ?_ | refine .mk rend2 ?_ | refine .mk room2 ?_ | refine .mk rend3 ?_ | refine .mk room3 ?_ | refine .mk rowb3 ?_ | refine aF hS aw ?_ | refine aF hS b1 ?_ | refine aF hS b2 ?_ | refine aF hS rd1 ?_ | (refine aG hS rr1 ?_ ?_; focus (cbv; done)) | refine aF hS rd2 ?_ | (refine aG hS rr2 ?_ ?_; focus (cbv; done)) | refine aF hS rd3 ?_ | (refine aG hS rr3 ?_ ?_; focus (cbv; done)) | refine aF hS f1 ?_ | refine aF hS f2 ?_ | refine aF hS f3 ?_ | (refine aG hS a1 ?_ ?_; focus (cbv; done)) | (refine aG hS a2 ?_ ?_; focus (cbv; done)) | (refine aG hS a3 ?_ ?_; focus (cbv; done)) | (refine aG hS w3 ?_ ?_; focus (cbv; done))); cbv)
       exact es3
     | succ e3 =>
       obtain rfl := n3 (Nat.succ_ne_zero _)
       have a3 := ans1S hH e3
       unfold RdN at rr3
       dsimp only at rr3 f3
       clear y3 n3 o3 w3
       have hu3 : ((e3 + 1 : Nat) : Int) ≠ 0 := by omega
       generalize ((e3 + 1 : Nat) : Int) = u3 at *
       refine mk Tryz.func11 rfl rfl L0 R1 (by decide +kernel) fun A S hA hS => ?_
       have room1 := room_ok hA hk1
       have rend1 := rend_ok hA rl1
       have room2 := room_ok hA hk2
       have rend2 := rend_ok hA rl2
       have room3 := room_ok hA hk3
       have rend3 := rend_ok hA rl3
       have nt : A.not true = false := i_not hA rfl
       have z0 : A.cmp .eql ((0 : Nat) : Int) 0 = true := i_eq hA
       have z1 : A.cmp .neq ((0 : Nat) : Int) 0 = false := i_ne hA
       have z2 : A.cmp .eql 0 0 = true := i_eq hA
       have v1 := eq_ff hA hu1
       have v1' := ne_tt hA hu1
       have v2 := eq_ff hA hu2
       have v2' := ne_tt hA hu2
       have v3 := eq_ff hA hu3
       have v3' := ne_tt hA hu3
       unfold bodyOf Tryz.f11
       cbv
       repeat ((first | refine ABr.t (by first | assumption | rfl) ?_ | refine ABr.f (by first | assumption | rfl) ?_ | refine .mk rend1 ?_ | refine .mk room1 ?_ | refine .mk rend2 ?_ | refine .mk room2 ?_ | refine .mk rend3 ?_ | refine .mk room3 ?_ | refine aF hS aw ?_ | refine aF hS b1 ?_ | refine aF hS b2 ?_ | refine aF hS rd1 ?_ | (refine aG hS rr1 ?_ ?_; focus (cbv; done)) | refine aF hS rd2 ?_ | (refine aG hS rr2 ?_ ?_; focus (cbv; done)) | refine aF hS rd3 ?_ | (refine aG hS rr3 ?_ ?_; focus (cbv; done)) | refine aF hS f1 ?_ | refine aF hS f2 ?_ | refine aF hS f3 ?_ | (refine aG hS a1 ?_ ?_; focus (cbv; done)) | (refine aG hS a2 ?_ ?_; focus (cbv; done)) | (refine aG hS a3 ?_ ?_; focus (cbv; done))); cbv)
end Go.Proofs.YtmholgclgamnnaaGreat
