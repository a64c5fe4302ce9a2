import Derived.Test.YtkhipnhdbaahcaaGreatQBF
import Derived.Test.YtkhipnhdbaahcaaGreatQBWA
import Derived.Test.YtkhipnhdbaahcaaGreatQBCA
import Derived.Test.YtkhipnhdbaahcaaGreatQBKB
import Derived.Test.YtkhipnhdbaahcaaGreatQBSG
import Derived.Test.YtkhipnhdbaahcaaGreatQBTG
import Derived.Test.YtkhipnhdbaahcaaGreatQBTI
import Derived.Test.YtkhipnhdbaahcaaGreatQBTH
import Derived.Test.YtkhipnhdbaahcaaGreatQBSQ
section
set_option linter.unusedVariables false
set_option linter.unusedSimpArgs false
namespace Go.Proofs.YtkhipnhdbaahcaaGreat
open Go Eng
set_option maxRecDepth 100000
set_option exponentiation.threshold 2000
theorem limR_word {e : Nat} (he : e < 18446744073709551616) : limR e 0 = (e : Int) := by
  unfold limR
  rw [Nat.mul_zero, Nat.pow_zero, Nat.div_one, Nat.mod_eq_of_lt (by simpa using he)]
end Go.Proofs.YtkhipnhdbaahcaaGreat
end
section
set_option linter.unusedVariables false
set_option linter.unusedSimpArgs false
namespace Go.Proofs.YtkhipnhdbaahcaaGreat
open Go Eng
set_option maxRecDepth 100000
set_option exponentiation.threshold 2000
set_option maxHeartbeats 4000000
theorem ofS {lim : Lim} (hl : lim = limR) (n : Nat) (hn : n < 18446744073709551616) : Sp 79 [.s .u64 (n : Int)] (u4 lim n) := by
  have e0 : lim n 0 = (n : Int) := by rw [hl]; exact limR_word hn
  have es : ∀ i, i < 3 → lim n (i + 1) = 0 := fun i hi => by
    rw [hl]; show ((n / 2 ^ (64 * (i + 1)) % 2 ^ 64 : Nat) : Int) = 0
    rw [Nat.div_eq_of_lt (Nat.lt_of_lt_of_le hn (Nat.pow_le_pow_right (n := 2) (i := 64) (by decide) (by omega)))]; rfl
  generalize (n : Int) = z at *
  refine mk Tryz.func79 rfl rfl L0 R0 (by decide +kernel) fun A S hA hS => ?_
  unfold bodyOf Tryz.f79
  cbv
  repeat' (first | exact e0.symm | exact (es _ (by decide)).symm | exact trivial | constructor)
end Go.Proofs.YtkhipnhdbaahcaaGreat
end
section
set_option linter.unusedVariables false
set_option linter.unusedSimpArgs false
namespace Go.Proofs.YtkhipnhdbaahcaaGreat
open Go Eng
set_option maxRecDepth 100000
set_option exponentiation.threshold 2000
set_option maxHeartbeats 4000000
theorem small1S : Sp 149 [.agg [.i .u64 1, .i .u64 0, .i .u64 0, .i .u64 0]] (.tup [.i .u64 1, .b true]) := by
  refine mk Tryz.func149 rfl rfl L0 R0 (by decide +kernel) fun A S hA hS => ?_
  unfold bodyOf Tryz.f149
  cbv
theorem shift1S : Sp 121 [.agg [.i .u64 1, .i .u64 0, .i .u64 0, .i .u64 0]] (.i .i64 1) := by
  refine mk Tryz.func121 rfl rfl L0 R1 (by decide +kernel) fun A S hA hS => ?_
  unfold bodyOf Tryz.f121
  cbv
  refine ACall.mk _ (cf hS small1S) ?_
  cbv
theorem shrNS : Sp 78 [.agg [.i .u64 1, .i .u64 0, .i .u64 0, .i .u64 0], .agg [.i .u64 13822214165235122497, .i .u64 13451932020343611451, .i .u64 18446744073709551614, .i .u64 18446744073709551615]] (.agg [.i .u64 16134479119472337056, .i .u64 6725966010171805725, .i .u64 18446744073709551615, .i .u64 9223372036854775807]) := by
  refine mk Tryz.func78 rfl rfl L0 R0 (by decide +kernel) fun A S hA hS => ?_
  unfold bodyOf Tryz.f78
  cbv
  refine ACall.mk _ (cf hS shift1S) ?_
  cbv
  repeat' (first | exact rfl | exact trivial | constructor)
end Go.Proofs.YtkhipnhdbaahcaaGreat
end
section
set_option linter.unusedVariables false
set_option linter.unusedSectionVars false
set_option linter.unusedSimpArgs false
namespace Go.Proofs.YtkhipnhdbaahcaaGreat
open Go Eng
set_option maxRecDepth 100000
set_option exponentiation.threshold 2000
set_option maxHeartbeats 4000000
section
variable {H : H5} {k : Kf Sk.pS} {r : List AVal} {kn : Kf Sk.nS} {rn : List AVal} {m n : Nat} (hs : Sec H k r kn rn m n) (hr : RootK H k r)
include hs
theorem Sec.outN (a : Fin Sk.nS) : Sp 53 [.ref rn 0, Ef kn a] (u4 H.lim a.val) := by
  have c := hs.okn.out a
  unfold Uf at c
  rw [hs.un, hs.un, hs.un, hs.un] at c
  exact c
include hr
end
end Go.Proofs.YtkhipnhdbaahcaaGreat
end
section
set_option linter.unusedVariables false
set_option linter.unusedSectionVars false
set_option linter.unusedSimpArgs false
namespace Go.Proofs.YtkhipnhdbaahcaaGreat
open Go Eng
set_option maxRecDepth 100000
set_option exponentiation.threshold 2000
set_option maxHeartbeats 4000000
theorem nf_mod (z : Nat) : Sk.nf (z % Sk.nS) = Sk.nf z := Fin.ext (Nat.mod_mod _ _)
theorem finN_256 (a : Fin Sk.nS) : a.val < 2 ^ 256 := Nat.lt_trans a.isLt (by decide)
/-- A signature. -/
abbrev sgn9 (lim : Lim) (a b : Nat) (oi : Int) : AVal := .agg [.s .u64 (lim a 0), .s .u64 (lim a 1), .s .u64 (lim a 2), .s .u64 (lim a 3), .s .u64 (lim b 0), .s .u64 (lim b 1), .s .u64 (lim b 2), .s .u64 (lim b 3), .s .i64 oi]
section
variable {H : H5} {k : Kf Sk.pS} {r : List AVal} {kn : Kf Sk.nS} {rn : List AVal} {m n : Nat} (hs : Sec H k r kn rn m n) (hr : RootK H k r)
include hs
theorem Sec.mulN (a b : Fin Sk.nS) : Sp 57 [.ref rn 0, Ef kn a, Ef kn b] (Ef kn (a * b)) := by
  have h := hs.okn.mul a b
  rw [hs.on] at h; exact h
theorem Sec.addN (a b : Fin Sk.nS) : Sp 90 [.ref rn 0, Ef kn a, Ef kn b] (Ef kn (a + b)) := by
  have h := hs.okn.add a b
  rw [hs.on] at h; exact h
theorem Sec.invN (a : Fin Sk.nS) : Sp 83 [.ref rn 0, Ef kn a] (Ef kn (Cv.inv1 a)) := by
  have h := hs.okn.inv a
  rw [hs.on] at h; exact h
include hr
end
end Go.Proofs.YtkhipnhdbaahcaaGreat
end
section
set_option linter.unusedVariables false
set_option linter.unusedSimpArgs false
namespace Go.Proofs.YtkhipnhdbaahcaaGreat
open Go Eng
set_option maxRecDepth 100000
set_option exponentiation.threshold 2000
set_option maxHeartbeats 4000000
theorem cells_ar {W : World} {base : Nat} {t : TypeId} {n : Nat} {e : TypeId} {ts : List TypeId} {v : Value} (hu : Tryz.prog.underlying t = some (.array n e)) (hts : Tryz.prog.cellTypes Tryz.prog.depth t = some ts)
    (h : Value.okWide Tryz.prog W .any base t v) : ∃ cs : Array Value, v = .agg cs ∧ cs.size = Tryz.prog.cellsOf t ∧ ∀ (i : Nat) (v : Value), cs[i]? = some v → ∃ u, ts[i % ts.length]? = some u ∧ Cell.okWide Tryz.prog W .any base u v := by
  unfold Value.okWide at h
  rw [hu] at h
  obtain ⟨cs, rfl, hcs, ts', h1, ⟨k, hk⟩, h2⟩ := h
  rw [hts] at h1
  cases h1
  exact ⟨cs, rfl, hcs, h2⟩
theorem cell_y {W : World} {base : Nat} {u : TypeId} {v : Value} (he : Tryz.prog.underlying u = some (.int .u8)) (h : Cell.okWide Tryz.prog W .any base u v) : ∃ z : Nat, v = .int .u8 (z : Int) ∧ z < 256 := by
  unfold Cell.okWide at h
  rw [he] at h
  unfold Cell.ok at h
  rw [he] at h
  cases v <;> simp only at h <;> try (exact h.elim)
  rename_i k' z
  obtain ⟨rfl, hz⟩ := h
  have h3 : (0 : Int) ≤ z ∧ z ≤ 255 := hz
  exact ⟨z.toNat, by rw [Int.toNat_of_nonneg h3.1], by omega⟩
theorem open_h32 {W : World} {X : Nat → Prop} {base : Nat} {t : TypeId} {e : TypeId} {v : Value} (hu : Tryz.prog.underlying t = some (.array 32 e)) (hts : Tryz.prog.cellTypes Tryz.prog.depth t = some (List.replicate 32 e))
    (he : Tryz.prog.underlying e = some (.int .u8)) (hsz : Tryz.prog.cellsOf t = 32) (h : Value.okWide Tryz.prog W .any base t v) :
    ∃ g : Nat → Nat, (∀ j, g j < 256) ∧ Rep W X noρ v (.agg (hsh fun j => ((g j : Nat) : Int))) := by
  obtain ⟨cs, rfl, hcs, each⟩ := cells_ar hu hts h
  rw [hsz] at hcs
  have word : ∀ i, ∃ z : Nat, z < 256 ∧ (i < 32 → cs[i]? = some (.int .u8 (z : Int))) := by
    intro i
    by_cases hi : i < 32
    · have hx : cs[i]? = some (cs[i]'(by omega)) := Array.getElem?_eq_getElem _
      obtain ⟨u, hu1, hu2⟩ := each i _ hx
      have hue : u = e := by
        rw [List.length_replicate, Nat.mod_eq_of_lt hi, List.getElem?_replicate, if_pos hi] at hu1
        cases hu1; rfl
      subst hue
      obtain ⟨z, hz, hr⟩ := cell_y he hu2
      exact ⟨z, hr, fun _ => by rw [hx, hz]⟩
    · exact ⟨0, by decide, fun h => absurd h hi⟩
  obtain ⟨g, hg⟩ := Classical.axiomOfChoice word
  refine ⟨g, fun j => (hg j).1, ?_⟩
  have ec : cs = [.int .u8 ((g 0 : Nat) : Int), .int .u8 ((g 1 : Nat) : Int), .int .u8 ((g 2 : Nat) : Int), .int .u8 ((g 3 : Nat) : Int), .int .u8 ((g 4 : Nat) : Int), .int .u8 ((g 5 : Nat) : Int), .int .u8 ((g 6 : Nat) : Int), .int .u8 ((g 7 : Nat) : Int), .int .u8 ((g 8 : Nat) : Int), .int .u8 ((g 9 : Nat) : Int), .int .u8 ((g 10 : Nat) : Int), .int .u8 ((g 11 : Nat) : Int), .int .u8 ((g 12 : Nat) : Int), .int .u8 ((g 13 : Nat) : Int), .int .u8 ((g 14 : Nat) : Int), .int .u8 ((g 15 : Nat) : Int), .int .u8 ((g 16 : Nat) : Int), .int .u8 ((g 17 : Nat) : Int), .int .u8 ((g 18 : Nat) : Int), .int .u8 ((g 19 : Nat) : Int), .int .u8 ((g 20 : Nat) : Int), .int .u8 ((g 21 : Nat) : Int), .int .u8 ((g 22 : Nat) : Int), .int .u8 ((g 23 : Nat) : Int), .int .u8 ((g 24 : Nat) : Int), .int .u8 ((g 25 : Nat) : Int), .int .u8 ((g 26 : Nat) : Int), .int .u8 ((g 27 : Nat) : Int), .int .u8 ((g 28 : Nat) : Int), .int .u8 ((g 29 : Nat) : Int), .int .u8 ((g 30 : Nat) : Int), .int .u8 ((g 31 : Nat) : Int)].toArray := by
    apply Array.ext_getElem?
    intro i
    rcases Nat.lt_or_ge i 32 with hi | hi
    · rcases (by omega : i = 0 ∨ i = 1 ∨ i = 2 ∨ i = 3 ∨ i = 4 ∨ i = 5 ∨ i = 6 ∨ i = 7 ∨ i = 8 ∨ i = 9 ∨ i = 10 ∨ i = 11 ∨ i = 12 ∨ i = 13 ∨ i = 14 ∨ i = 15 ∨ i = 16 ∨ i = 17 ∨ i = 18 ∨ i = 19 ∨ i = 20 ∨ i = 21 ∨ i = 22 ∨ i = 23 ∨ i = 24 ∨ i = 25 ∨ i = 26 ∨ i = 27 ∨ i = 28 ∨ i = 29 ∨ i = 30 ∨ i = 31) with rfl | rfl | rfl | rfl | rfl | rfl | rfl | rfl | rfl | rfl | rfl | rfl | rfl | rfl | rfl | rfl | rfl | rfl | rfl | rfl | rfl | rfl | rfl | rfl | rfl | rfl | rfl | rfl | rfl | rfl | rfl | rfl
      · exact (hg 0).2 (by decide)
      · exact (hg 1).2 (by decide)
      · exact (hg 2).2 (by decide)
      · exact (hg 3).2 (by decide)
      · exact (hg 4).2 (by decide)
      · exact (hg 5).2 (by decide)
      · exact (hg 6).2 (by decide)
      · exact (hg 7).2 (by decide)
      · exact (hg 8).2 (by decide)
      · exact (hg 9).2 (by decide)
      · exact (hg 10).2 (by decide)
      · exact (hg 11).2 (by decide)
      · exact (hg 12).2 (by decide)
      · exact (hg 13).2 (by decide)
      · exact (hg 14).2 (by decide)
      · exact (hg 15).2 (by decide)
      · exact (hg 16).2 (by decide)
      · exact (hg 17).2 (by decide)
      · exact (hg 18).2 (by decide)
      · exact (hg 19).2 (by decide)
      · exact (hg 20).2 (by decide)
      · exact (hg 21).2 (by decide)
      · exact (hg 22).2 (by decide)
      · exact (hg 23).2 (by decide)
      · exact (hg 24).2 (by decide)
      · exact (hg 25).2 (by decide)
      · exact (hg 26).2 (by decide)
      · exact (hg 27).2 (by decide)
      · exact (hg 28).2 (by decide)
      · exact (hg 29).2 (by decide)
      · exact (hg 30).2 (by decide)
      · exact (hg 31).2 (by decide)
    · rw [Array.getElem?_eq_none (by omega), Array.getElem?_eq_none (by simpa using hi)]
  rw [ec]
  exact RepL.agg (.cons (.s _ _) (.cons (.s _ _) (.cons (.s _ _) (.cons (.s _ _) (.cons (.s _ _) (.cons (.s _ _) (.cons (.s _ _) (.cons (.s _ _) (.cons (.s _ _) (.cons (.s _ _) (.cons (.s _ _) (.cons (.s _ _) (.cons (.s _ _) (.cons (.s _ _) (.cons (.s _ _) (.cons (.s _ _) (.cons (.s _ _) (.cons (.s _ _) (.cons (.s _ _) (.cons (.s _ _) (.cons (.s _ _) (.cons (.s _ _) (.cons (.s _ _) (.cons (.s _ _) (.cons (.s _ _) (.cons (.s _ _) (.cons (.s _ _) (.cons (.s _ _) (.cons (.s _ _) (.cons (.s _ _) (.cons (.s _ _) (.cons (.s _ _) (.nil)))))))))))))))))))))))))))))))))
end Go.Proofs.YtkhipnhdbaahcaaGreat
end
section
set_option linter.unusedVariables false
set_option linter.unusedSimpArgs false
namespace Go.Proofs.YtkhipnhdbaahcaaGreat
open Go Eng
set_option maxRecDepth 100000
set_option exponentiation.threshold 2000
set_option maxHeartbeats 8000000
open Dg
def cdN (i : Nat) : Nat := [801750719, 1076732275, 1354194884, 1162945305, 1].getD i 0
theorem nS_256 : Sk.nS < 2 ^ 256 := by decide
theorem redN {lim : Lim} (hl : lim = limR) (m : Nat) (hm : m = Sk.nS) : RedM lim m where
  ex := by
    refine ⟨2 ^ 256 - Sk.nS, cdN, by decide, by decide +kernel, by rw [hm]; decide +kernel, ?_⟩
    obtain ⟨q, hq⟩ : ∃ q, q = Sk.pS := ⟨_, rfl⟩
    have c := r6P hl q hq
    have h256 : m < 2 ^ 256 := by rw [hm]; exact nS_256
    have q256 : q < 2 ^ 256 := by rw [hq]; exact pS_256
    have hne : m ≠ q := by rw [hm, hq]; decide
    have d0 : (801750719 : Int) = ((cdN 0 : Nat) : Int) := rfl
    have d1 : (1076732275 : Int) = ((cdN 1 : Nat) : Int) := rfl
    have d2 : (1354194884 : Int) = ((cdN 2 : Nat) : Int) := rfl
    have d3 : (1162945305 : Int) = ((cdN 3 : Nat) : Int) := rfl
    have d4 : (1 : Int) = ((cdN 4 : Nat) : Int) := rfl
    generalize cdN = cd at *
    clear hm hq
    refine mk Tryz.func127 rfl rfl L0 R1 (by decide +kernel) fun A S hA hS => ?_
    have e := (weq4 hA hl h256 q256).trans (decide_eq_false hne)
    unfold bodyOf Tryz.f127
    cbv
    repeat (first
      | (refine ABr.t (by assumption) ?_; cbv)
      | (refine ABr.f (by assumption) ?_; cbv)
      | (refine ABr.t rfl ?_; cbv)
      | (refine ABr.f rfl ?_; cbv)
      | (refine ACall.mk _ (cf hS c) ?_; cbv))
    repeat' (first | exact d0 | exact d1 | exact d2 | exact d3 | exact d4 | exact rfl | exact trivial | constructor)
  one := by rw [hm]; decide
  lt := by rw [hm]; exact nS_256
section
variable {lim : Lim} (hl : lim = limR) {M : Nat} (hM : RedM lim M)
include hl hM
end
section
variable {lim : Lim} (hl : lim = limR) {M : Nat} (hM : RedM lim M)
include hl hM
omit hM in
end
end Go.Proofs.YtkhipnhdbaahcaaGreat
end
section
set_option linter.unusedVariables false
set_option linter.unusedSectionVars false
set_option linter.unusedSimpArgs false
namespace Go.Proofs.YtkhipnhdbaahcaaGreat
open Go Eng
set_option maxRecDepth 100000
set_option exponentiation.threshold 2000
set_option maxHeartbeats 8000000
section
variable {H : H5} {k : Kf Sk.pS} {r : List AVal} {kn : Kf Sk.nS} {rn : List AVal} {m n : Nat} (hs : Sec H k r kn rn m n)
include hs
theorem Sec.rfn : Rf kn H.lim n := by
  have hl := H5.hlim hs.hH
  have h := mkRf (k := kn) (lim := H.lim) hl hs.un hs.on (redN hl _ rfl) hs.okn.zerov hs.okn.one hs.okn.injv
  rw [hs.hn]; exact h
end
end Go.Proofs.YtkhipnhdbaahcaaGreat
end
section
set_option linter.unusedVariables false
set_option linter.unusedSectionVars false
set_option linter.unusedSimpArgs false
namespace Go.Proofs.YtkhipnhdbaahcaaGreat
open Go Eng
set_option maxRecDepth 100000
set_option exponentiation.threshold 2000
set_option maxHeartbeats 8000000
section
variable {H : H5} {k : Kf Sk.pS} {r : List AVal} {kn : Kf Sk.nS} {rn : List AVal} {m n : Nat} (hs : Sec H k r kn rn m n)
include hs
/-- The reference's key. -/
theorem Sec.rkey (e : Nat) (he : e < 2 ^ 256) (t : Bool) (ht : t = decide (e ≠ 0 ∧ e < Sk.nS)) : Sp 71 [u4 H.lim e] (.sb t) := by
  have hl := H5.hlim hs.hH
  have hn := hs.cN
  have hm256 : n < 2 ^ 256 := by rw [hs.hn]; decide
  have c := r6below hl e n he hm256 _ rfl
  rw [← hs.hn] at ht
  by_cases h : e = 0
  · rw [decide_eq_false (fun h' => h'.1 h)] at ht
    subst ht
    refine mk Tryz.func71 rfl rfl L0 R1 (by decide +kernel) fun A S hA hS => ?_
    have e1 : A.not (A.eqs [(.s .u64 (H.lim e 0), .i .u64 0), (.s .u64 (H.lim e 1), .i .u64 0), (.s .u64 (H.lim e 2), .i .u64 0), (.s .u64 (H.lim e 3), .i .u64 0)]) = false := by
      rw [zeq4 hA hl (x := e) he, decide_eq_true h]; exact not_t hA
    unfold bodyOf Tryz.f71
    cbv
    repeat (first
      | (refine ABr.t (by assumption) ?_; cbv)
      | (refine ABr.f (by assumption) ?_; cbv)
      | (refine ABr.t rfl ?_; cbv)
      | (refine ABr.f rfl ?_; cbv)
      | (refine ACall.mk _ (cf hS hn) ?_; cbv)
      | (refine ACall.mk _ (cf hS c) ?_; cbv))
  · have ht : t = decide (e < n) := by
      rw [ht]; congr 1; simp only [eq_iff_iff]; exact ⟨fun h => h.2, fun h' => ⟨h, h'⟩⟩
    rw [← ht] at c
    refine mk Tryz.func71 rfl rfl L0 R1 (by decide +kernel) fun A S hA hS => ?_
    have e1 : A.not (A.eqs [(.s .u64 (H.lim e 0), .i .u64 0), (.s .u64 (H.lim e 1), .i .u64 0), (.s .u64 (H.lim e 2), .i .u64 0), (.s .u64 (H.lim e 3), .i .u64 0)]) = true := by
      rw [zeq4 hA hl (x := e) he, decide_eq_false h]; exact not_f hA
    unfold bodyOf Tryz.f71
    cbv
    repeat (first
      | (refine ABr.t (by assumption) ?_; cbv)
      | (refine ABr.f (by assumption) ?_; cbv)
      | (refine ABr.t rfl ?_; cbv)
      | (refine ABr.f rfl ?_; cbv)
      | (refine ACall.mk _ (cf hS hn) ?_; cbv)
      | (refine ACall.mk _ (cf hS c) ?_; cbv))
end
end Go.Proofs.YtkhipnhdbaahcaaGreat
end
section
set_option linter.unusedVariables false
set_option linter.unusedSectionVars false
set_option linter.unusedSimpArgs false
namespace Go.Proofs.YtkhipnhdbaahcaaGreat
open Go Eng
set_option maxRecDepth 100000
set_option exponentiation.threshold 2000
set_option maxHeartbeats 8000000
/-- A bit more. -/
theorem bit_put (o b i j : Nat) (ho : o < 2 ^ i) (hb : b ≤ 1) : (o + b * 2 ^ i) / 2 ^ (64 * j) % 2 ^ 64 = if j = i / 64 then o / 2 ^ (64 * j) % 2 ^ 64 + b * 2 ^ (i % 64) else o / 2 ^ (64 * j) % 2 ^ 64 := by
  have hi : i = 64 * (i / 64) + i % 64 := by omega
  have hr : i % 64 < 64 := Nat.mod_lt _ (by decide)
  generalize i / 64 = q at *
  generalize i % 64 = r at *
  subst hi
  by_cases h1 : j = q
  · rw [if_pos h1]
    subst h1
    have e : b * 2 ^ (64 * j + r) = 2 ^ (64 * j) * (b * 2 ^ r) := by rw [Nat.pow_add, Nat.mul_left_comm]
    rw [e, Nat.add_mul_div_left _ _ (Nat.two_pow_pos _)]
    have h2 : o / 2 ^ (64 * j) < 2 ^ r := by
      rw [Nat.div_lt_iff_lt_mul (Nat.two_pow_pos _), ← Nat.pow_add, Nat.add_comm]; exact ho
    have h3 : b * 2 ^ r ≤ 2 ^ r := by
      have := Nat.mul_le_mul_right (2 ^ r) hb
      omega
    have h4 : 2 ^ r * 2 ≤ 2 ^ 64 := by rw [← Nat.pow_succ]; exact Nat.pow_le_pow_right (by decide) (by omega)
    rw [Nat.mod_eq_of_lt (by omega), Nat.mod_eq_of_lt (by omega)]
  · rw [if_neg h1]
    by_cases h2 : j < q
    · have e : b * 2 ^ (64 * q + r) = 2 ^ (64 * j) * (2 ^ 64 * (b * 2 ^ (64 * (q - j - 1) + r))) := by
        rw [show 64 * q + r = 64 * j + 64 + (64 * (q - j - 1) + r) by omega, Nat.pow_add, Nat.pow_add]
        rw [Nat.mul_assoc, Nat.mul_left_comm b, Nat.mul_left_comm b]
      rw [e, Nat.add_mul_div_left _ _ (Nat.two_pow_pos _), Nat.add_mul_mod_self_left]
    · have h3 : 64 * q + r + 1 ≤ 64 * j := by omega
      have h4 : b * 2 ^ (64 * q + r) ≤ 2 ^ (64 * q + r) := by
        have := Nat.mul_le_mul_right (2 ^ (64 * q + r)) hb
        omega
      have h5 : 2 ^ (64 * q + r) * 2 ≤ 2 ^ (64 * j) := by rw [← Nat.pow_succ]; exact Nat.pow_le_pow_right (by decide) h3
      rw [Nat.div_eq_of_lt (show o + b * 2 ^ (64 * q + r) < 2 ^ (64 * j) by omega), Nat.div_eq_of_lt (show o < 2 ^ (64 * j) by omega)]
theorem u4_put {A : Ar} (hA : A = Ar.real) (l l2 : Nat → Int) (j : Nat) (hj : j < 4) {x : Int} (hx : x = l2 j) (h : ∀ m, m ≠ j → l2 m = l m) :
    lput [.s .u64 (l 0), .s .u64 (l 1), .s .u64 (l 2), .s .u64 (l 3)] (A.offs 0 j 1) [.s .u64 x] = some [.s .u64 (l2 0), .s .u64 (l2 1), .s .u64 (l2 2), .s .u64 (l2 3)] := by
  subst hA
  subst hx
  have h0 := h 0
  have h1 := h 1
  have h2 := h 2
  have h3 := h 3
  clear h
  rcases (by omega : j = 0 ∨ j = 1 ∨ j = 2 ∨ j = 3) with rfl | rfl | rfl | rfl
  all_goals
    try rw [h0 (by decide)]
    try rw [h1 (by decide)]
    try rw [h2 (by decide)]
    try rw [h3 (by decide)]
    rfl
/-- The reference's SetBit, at and above which no bit is set. -/
theorem rSetS {lim : Lim} (hl : lim = limR) (o b i : Nat) (hi : i < 256) (ho : o < 2 ^ i) (hb : b ≤ 1) (w : Nat) (hw : w = o + b * 2 ^ i) : Sp 144 [u4 lim o, .s .i64 (i : Int), .s .u64 (b : Int)] (u4 lim w) := by
  have hcs := row4F lim o
  have hq4 : i / 64 < 4 := by omega
  have hput : ∀ m, lim w m = if m = i / 64 then lim o m + ((b * 2 ^ (i % 64) : Nat) : Int) else lim o m := fun m => by
    have := bit_put o b i m ho hb
    rw [hl, hw]
    show (((o + b * 2 ^ i) / 2 ^ (64 * m) % 2 ^ 64 : Nat) : Int) = if m = i / 64 then ((o / 2 ^ (64 * m) % 2 ^ 64 : Nat) : Int) + ((b * 2 ^ (i % 64) : Nat) : Int) else ((o / 2 ^ (64 * m) % 2 ^ 64 : Nat) : Int)
    rw [this]
    split <;> simp
  have hr : ∀ m, 0 ≤ lim w m ∧ lim w m < 18446744073709551616 := fun m => lim_range hl w m
  have hro : ∀ m, 0 ≤ lim o m ∧ lim o m < 18446744073709551616 := fun m => lim_range hl o m
  have hsm : b * 2 ^ (i % 64) < 18446744073709551616 := by
    have h1 : 2 ^ (i % 64) ≤ 2 ^ 63 := Nat.pow_le_pow_right (by decide) (by omega)
    have h2 := Nat.mul_le_mul_right (2 ^ (i % 64)) hb
    have h3 : (2 : Nat) ^ 63 = 9223372036854775808 := by decide
    omega
  have hrem : ∀ (A : Ar) (hA : A = Ar.real), A.wrap .u64 (A.bin .rem .i64 (i : Int) 64) = ((i % 64 : Nat) : Int) := fun A hA => by
    have h1 : A.bin .rem .i64 (i : Int) 64 = ((i % 64 : Nat) : Int) := e_rem hA rfl rfl (by omega) (by omega)
    rw [h1, hA]
    have : ∀ x : Nat, x < 64 → IntKind.u64.wrap (x : Int) = (x : Int) := by decide
    exact this _ (Nat.mod_lt _ (by decide))
  have hok : ∀ (A : Ar) (hA : A = Ar.real), A.okb .shl (A.wrap .u64 (A.bin .rem .i64 (i : Int) 64)) = true := fun A hA => by
    rw [hrem A hA]; exact (a_okbS hA (by omega)).2
  have hval : ∀ (A : Ar) (hA : A = Ar.real), A.bin .add .u64 (lim o (i / 64)) (A.bin .shl .u64 (b : Int) (A.wrap .u64 (A.bin .rem .i64 (i : Int) 64))) = lim w (i / 64) := fun A hA => by
    rw [hrem A hA]
    have h1 := hput (i / 64)
    rw [if_pos rfl] at h1
    have h2 := hr (i / 64)
    have h3 := hro (i / 64)
    obtain ⟨x, hx⟩ : ∃ x : Nat, lim o (i / 64) = x := ⟨(lim o (i / 64)).toNat, by omega⟩
    rw [hx] at h1 h3 ⊢
    rw [h1, hA]
    have s : Ar.real.bin .shl .u64 (b : Int) ((i % 64 : Nat) : Int) = ((b * 2 ^ (i % 64) : Nat) : Int) := (u_shl b (i % 64) (by omega)).trans (congrArg Int.ofNat (Nat.mod_eq_of_lt hsm))
    rw [s]
    refine (q_add ?_).trans ?_
    · rw [h1] at h2; omega
    · simp
  have hquo : ∀ (A : Ar) (hA : A = Ar.real), A.bin .quo .i64 (i : Int) 64 = ((i / 64 : Nat) : Int) := fun A hA => e_quo hA rfl rfl (by omega) (by omega) (by omega) (by omega)
  generalize i / 64 = q at *
  have hne : ∀ m, m ≠ q → lim w m = lim o m := fun m h => by rw [hput, if_neg h]
  clear hput hr hro hsm hw hrem
  refine mk Tryz.func144 rfl rfl L0 R1 (by decide +kernel) fun A S hA hS => ?_
  have hq : lsub [.s .u64 (lim o 0), .s .u64 (lim o 1), .s .u64 (lim o 2), .s .u64 (lim o 3)] (A.offs 0 q 1) 1 = some [.s .u64 (lim o q)] := by rw [a_offsF hA, Nat.zero_add]; exact hcs.2 q hq4
  have hp := u4_put hA (lim o) (lim w) q hq4 (hval A hA) hne
  have hquo := hquo A hA
  have hok := hok A hA
  clear hval
  unfold bodyOf Tryz.f144
  cbv
  refine .sym q hquo hq4 ?_
  cbv
  refine .mk _ hq ?_
  cbv
  refine .mk hok ?_
  cbv
  refine .sym q hquo hq4 ?_
  cbv
  refine .mk _ hp ?_
  cbv
theorem sh_step (y i : Nat) : y % 2 ^ (i + 1) = y % 2 ^ i + y / 2 ^ i % 2 * 2 ^ i := by
  rw [Nat.pow_succ, Nat.mod_mul, Nat.mul_comm]
theorem i_gtK {A : Ar} (hA : A = Ar.real) {x y : Int} : A.cmp .gtr x y = decide (x > y) := by rw [hA]; rfl
/-- The reference's Shift to the right. -/
theorem rShiftS {lim : Lim} (hl : lim = limR) (x c : Nat) (hx : x < 2 ^ 256) (hc : c < 256) (z : Int) (hz : z = -(c : Int)) (v : Nat) (hv : v = x / 2 ^ c) : Sp 113 [u4 lim x, .s .i64 z, .i .u64 0] (u4 lim v) := by
  obtain ⟨sh, hsh⟩ : ∃ sh : Nat → Nat, ∀ i, sh i = x / 2 ^ c % 2 ^ i := ⟨fun i => x / 2 ^ c % 2 ^ i, fun _ => rfl⟩
  have s0 : sh 0 = 0 := by rw [hsh, Nat.pow_zero, Nat.mod_one]
  have s256 : sh 256 = v := by rw [hsh, hv]; exact Nat.mod_eq_of_lt (Nat.lt_of_le_of_lt (Nat.div_le_self _ _) hx)
  have hlt : ∀ i, sh i < 2 ^ i := fun i => by rw [hsh]; exact Nat.mod_lt _ (Nat.two_pow_pos _)
  have hst : ∀ i, sh (i + 1) = sh i + x / 2 ^ (i + c) % 2 * 2 ^ i := fun i => by
    rw [hsh, hsh, sh_step, Nat.div_div_eq_div_mul, ← Nat.pow_add, Nat.add_comm c i]
  have hbig : ∀ i, 256 ≤ i + c → sh (i + 1) = sh i := fun i h => by
    rw [hst, Nat.div_eq_of_lt (Nat.lt_of_lt_of_le hx (Nat.pow_le_pow_right (by decide) h))]; simp
  have cb : ∀ i : Nat, i < 256 → Sp 112 [u4 lim x, .s .i64 (i : Int)] (.s .u64 ((x / 2 ^ i % 2 : Nat) : Int)) := fun i hi => r2Bit hl x i hi
  have cs1 : ∀ i, i < 256 → Sp 144 [u4 lim (sh i), .s .i64 (i : Int), .s .u64 ((x / 2 ^ (i + c) % 2 : Nat) : Int)] (u4 lim (sh (i + 1))) := fun i hi => rSetS hl _ _ i hi (hlt i) (by omega) _ (hst i)
  have cs0 : ∀ i, i < 256 → 256 ≤ i + c → Sp 144 [u4 lim (sh i), .s .i64 (i : Int), .s .u64 ((0 : Nat) : Int)] (u4 lim (sh i)) := fun i hi h => rSetS hl _ 0 i hi (hlt i) (by omega) _ (by omega)
  have z0 : ∀ i, (0 : Int) = lim (sh 0) i := fun i => by rw [s0, hl]; show (0 : Int) = ((0 / 2 ^ (64 * i) % 2 ^ 64 : Nat) : Int); rw [Nat.zero_div]; rfl
  have z00 := z0 0
  have z01 := z0 1
  have z02 := z0 2
  have z03 := z0 3
  clear hsh hlt hst z0 s0 hv
  refine mk Tryz.func113 rfl rfl L00 R1 (by decide +kernel) fun A S hA hS => ?_
  unfold bodyOf Tryz.f113
  cbv
  refine .inv (α := Nat) (fun i => ⟨[.any, .s .i64 z, .i .u64 0, .own 0 0, .any, .any, .own 1 0, .own 2 0, .s .i64 ((i : Nat) : Int), .any, .any, .any, .any, .any, .any, .any, .any, .any, .any, .any, .any, .any, .any, .any, .any, .any, .any, .any, .any, .any, .any, .any, .any, .any], [⟨true, true, [.s .u64 (lim x 0), .s .u64 (lim x 1), .s .u64 (lim x 2), .s .u64 (lim x 3)]⟩, ⟨true, true, [.i .u64 0, .i .u64 0, .i .u64 0, .i .u64 0]⟩, ⟨true, true, [.s .u64 (lim (sh i) 0), .s .u64 (lim (sh i) 1), .s .u64 (lim (sh i) 2), .s .u64 (lim (sh i) 3)]⟩]⟩) (fun i => i ≤ 256) (fun i => 256 - i) 0 ?_ (Nat.zero_le _) ?_
  · cbv
    repeat' (first | exact z00 | exact z01 | exact z02 | exact z03 | exact rfl | exact trivial | constructor)
  intro i hi
  dsimp only at hi ⊢
  clear z00 z01 z02 z03
  by_cases h : i < 256
  · have hcmp := lt_t hA (n := 256) rfl h
    have hn := nx hA i (by omega)
    have p1 : i + 1 ≤ 256 := h
    have p2 : 256 - (i + 1) < 256 - i := by omega
    have hsub : A.bin .sub .i64 (i : Int) z = ((i + c : Nat) : Int) := by
      rw [hz]
      exact e_sub hA rfl rfl (show (i : Int) - -(c : Int) = ((i + c : Nat) : Int) by omega) (by unfold Fits; omega)
    have hlo : A.cmp .lss (A.bin .sub .i64 (i : Int) z) 0 = false := by rw [hsub]; exact (i_lt hA).trans (decide_eq_false (by omega))
    have hhi : A.cmp .gtr (A.bin .sub .i64 (i : Int) z) 255 = decide (255 < i + c) := by
      rw [hsub]; refine (i_gtK hA).trans ?_; congr 1; simp only [eq_iff_iff, gt_iff_lt]; omega
    by_cases h2 : 256 ≤ i + c
    · have d0 := cs0 i h h2
      have hb := hbig i h2
      rw [decide_eq_true (show 255 < i + c by omega)] at hhi
      clear cs0 cs1 cb hbig hsub s256 hz
      generalize i + 1 = i1 at *
      have w : ∀ j, lim (sh i) j = lim (sh i1) j := fun j => by rw [hb]
      have w0 := w 0
      have w1 := w 1
      have w2 := w 2
      have w3 := w 3
      clear w hb
      generalize sh i = s0 at *
      cbv
      refine ABr.t hcmp ?_
      cbv
      refine ABr.f hlo ?_
      cbv
      refine ABr.t hhi ?_
      cbv
      refine ACall.mk _ (cg hS d0 ?_) ?_
      · cbv
        repeat' (first | exact rfl | exact trivial | constructor)
      cbv
      refine ⟨i1, ?_, p1, p2⟩
      cbv
      repeat' (first | exact hn | exact w0 | exact w1 | exact w2 | exact w3 | exact rfl | exact trivial | constructor)
    · have d1 := cs1 i h
      have db := cb (i + c) (by omega)
      rw [decide_eq_false (show ¬ 255 < i + c by omega)] at hhi
      clear cs0 cs1 cb hbig s256 hz
      generalize x / 2 ^ (i + c) % 2 = bt at *
      generalize i + c = ic at *
      obtain ⟨o, ho⟩ : ∃ o, sh (i + 1) = o := ⟨_, rfl⟩
      rw [ho] at d1
      generalize i + 1 = i1 at *
      generalize sh i = oo at *
      cbv
      refine ABr.t hcmp ?_
      cbv
      refine ABr.f hlo ?_
      cbv
      refine ABr.f hhi ?_
      cbv
      refine ACall.mk _ (cg hS db ?_) ?_
      · cbv
        repeat' (first | exact hsub | exact rfl | exact trivial | constructor)
      cbv
      refine ACall.mk _ (cf hS d1) ?_
      cbv
      refine ⟨i1, ?_, p1, p2⟩
      subst ho
      cbv
      repeat' (first | exact hn | exact rfl | exact trivial | constructor)
  · obtain rfl : i = 256 := by omega
    have hcmp := lt_f hA (x := 256) (n := 256) rfl (by decide)
    clear cs0 cs1 cb hbig
    rw [s256]
    clear s256
    cbv
    refine ABr.f hcmp ?_
    cbv
theorem rSmall1 : Sp 114 [.agg [.i .u64 1, .i .u64 0, .i .u64 0, .i .u64 0], .i .i64 256] (.i .i64 1) := by
  refine mk Tryz.func114 rfl rfl L0 R1 (by decide +kernel) fun A S hA hS => ?_
  unfold bodyOf Tryz.f114
  cbv
theorem rShr1 {lim : Lim} (hl : lim = limR) (x : Nat) (hx : x < 2 ^ 256) : Sp 73 [.agg [.i .u64 1, .i .u64 0, .i .u64 0, .i .u64 0], u4 lim x] (u4 lim (x / 2)) := by
  have c0 := rSmall1
  have c1 := rShiftS hl x 1 hx (by decide) (-1) rfl (x / 2) (by rw [Nat.pow_one])
  generalize x / 2 = y at *
  refine mk Tryz.func73 rfl rfl L0 R1 (by decide +kernel) fun A S hA hS => ?_
  unfold bodyOf Tryz.f73
  cbv
  refine ACall.mk _ (cf hS c0) ?_
  cbv
  refine ACall.mk _ (cg hS c1 ?_) ?_
  · cbv
    repeat' (first | exact rfl | exact trivial | constructor)
  cbv
section
variable {H : H5} {k : Kf Sk.pS} {r : List AVal} {kn : Kf Sk.nS} {rn : List AVal} {m n : Nat} (hs : Sec H k r kn rn m n)
include hs
/-- The reference's Low. -/
theorem Sec.rlow (e : Nat) (he : e < 2 ^ 256) (t : Bool) (ht : t = decide (e ≤ Sk.nS / 2)) : Sp 32 [u4 H.lim e] (.sb t) := by
  have hl := H5.hlim hs.hH
  have hn := hs.cN
  have hn256 : n < 2 ^ 256 := by rw [hs.hn]; decide
  have c1 := rShr1 hl n hn256
  have c2 := rCmpS hl e (n / 2) he (by omega)
  rw [← hs.hn] at ht
  generalize n / 2 = y at *
  refine mk Tryz.func32 rfl rfl L0 R1 (by decide +kernel) fun A S hA hS => ?_
  have e2 : A.cmp .leq (cmpZ e y) 0 = t := by
    rw [ht]
    refine c_leq hA ?_
    unfold cmpZ
    by_cases h1 : e < y
    · rw [if_pos h1, decide_eq_true (show e ≤ y by omega)]; rfl
    · rw [if_neg h1]
      by_cases h2 : y < e
      · rw [if_pos h2, decide_eq_false (show ¬ e ≤ y by omega)]; rfl
      · rw [if_neg h2, decide_eq_true (show e ≤ y by omega)]; rfl
  generalize cmpZ e y = z at *
  clear ht
  unfold bodyOf Tryz.f32
  cbv
  refine ACall.mk _ (cf hS hn) ?_
  cbv
  refine ACall.mk _ (cf hS c1) ?_
  cbv
  refine ACall.mk _ (cf hS c2) ?_
  cbv
  exact e2
end
end Go.Proofs.YtkhipnhdbaahcaaGreat
end
section
set_option linter.unusedVariables false
set_option linter.unusedSectionVars false
set_option linter.unusedSimpArgs false
namespace Go.Proofs.YtkhipnhdbaahcaaGreat
open Go Eng
set_option maxRecDepth 100000
set_option exponentiation.threshold 2000
set_option maxHeartbeats 8000000
theorem nf_lt {a : Nat} (h : a < Sk.nS) : (Sk.nf a).val = a := Nat.mod_eq_of_lt h
/-- Whether the first is no greater. -/
theorem cmp_leq {A : Ar} (hA : A = Ar.real) (e y : Nat) (t : Bool) (ht : t = decide (e ≤ y)) : A.cmp .leq (cmpZ e y) 0 = t := by
  rw [ht]
  refine c_leq hA ?_
  unfold cmpZ
  by_cases h1 : e < y
  · rw [if_pos h1, decide_eq_true (show e ≤ y by omega)]; rfl
  · rw [if_neg h1]
    by_cases h2 : y < e
    · rw [if_pos h2, decide_eq_false (show ¬ e ≤ y by omega)]; rfl
    · rw [if_neg h2, decide_eq_true (show e ≤ y by omega)]; rfl
theorem mn_ne {e : Nat} (h : e ≠ 0 ∧ e < Sk.nS) : Gp.mn Sk.O Sk.G e ≠ none := fun c => by
  have := Sk.inj Sk.onG (by intro h; cases h) h.2 (show 0 < Sk.nS by decide) c
  exact h.1 this
section
variable {H : H5} {k : Kf Sk.pS} {r : List AVal} {kn : Kf Sk.nS} {rn : List AVal} {m n : Nat} (hs : Sec H k r kn rn m n)
include hs
/-- The program's Low. -/
theorem Sec.low (e : Nat) (he : e < 2 ^ 256) (t : Bool) (ht : t = decide (e ≤ Sk.nS / 2)) : Sp 31 [u4 H.lim e] (.sb t) := by
  have hl := H5.hlim hs.hH
  have sn := hs.sn
  have c1 := ofS hl 1 (by decide)
  have c2 := shrNS
  have c3 := cmpS hl e (Sk.nS / 2) he (by decide)
  have a0 : (1 : Int) = H.lim 1 0 := (hs.lim_small 1 (by decide)).1.symm
  have as_ : ∀ i, i < 3 → (0 : Int) = H.lim 1 (i + 1) := fun i hi => ((hs.lim_small 1 (by decide)).2 i hi).symm
  have n0 : (13822214165235122497 : Int) = H.lim n 0 := by rw [hs.hn, hl]; decide +kernel
  have n1 : (13451932020343611451 : Int) = H.lim n 1 := by rw [hs.hn, hl]; decide +kernel
  have n2 : (18446744073709551614 : Int) = H.lim n 2 := by rw [hs.hn, hl]; decide +kernel
  have n3 : (18446744073709551615 : Int) = H.lim n 3 := by rw [hs.hn, hl]; decide +kernel
  have h0 : (16134479119472337056 : Int) = H.lim (Sk.nS / 2) 0 := by rw [hl]; decide +kernel
  have h1 : (6725966010171805725 : Int) = H.lim (Sk.nS / 2) 1 := by rw [hl]; decide +kernel
  have h2 : (18446744073709551615 : Int) = H.lim (Sk.nS / 2) 2 := by rw [hl]; decide +kernel
  have h3 : (9223372036854775807 : Int) = H.lim (Sk.nS / 2) 3 := by rw [hl]; decide +kernel
  have a1 := as_ 0 (by decide)
  have a2 := as_ 1 (by decide)
  have a3 := as_ 2 (by decide)
  clear as_
  obtain ⟨y, hy⟩ : ∃ y, y = Sk.nS / 2 := ⟨_, rfl⟩
  rw [← hy] at c3 h0 h1 h2 h3 ht
  have fin := fun (A : Ar) (hA : A = Ar.real) => cmp_leq hA e y t ht
  generalize cmpZ e y = z at *
  clear ht hy
  refine mk Tryz.func31 rfl rfl L0 R1 (by decide +kernel) fun A S hA hS => ?_
  have fin := fin A hA
  unfold bodyOf Tryz.f31
  cbv
  refine ACall.mk _ (cg hS c1 ?_) ?_
  · cbv
  cbv
  refine ACall.mk _ (cf hS sn) ?_
  cbv
  refine ACall.mk _ (cg hS c2 ?_) ?_
  · cbv
    repeat' (first | exact a0.symm | exact a1.symm | exact a2.symm | exact a3.symm | exact n0.symm | exact n1.symm | exact n2.symm | exact n3.symm | exact rfl | exact trivial | constructor)
  cbv
  refine ACall.mk _ (cg hS c3 ?_) ?_
  · cbv
    repeat' (first | exact h0 | exact h1 | exact h2 | exact h3 | exact rfl | exact trivial | constructor)
  cbv
  exact fin
end
end Go.Proofs.YtkhipnhdbaahcaaGreat
end
section
set_option linter.unusedVariables false
set_option linter.unusedSectionVars false
set_option linter.unusedSimpArgs false
namespace Go.Proofs.YtkhipnhdbaahcaaGreat
open Go Eng Dg
set_option maxRecDepth 100000
set_option exponentiation.threshold 2000
set_option maxHeartbeats 8000000
/-- A byte more, from above. -/
theorem byte_put (o b n j : Nat) (ho : 2 ^ (8 * (n + 1)) ∣ o) (hb : b < 256) : (o + b * 2 ^ (8 * n)) / 2 ^ (64 * j) % 2 ^ 64 = if j = n / 8 then o / 2 ^ (64 * j) % 2 ^ 64 + b * 2 ^ (8 * (n % 8)) else o / 2 ^ (64 * j) % 2 ^ 64 := by
  obtain ⟨u, rfl⟩ := ho
  have hi : n = 8 * (n / 8) + n % 8 := by omega
  have hr : n % 8 < 8 := Nat.mod_lt _ (by decide)
  generalize n / 8 = q at *
  generalize n % 8 = r at *
  subst hi
  by_cases h1 : j = q
  · rw [if_pos h1]
    subst h1
    have e1 : 2 ^ (8 * (8 * j + r + 1)) * u = 2 ^ (64 * j) * (2 ^ (8 * r) * (256 * u)) := by
      rw [show 8 * (8 * j + r + 1) = 64 * j + (8 * r + 8) by omega, Nat.pow_add, Nat.pow_add, Nat.mul_assoc, Nat.mul_assoc]
    have e2 : b * 2 ^ (8 * (8 * j + r)) = 2 ^ (64 * j) * (2 ^ (8 * r) * b) := by
      rw [show 8 * (8 * j + r) = 64 * j + 8 * r by omega, Nat.pow_add, Nat.mul_comm b, Nat.mul_assoc]
    rw [e1, e2, ← Nat.mul_add, Nat.mul_div_cancel_left _ (Nat.two_pow_pos _), Nat.mul_div_cancel_left _ (Nat.two_pow_pos _), ← Nat.mul_add]
    have e3 : (2 : Nat) ^ 64 = 2 ^ (8 * r) * (256 * 2 ^ (56 - 8 * r)) := by
      rw [show (256 : Nat) = 2 ^ 8 from rfl, ← Nat.pow_add, ← Nat.pow_add, show 8 * r + (8 + (56 - 8 * r)) = 64 by omega]
    rw [e3, Nat.mul_mod_mul_left, Nat.mul_mod_mul_left, Nat.mul_mod_mul_left]
    generalize 2 ^ (56 - 8 * r) = M
    have e4 : (256 * u + b) % (256 * M) = 256 * (u % M) + b := by
      rw [Nat.mod_mul]
      have a1 : (256 * u + b) % 256 = b := by omega
      have a2 : (256 * u + b) / 256 = u := by omega
      rw [a1, a2]; omega
    rw [e4, Nat.mul_add, Nat.mul_comm b]
  · rw [if_neg h1]
    by_cases h2 : j < q
    · have e : b * 2 ^ (8 * (8 * q + r)) = 2 ^ (64 * j) * (2 ^ 64 * (b * 2 ^ (64 * (q - j - 1) + 8 * r))) := by
        rw [show 8 * (8 * q + r) = 64 * j + 64 + (64 * (q - j - 1) + 8 * r) by omega, Nat.pow_add, Nat.pow_add]
        rw [Nat.mul_assoc, Nat.mul_left_comm b, Nat.mul_left_comm b]
      rw [e, Nat.add_mul_div_left _ _ (Nat.two_pow_pos _), Nat.add_mul_mod_self_left]
    · have e : 2 ^ (64 * j) = 2 ^ (8 * (8 * q + r + 1)) * 2 ^ (64 * j - 8 * (8 * q + r + 1)) := by
        rw [← Nat.pow_add]; congr 1; omega
      rw [e, ← Nat.div_div_eq_div_mul, ← Nat.div_div_eq_div_mul]
      have h3 : b * 2 ^ (8 * (8 * q + r)) < 2 ^ (8 * (8 * q + r + 1)) := by
        rw [show 8 * (8 * q + r + 1) = 8 * (8 * q + r) + 8 by omega, Nat.pow_add, Nat.mul_comm]
        exact Nat.mul_lt_mul_of_pos_left hb (Nat.two_pow_pos _)
      rw [Nat.add_comm, Nat.add_mul_div_left _ _ (Nat.two_pow_pos _), Nat.div_eq_of_lt h3, Nat.zero_add, Nat.mul_div_cancel_left _ (Nat.two_pow_pos _)]
theorem pow_256 (n : Nat) : 256 ^ n = 2 ^ (8 * n) := by rw [show (256 : Nat) = 2 ^ 8 from rfl, ← Nat.pow_mul]
theorem rd_dig {h : Nat → Nat} (hh : ∀ j, h j < 256) (i : Nat) (hi : i < 32) : rdN h / 2 ^ (8 * (31 - i)) % 256 = h i := by
  have := V_dig (B := 256) (o := fun i => h (31 - i)) (by decide) 32 (fun j _ => hh _) (31 - i) (by omega)
  rw [pow_256] at this
  rw [show 31 - (31 - i) = i by omega] at this
  exact this
/-- The bytes read so far. -/
def rdT (h : Nat → Nat) (i : Nat) : Nat := rdN h / 2 ^ (8 * (32 - i)) * 2 ^ (8 * (32 - i))
theorem rdT_0 {h : Nat → Nat} (hh : ∀ j, h j < 256) : rdT h 0 = 0 := by
  unfold rdT
  rw [Nat.div_eq_of_lt (rdN_lt hh), Nat.zero_mul]
theorem rdT_32 (h : Nat → Nat) : rdT h 32 = rdN h := by
  unfold rdT
  simp
theorem rdT_s {h : Nat → Nat} (hh : ∀ j, h j < 256) (i : Nat) (hi : i < 32) : rdT h (i + 1) = rdT h i + h i * 2 ^ (8 * (31 - i)) := by
  have d := rd_dig hh i hi
  unfold rdT
  rw [show 32 - (i + 1) = 31 - i by omega, show 32 - i = (31 - i) + 1 by omega]
  generalize 31 - i = n at *
  have e : 2 ^ (8 * (n + 1)) = 2 ^ (8 * n) * 256 := by rw [show 8 * (n + 1) = 8 * n + 8 by omega, Nat.pow_add]
  rw [e, ← Nat.div_div_eq_div_mul, ← d]
  generalize rdN h / 2 ^ (8 * n) = y
  rw [Nat.mul_left_comm, Nat.mul_comm y, Nat.mul_comm (y % 256), ← Nat.mul_add]
  congr 1
  omega
theorem h_get (F : Nat → Int) (i : Nat) (hi : i < 32) : lsub (hsh F) (i * 1) 1 = some [.s .u8 (F i)] := by
  have h : ∀ n, n < 32 → n = 0 ∨ n = 1 ∨ n = 2 ∨ n = 3 ∨ n = 4 ∨ n = 5 ∨ n = 6 ∨ n = 7 ∨ n = 8 ∨ n = 9 ∨ n = 10 ∨ n = 11 ∨ n = 12 ∨ n = 13 ∨ n = 14 ∨ n = 15 ∨ n = 16 ∨ n = 17 ∨ n = 18 ∨ n = 19 ∨ n = 20 ∨ n = 21 ∨ n = 22 ∨ n = 23 ∨ n = 24 ∨ n = 25 ∨ n = 26 ∨ n = 27 ∨ n = 28 ∨ n = 29 ∨ n = 30 ∨ n = 31 := fun n hn => by omega
  rcases h i hi with rfl | rfl | rfl | rfl | rfl | rfl | rfl | rfl | rfl | rfl | rfl | rfl | rfl | rfl | rfl | rfl | rfl | rfl | rfl | rfl | rfl | rfl | rfl | rfl | rfl | rfl | rfl | rfl | rfl | rfl | rfl | rfl
  all_goals rfl
theorem rReadS {lim : Lim} (hl : lim = limR) (h : Nat → Nat) (hh : ∀ j, h j < 256) (F : Nat → Int) (hF : F = fun j => ((h j : Nat) : Int)) : Sp 42 [.lst false 32 (hsh F)] (u4 lim (rdN h)) := by
  obtain ⟨t, ht⟩ : ∃ t : Nat → Nat, t = rdT h := ⟨_, rfl⟩
  have t0 : t 0 = 0 := by rw [ht]; exact rdT_0 hh
  have t32 : t 32 = rdN h := by rw [ht]; exact rdT_32 h
  have hst : ∀ i, i < 32 → t (i + 1) = t i + h i * 2 ^ (8 * (31 - i)) := fun i hi => by rw [ht]; exact rdT_s hh i hi
  have hdv : ∀ i, i < 32 → 2 ^ (8 * (31 - i + 1)) ∣ t i := fun i hi => by
    rw [ht]
    exact ⟨rdN h / 2 ^ (8 * (32 - i)), by unfold rdT; rw [show 31 - i + 1 = 32 - i by omega, Nat.mul_comm]⟩
  have hput : ∀ i, i < 32 → ∀ m, lim (t (i + 1)) m = if m = (31 - i) / 8 then lim (t i) m + ((h i * 2 ^ (8 * ((31 - i) % 8)) : Nat) : Int) else lim (t i) m := fun i hi m => by
    have := byte_put (t i) (h i) (31 - i) m (hdv i hi) (hh i)
    rw [← hst i hi] at this
    rw [hl]
    show ((t (i + 1) / 2 ^ (64 * m) % 2 ^ 64 : Nat) : Int) = if m = (31 - i) / 8 then ((t i / 2 ^ (64 * m) % 2 ^ 64 : Nat) : Int) + ((h i * 2 ^ (8 * ((31 - i) % 8)) : Nat) : Int) else ((t i / 2 ^ (64 * m) % 2 ^ 64 : Nat) : Int)
    rw [this]
    split <;> simp
  have z0 : ∀ i, (0 : Int) = lim (t 0) i := fun i => by rw [t0, hl]; show (0 : Int) = ((0 / 2 ^ (64 * i) % 2 ^ 64 : Nat) : Int); rw [Nat.zero_div]; rfl
  have z00 := z0 0
  have z01 := z0 1
  have z02 := z0 2
  have z03 := z0 3
  clear ht t0 hst hdv z0
  generalize rdN h = v at *
  refine mk Tryz.func42 rfl rfl L00 R1 (by decide +kernel) fun A S hA hS => ?_
  unfold bodyOf Tryz.f42
  cbv
  refine .inv (α := Nat) (fun i => ⟨[.lst false 32 (hsh F), .any, .own 0 0, .own 1 0, .s .i64 ((i : Nat) : Int), .any, .any, .any, .any, .any, .any, .any, .any, .any, .any, .any, .any, .any, .any, .any, .any, .any, .any, .any, .any, .any, .any, .any, .any, .any, .any, .any, .any, .any, .any, .any], [⟨true, true, [.i .u64 0, .i .u64 0, .i .u64 0, .i .u64 0]⟩, ⟨true, true, [.s .u64 (lim (t i) 0), .s .u64 (lim (t i) 1), .s .u64 (lim (t i) 2), .s .u64 (lim (t i) 3)]⟩]⟩) (fun i => i ≤ 32) (fun i => 32 - i) 0 ?_ (Nat.zero_le _) ?_
  · cbv
    repeat' (first | exact z00 | exact z01 | exact z02 | exact z03 | exact rfl | exact trivial | constructor)
  intro i hi
  dsimp only at hi ⊢
  clear z00 z01 z02 z03
  by_cases hi32 : i < 32
  · have hcmp := lt_t hA (n := 32) rfl hi32
    have hn := nx hA i (by omega)
    have p1 : i + 1 ≤ 32 := hi32
    have p2 : 32 - (i + 1) < 32 - i := by omega
    have hsub : A.bin .sub .i64 31 (i : Int) = ((31 - i : Nat) : Int) := e_sub hA rfl rfl (show (31 : Int) - (i : Int) = ((31 - i : Nat) : Int) by omega) (by unfold Fits; omega)
    have hquo : A.bin .quo .i64 (A.bin .sub .i64 31 (i : Int)) 8 = (((31 - i) / 8 : Nat) : Int) := by
      rw [hsub]; exact e_quo hA rfl rfl (by omega) (by omega) (by omega) (by unfold Fits; omega)
    have hrem : A.bin .rem .i64 (A.bin .sub .i64 31 (i : Int)) 8 = (((31 - i) % 8 : Nat) : Int) := by
      rw [hsub]; exact e_rem hA rfl rfl (by omega) (by omega)
    have hq4 : (31 - i) / 8 < 4 := by omega
    have hr8 : (31 - i) % 8 < 8 := Nat.mod_lt _ (by decide)
    have hp := hput i hi32
    have hw := fun m => lim_range hl (t (i + 1)) m
    have ho := fun m => lim_range hl (t i) m
    have hb := hh i
    have hFi : F i = ((h i : Nat) : Int) := by rw [hF]
    have hcs := row4F lim (t i)
    have hrow := h_get F i hi32
    clear hput hF t32 hh hsub
    generalize (31 - i) / 8 = q at *
    generalize (31 - i) % 8 = rr at *
    generalize h i = b at *
    have hmul : A.wrap .u64 (A.bin .mul .i64 8 (A.bin .rem .i64 (A.bin .sub .i64 31 (i : Int)) 8)) = ((8 * rr : Nat) : Int) := by
      rw [hrem, hA]
      have : ∀ x : Nat, x < 8 → IntKind.u64.wrap (rbin .mul .i64 8 (x : Int)) = ((8 * x : Nat) : Int) := by decide +kernel
      exact this _ hr8
    have hok : A.okb .shl (A.wrap .u64 (A.bin .mul .i64 8 (A.bin .rem .i64 (A.bin .sub .i64 31 (i : Int)) 8))) = true := by rw [hmul]; exact (a_okbS hA (by omega)).2
    have hsm : b * 2 ^ (8 * rr) < 18446744073709551616 := by
      have h1 : (2 : Nat) ^ (8 * rr) ≤ 2 ^ 56 := Nat.pow_le_pow_right (by decide) (by omega)
      have h2 := Nat.mul_le_mul_right (2 ^ (8 * rr)) (show b ≤ 255 by omega)
      have h3 : (2 : Nat) ^ 56 = 72057594037927936 := by decide
      omega
    have hval : A.bin .add .u64 (lim (t i) q) (A.bin .shl .u64 (A.wrap .u64 (F i)) (A.wrap .u64 (A.bin .mul .i64 8 (A.bin .rem .i64 (A.bin .sub .i64 31 (i : Int)) 8)))) = lim (t (i + 1)) q := by
      rw [hmul, hFi]
      have h1 : lim (t (i + 1)) q = lim (t i) q + ((b * 2 ^ (8 * rr) : Nat) : Int) := (hp q).trans (if_pos rfl)
      have h2 := hw q
      have h3 := ho q
      obtain ⟨x, hx⟩ : ∃ x : Nat, lim (t i) q = x := ⟨(lim (t i) q).toNat, by omega⟩
      rw [hx] at h1 h3 ⊢
      rw [h1]
      have hwb : A.wrap .u64 (b : Int) = (b : Int) := by
        rw [hA]
        have : ∀ x : Nat, x < 256 → IntKind.u64.wrap (x : Int) = (x : Int) := by decide +kernel
        exact this _ hb
      rw [hwb, hA]
      have s : Ar.real.bin .shl .u64 (b : Int) ((8 * rr : Nat) : Int) = ((b * 2 ^ (8 * rr) : Nat) : Int) := (u_shl b (8 * rr) (by omega)).trans (congrArg Int.ofNat (Nat.mod_eq_of_lt hsm))
      rw [s]
      rw [h1] at h2
      generalize b * 2 ^ (8 * rr) = vv at h2 hsm ⊢
      refine (q_add (x := x) (y := vv) (by omega)).trans ?_
      simp
    have hne : ∀ m, m ≠ q → lim (t (i + 1)) m = lim (t i) m := fun m h => by rw [hp, if_neg h]
    have hq : lsub [.s .u64 (lim (t i) 0), .s .u64 (lim (t i) 1), .s .u64 (lim (t i) 2), .s .u64 (lim (t i) 3)] (A.offs 0 q 1) 1 = some [.s .u64 (lim (t i) q)] := by rw [a_offsF hA, Nat.zero_add]; exact hcs.2 q hq4
    have hpt := u4_put hA (lim (t i)) (lim (t (i + 1))) q hq4 hval hne
    clear hval hne hp hw ho hb hFi hcs hmul hrem hr8 hsm
    generalize i + 1 = i1 at *
    cbv
    refine ABr.t hcmp ?_
    cbv
    refine .sym q hquo hq4 ?_
    cbv
    refine .mk _ hq ?_
    cbv
    refine .sym i rfl hi32 ?_
    cbv
    refine .mk _ hrow ?_
    cbv
    refine .mk hok ?_
    cbv
    refine .sym q hquo hq4 ?_
    cbv
    refine .mk _ hpt ?_
    cbv
    refine ⟨i1, ?_, p1, p2⟩
    cbv
    repeat' (first | exact hn | exact rfl | exact trivial | constructor)
  · obtain rfl : i = 32 := by omega
    have hcmp := lt_f hA (x := 32) (n := 32) rfl (by decide)
    clear hput
    rw [t32]
    clear t32
    cbv
    refine ABr.f hcmp ?_
    cbv
section
variable {H : H5} {k : Kf Sk.pS} {r : List AVal} {kn : Kf Sk.nS} {rn : List AVal} {m n : Nat} (hs : Sec H k r kn rn m n)
include hs
theorem Sec.rnumber (h : Nat → Nat) (hh : ∀ j, h j < 256) (F : Nat → Int) (hF : F = fun j => ((h j : Nat) : Int)) (z : Nat) (hz : z = rdN h % Sk.nS) : Sp 87 [.agg (hsh F)] (u4 H.lim z) := by
  have hl := H5.hlim hs.hH
  have c1 := rReadS hl h hh F hF
  have c2 := fromS hl (rdN h) (rdN_lt hh) _ rfl
  have c3 := hs.cN
  have c4 := redS hl (redN hl n hs.hn) (rdN h) (Nat.lt_trans (rdN_lt hh) (by decide)) _ rfl
  rw [hs.hn] at c4
  rw [← hz] at c4
  generalize dg 4294967296 (rdN h) = x at *
  generalize rdN h = v at *
  clear hF hh
  have hn := hs.hn
  rw [← hn] at c4
  clear hn hs
  refine mk Tryz.func87 rfl rfl L0 R1 (by decide +kernel) fun A S hA hS => ?_
  unfold bodyOf Tryz.f87
  cbv
  refine ACall.mk _ (cf hS c1) ?_
  cbv
  refine ACall.mk _ (cf hS c2) ?_
  cbv
  refine ACall.mk _ (cf hS c3) ?_
  cbv
  refine ACall.mk _ (cf hS c4) ?_
  cbv
end
end Go.Proofs.YtkhipnhdbaahcaaGreat
end
