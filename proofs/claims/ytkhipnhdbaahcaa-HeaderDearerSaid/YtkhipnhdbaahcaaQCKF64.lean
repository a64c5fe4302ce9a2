import Derived.Test.YtkhipnhdbaahcaaQCHF
import Derived.Test.YtkhipnhdbaahcaaQCKC
set_option linter.unusedVariables false
set_option linter.unusedSimpArgs false
set_option linter.unusedSectionVars false
set_option maxRecDepth 100000
set_option exponentiation.threshold 2000
set_option maxHeartbeats 8000000
set_option maxHeartbeats 4000000
section
namespace Go.Proofs.Ytkhipnhdbaahcaa
open Go Eng
def RBf : Nat → Md := fun r => match r with
 | 0 => .tre []
 | 1 => .res [7, 10, 12]
 | _ => .mid
theorem fee0Gt  {lim : Lim} (hl : lim = limR) (f L U t n n' : Nat) (hf : f < 2 ^ 256) (hLW : L < 18446744073709551616) (hUW : U < 18446744073709551616) (ht : t = L / 2) (h0 : 0 < t) (h1 : t < U) (hn : n = f * (U - t) / t / 8 % 2 ^ 256) (hn' : n' = if n = 0 then 1 else n) : Sp 11 [.agg [.i .u8 0, .i .u8 0, .i .u8 0, .i .u8 0, .i .u8 0, .i .u8 0, .i .u8 0, .i .u8 0, .i .u8 0, .i .u8 0, .i .u8 0, .i .u8 0, .i .u8 0, .i .u8 0, .i .u8 0, .i .u8 0, .i .u8 0, .i .u8 0, .i .u8 0, .i .u8 0, .i .u8 0, .i .u8 0, .i .u8 0, .i .u8 0, .i .u8 0, .i .u8 0, .i .u8 0, .i .u8 0, .i .u8 0, .i .u8 0, .i .u8 0, .i .u8 0, .i .u8 0, .i .u8 0, .i .u8 0, .i .u8 0, .i .u8 0, .i .u8 0, .i .u8 0, .i .u8 0, .i .u8 0, .i .u8 0, .i .u8 0, .i .u8 0, .i .u8 0, .i .u8 0, .i .u8 0, .i .u8 0, .i .u8 0, .i .u8 0, .i .u8 0, .i .u8 0, .i .u8 0, .i .u8 0, .i .u8 0, .i .u8 0, .i .u8 0, .i .u8 0, .i .u8 0, .i .u8 0, .i .u8 0, .i .u8 0, .i .u8 0, .i .u8 0, .i .u8 0, .i .u8 0, .i .u8 0, .i .u8 0, .i .u8 0, .i .u8 0, .i .u8 0, .i .u8 0, .i .u8 0, .i .u8 0, .i .u8 0, .i .u8 0, .i .u8 0, .i .u8 0, .i .u8 0, .i .u8 0, .i .u8 0, .i .u8 0, .i .u8 0, .i .u8 0, .i .u8 0, .i .u8 0, .i .u8 0, .i .u8 0, .i .u8 0, .i .u8 0, .i .u8 0, .i .u8 0, .i .u8 0, .i .u8 0, .i .u8 0, .i .u8 0, .i .u8 0, .i .u8 0, .i .u8 0, .i .u8 0, .i .u8 0, .i .u8 0, .i .u8 0, .i .u8 0, .i .u8 0, .i .u8 0, .i .u8 0, .i .u8 0, .i .u8 0, .i .u8 0, .i .u8 0, .i .u8 0, .i .u8 0, .i .u8 0, .i .u8 0, .i .u8 0, .i .u8 0, .i .u8 0, .i .u8 0, .i .u8 0, .i .u8 0, .i .u8 0, .i .u8 0, .i .u8 0, .i .u8 0, .i .u8 0, .i .u8 0, .i .u8 0, .i .u8 0, .i .u8 0, .i .u8 0, .i .u8 0, .i .u8 0, .i .u8 0, .i .u8 0, .i .u8 0, .i .u8 0, .i .u8 0, .i .u8 0, .i .u8 0, .i .u8 0, .i .u8 0, .i .u8 0, .i .u8 0, .i .u8 0, .i .u8 0, .i .u8 0, .i .u8 0, .i .u8 0, .i .u8 0, .i .u8 0, .i .u8 0, .i .u8 0, .i .u8 0, .i .u8 0, .i .u8 0, .i .u8 0, .i .u8 0, .i .u8 0, .i .u8 0, .i .u8 0, .i .u8 0, .i .u8 0, .i .u8 0, .i .u8 0, .i .u8 0, .i .u8 0, .i .u8 0, .i .u8 0, .i .u8 0, .i .u8 0, .i .u8 0, .i .u8 0, .i .u8 0, .i .u8 0, .i .u8 0, .i .u8 0, .i .u8 0, .i .u8 0, .i .u8 0, .i .u8 0, .i .u8 0, .i .u8 0, .i .u8 0, .i .u8 0, .i .u8 0, .i .u8 0, .i .u8 0, .i .u8 0, .i .u8 0, .i .u8 0, .i .u8 0, .i .u8 0, .i .u8 0, .i .u8 0, .i .u8 0, .i .u8 0, .i .u8 0, .i .u8 0, .i .u8 0, .i .u8 0, .i .u8 0, .i .u8 0, .i .u8 0, .i .u8 0, .i .u8 0, .i .u8 0, .i .u8 0, .i .u8 0, .i .u8 0, .i .u8 0, .i .u8 0, .i .u8 0, .i .u8 0, .i .u8 0, .i .u8 0, .i .u8 0, .i .u8 0, .i .u8 0, .i .u8 0, .i .u8 0, .i .u8 0, .i .u8 0, .i .u8 0, .i .u8 0, .i .u8 0, .i .u8 0, .i .u8 0, .i .u8 0, .i .u8 0, .i .u8 0, .i .u8 0, .i .u8 0, .i .u8 0, .i .u8 0, .i .u8 0, .i .u8 0, .i .u8 0, .i .u8 0, .i .u8 0, .i .u8 0, .i .u8 0, .i .u8 0, .i .u8 0, .i .u8 0, .i .u8 0, .i .u8 0, .i .u8 0, .i .u8 0, .i .u8 0, .i .u8 0, .i .u8 0, .i .u8 0, .i .u8 0, .i .u8 0, .i .u8 0, .i .u8 0, .i .u8 0, .i .u8 0, .i .u8 0, .i .u8 0, .i .u8 0, .i .u8 0, .i .u8 0, .i .u8 0, .i .u8 0, .i .u8 0, .i .u8 0, .i .u8 0, .i .u8 0, .i .u8 0, .i .u8 0, .i .u8 0, .i .u8 0, .i .u8 0, .i .u8 0, .i .u8 0, .i .u8 0, .i .u8 0, .i .u8 0, .i .u8 0, .i .u8 0, .i .u8 0, .i .u8 0, .i .u8 0, .i .u8 0, .i .u8 0, .i .u8 0, .i .u8 0, .i .u8 0, .i .u8 0, .i .u8 0, .i .u8 0, .i .u8 0, .i .u8 0, .i .u8 0, .i .u8 0, .i .u8 0, .i .u8 0, .i .u8 0, .i .u8 0, .i .u8 0, .i .u8 0, .i .u8 0, .i .u8 0, .i .u8 0, .i .u8 0, .i .u8 0, .i .u8 0, .i .u8 0, .i .u8 0, .i .u8 0, .i .u8 0, .i .u8 0, .i .u8 0, .i .u8 0, .i .u8 0, .i .u8 0, .i .u8 0, .i .u8 0, .i .u8 0, .i .u8 0, .i .u8 0, .i .u8 0, .i .u8 0, .i .u8 0, .i .u8 0, .i .u8 0, .i .u8 0, .i .u8 0, .i .u8 0, .i .u8 0, .i .u8 0, .i .u8 0, .i .u8 0, .i .u8 0, .i .u8 0, .i .u8 0, .i .u8 0, .i .u8 0, .i .u8 0, .i .u8 0, .i .u8 0, .i .u8 0, .i .u8 0, .i .u8 0, .i .u8 0, .i .u8 0, .i .u8 0, .i .u8 0, .i .u8 0, .i .u8 0, .i .u8 0, .i .u8 0, .i .u8 0, .i .u8 0, .i .u8 0, .i .u8 0, .i .u8 0, .i .u8 0, .i .u8 0, .i .u8 0, .i .u8 0, .i .u8 0, .i .u8 0, .i .u8 0, .i .u8 0, .i .u8 0, .i .u8 0, .i .u8 0, .i .u8 0, .i .u8 0, .i .u8 0, .i .u8 0, .i .u8 0, .i .u8 0, .i .u8 0, .i .u8 0, .i .u8 0, .i .u8 0, .i .u8 0, .i .u8 0, .i .u8 0, .i .u8 0, .i .u8 0, .i .u8 0, .i .u8 0, .i .u8 0, .i .u8 0, .i .u8 0, .i .u8 0, .i .u8 0, .i .u8 0, .i .u8 0, .i .u8 0, .i .u8 0, .i .u8 0, .i .u8 0, .i .u8 0, .i .u8 0, .i .u8 0, .i .u8 0, .i .u8 0, .i .u8 0, .i .u8 0, .i .u8 0, .i .u8 0, .i .u8 0, .i .u8 0, .i .u8 0, .i .u8 0, .i .u8 0, .i .u8 0, .i .u8 0, .i .u8 0, .i .u8 0, .i .u8 0, .i .u8 0, .i .u8 0, .i .u8 0, .i .u8 0, .i .u8 0, .i .u8 0, .i .u8 0, .i .u8 0, .i .u8 0, .i .u8 0, .i .u8 0, .i .u8 0, .i .u8 0, .i .u8 0, .i .u8 0, .i .u8 0, .i .u8 0, .i .u8 0, .i .u8 0, .i .u64 0, .i .u64 0, .i .u64 0, .i .u64 0, .i .u64 0, .s .u64 (L : Int), .s .u64 (U : Int), .i .u64 0, .v (.slice none 0 0), .i .u8 0, .i .u8 0, .i .u8 0, .i .u8 0, .i .u8 0, .i .u8 0, .i .u8 0, .i .u8 0, .i .u8 0, .i .u8 0, .i .u8 0, .i .u8 0, .i .u8 0, .i .u8 0, .i .u8 0, .i .u8 0, .i .u8 0, .i .u8 0, .i .u8 0, .i .u8 0, .i .u8 0, .i .u8 0, .i .u8 0, .i .u8 0, .i .u8 0, .i .u8 0, .i .u8 0, .i .u8 0, .i .u8 0, .i .u8 0, .i .u8 0, .i .u8 0, .i .u8 0, .i .u8 0, .i .u8 0, .i .u8 0, .i .u8 0, .i .u8 0, .i .u8 0, .i .u8 0, .s .u64 (lim f 0), .s .u64 (lim f 1), .s .u64 (lim f 2), .s .u64 (lim f 3), .i .u8 0, .i .u8 0, .i .u8 0, .i .u8 0, .i .u8 0, .i .u8 0, .i .u8 0, .i .u8 0, .i .u8 0, .i .u8 0, .i .u8 0, .i .u8 0, .i .u8 0, .i .u8 0, .i .u8 0, .i .u8 0, .i .u8 0, .i .u8 0, .i .u8 0, .i .u8 0, .i .u8 0, .i .u8 0, .i .u8 0, .i .u8 0, .i .u8 0, .i .u8 0, .i .u8 0, .i .u8 0, .i .u8 0, .i .u8 0, .i .u8 0, .i .u8 0, .i .u64 0, .i .u64 0, .i .u8 0, .i .u8 0, .i .u8 0, .i .u8 0, .i .u8 0, .i .u8 0, .i .u8 0, .i .u8 0, .i .u8 0, .i .u8 0, .i .u8 0, .i .u8 0, .i .u8 0, .i .u8 0, .i .u8 0, .i .u8 0, .i .u8 0, .i .u8 0, .i .u8 0, .i .u8 0, .i .u8 0, .i .u8 0, .i .u8 0, .i .u8 0, .i .u8 0, .i .u8 0, .i .u8 0, .i .u8 0, .i .u8 0, .i .u8 0, .i .u8 0, .i .u8 0]] (u4 lim ((f + n') % 2 ^ 256)) := by
 have tW : t < 18446744073709551616 := by omega
 have cw := hwideS hl f (U - t) t hf (by omega) h0 tW
 rw [← hn] at cw
 have n256 : n < 2 ^ 256 := by rw [hn]; exact Nat.mod_lt _ (Nat.two_pow_pos _)
 have n'256 : n' < 2 ^ 256 := by rw [hn']; split; decide; exact n256
 have c1 := ofS hl 1 (by decide)
 have cc := cmpS hl n 1 n256 (by decide)
 have ca := wAddS hl f n' hf n'256
 have e := fun (A : Ar) (hA : A = Ar.real) => (b_quo hA L 2 hLW).trans (congrArg Int.ofNat ht.symm)
 have es := fun (A : Ar) (hA : A = Ar.real) => b_sub hA U t (by omega) hUW
 obtain ⟨d, hd⟩ : ∃ d, d = U - t := ⟨_, rfl⟩
 rw [← hd] at cw es
 generalize (f + n') % 2 ^ 256 = r at *
 clear hn hf n'256
 by_cases hz : n = 0
 . rw [if_pos hz] at hn'
   rw [hn'] at ca
   have ez := fun (A : Ar) (hA : A = Ar.real) => show A.cmp .lss (cmpZ n 1) 0 = true by rw [hz, hA]; rfl
   generalize cmpZ n 1 = z at *
   refine mk Try.func11 rfl rfl L0 RBf (by decide +kernel) fun A S hA hS => ?_
   have e : A.bin .quo .u64 (L : Int) 2 = (t : Int) := e A hA
   have es := es A hA
   have q1 : A.cmp .eql (U : Int) (A.bin .quo .u64 (L : Int) 2) = false := by rw [e, hA]; exact beq_eq_false_iff_ne.2 (by omega)
   have q2 : A.cmp .eql (A.bin .quo .u64 (L : Int) 2) 0 = false := by rw [e, hA]; exact beq_eq_false_iff_ne.2 (by omega)
   have q3 : A.cmp .gtr (U : Int) (A.bin .quo .u64 (L : Int) 2) = true := by rw [e, hA]; exact decide_eq_true (by omega)
   have q4 : A.bin .sub .u64 (U : Int) (A.bin .quo .u64 (L : Int) 2) = (d : Int) := by rw [e]; exact es
   have ez := ez A hA
   clear es ht hd h0 h1 hz hn' tW
   unfold bodyOf Try.f11
   cbv
   repeat (first | (refine ABr.f q1 ?_; cbv) | (refine ABr.f q2 ?_; cbv) | (refine ABr.t q3 ?_; cbv))
   refine aG hS cw ?_ ?_
   . cbv
     repeat' (first | exact q4 | exact e | exact rfl | exact trivial | constructor)
   cbv
   refine aG hS c1 ?_ ?_
   . cbv
   cbv
   refine aF hS cc ?_
   cbv
   refine ABr.t ez ?_
   cbv
   refine aG hS c1 ?_ ?_
   . cbv
   cbv
   refine aF hS ca ?_
   cbv
 . rw [if_neg hz] at hn'
   rw [hn'] at ca
   have ez := fun (A : Ar) (hA : A = Ar.real) => show A.cmp .lss (cmpZ n 1) 0 = false by
     rw [hA]; unfold cmpZ; rw [if_neg (by omega)]; split <;> rfl
   generalize cmpZ n 1 = z at *
   refine mk Try.func11 rfl rfl L0 RBf (by decide +kernel) fun A S hA hS => ?_
   have e : A.bin .quo .u64 (L : Int) 2 = (t : Int) := e A hA
   have es := es A hA
   have q1 : A.cmp .eql (U : Int) (A.bin .quo .u64 (L : Int) 2) = false := by rw [e, hA]; exact beq_eq_false_iff_ne.2 (by omega)
   have q2 : A.cmp .eql (A.bin .quo .u64 (L : Int) 2) 0 = false := by rw [e, hA]; exact beq_eq_false_iff_ne.2 (by omega)
   have q3 : A.cmp .gtr (U : Int) (A.bin .quo .u64 (L : Int) 2) = true := by rw [e, hA]; exact decide_eq_true (by omega)
   have q4 : A.bin .sub .u64 (U : Int) (A.bin .quo .u64 (L : Int) 2) = (d : Int) := by rw [e]; exact es
   have ez := ez A hA
   clear es ht hd h0 h1 hz hn' tW
   unfold bodyOf Try.f11
   cbv
   repeat (first | (refine ABr.f q1 ?_; cbv) | (refine ABr.f q2 ?_; cbv) | (refine ABr.t q3 ?_; cbv))
   refine aG hS cw ?_ ?_
   . cbv
     repeat' (first | exact q4 | exact e | exact rfl | exact trivial | constructor)
   cbv
   refine aG hS c1 ?_ ?_
   . cbv
   cbv
   refine aF hS cc ?_
   cbv
   refine ABr.f ez ?_
   cbv
   refine aF hS ca ?_
   cbv
theorem or_byte {x b : Int} (hx : 0 ≤ x ∧ x < 72057594037927936) (hb : 0 ≤ b ∧ b < 256) : rbin .or .u64 (rbin .shl .u64 x 8) (IntKind.u64.wrap b) = x * 256 + b := by
 obtain ⟨x, rfl⟩ : ∃ n : Nat, x = n := ⟨x.toNat, by omega⟩
 obtain ⟨b, rfl⟩ : ∃ n : Nat, b = n := ⟨b.toNat, by omega⟩
 have e1 : IntKind.u64.wrap (b : Int) = (b : Int) := by rw [wrap_u64]; omega
 have e2 : rbin .shl .u64 (x : Int) 8 = ((256 * x : Nat) : Int) := (u_shl x 8 (by decide)).trans (congrArg Int.ofNat (by omega))
 rw [e1, e2]
 have e3 : rbin .or .u64 ((256 * x : Nat) : Int) (b : Int) = rbin .or .u64 (b : Int) ((256 * x : Nat) : Int) := by
   refine (u_or _ _ (by omega) (by omega)).trans (Eq.trans ?_ (u_or _ _ (by omega) (by omega)).symm)
   rw [Nat.or_comm]
 rw [e3]
 have := u_or_add b x 8 (by omega) (by omega) (by decide)
 exact this.trans (by show ((b + 2 ^ 8 * x : Nat) : Int) = _; omega)
theorem or_first {b : Int} (hb : 0 ≤ b ∧ b < 256) : rbin .or .u64 0 (IntKind.u64.wrap b) = b := by
 have h := or_byte (x := 0) (by omega) hb
 have e : rbin .shl .u64 0 8 = 0 := by decide
 rw [e] at h
 rw [h]; omega
theorem wordS (m : Nat) (b0 b1 b2 b3 b4 b5 b6 b7 w : Int) (h0 : 0 ≤ b0 ∧ b0 < 256) (h1 : 0 ≤ b1 ∧ b1 < 256) (h2 : 0 ≤ b2 ∧ b2 < 256) (h3 : 0 ≤ b3 ∧ b3 < 256) (h4 : 0 ≤ b4 ∧ b4 < 256) (h5 : 0 ≤ b5 ∧ b5 < 256) (h6 : 0 ≤ b6 ∧ b6 < 256) (h7 : 0 ≤ b7 ∧ b7 < 256) (hw : w = (((((((b7) * 256 + b6) * 256 + b5) * 256 + b4) * 256 + b3) * 256 + b2) * 256 + b1) * 256 + b0) :
   Sp 90 [.lst true (8 + m) (.s .u8 b0 :: .s .u8 b1 :: .s .u8 b2 :: .s .u8 b3 :: .s .u8 b4 :: .s .u8 b5 :: .s .u8 b6 :: .s .u8 b7 :: List.replicate m .any), .i .i64 8, .i .i64 0] (.s .u64 w) := by
 have hfin : ∀ A : Ar, A = Ar.real → A.bin .or .u64 (A.bin .shl .u64 (A.bin .or .u64 (A.bin .shl .u64 (A.bin .or .u64 (A.bin .shl .u64 (A.bin .or .u64 (A.bin .shl .u64 (A.bin .or .u64 (A.bin .shl .u64 (A.bin .or .u64 (A.bin .shl .u64 (A.bin .or .u64 (A.bin .shl .u64 (A.bin .or .u64 0 (A.wrap .u64 b7)) 8) (A.wrap .u64 b6)) 8) (A.wrap .u64 b5)) 8) (A.wrap .u64 b4)) 8) (A.wrap .u64 b3)) 8) (A.wrap .u64 b2)) 8) (A.wrap .u64 b1)) 8) (A.wrap .u64 b0) = w := by
   intro A hA
   subst hA
   show rbin .or .u64 (rbin .shl .u64 (rbin .or .u64 (rbin .shl .u64 (rbin .or .u64 (rbin .shl .u64 (rbin .or .u64 (rbin .shl .u64 (rbin .or .u64 (rbin .shl .u64 (rbin .or .u64 (rbin .shl .u64 (rbin .or .u64 (rbin .shl .u64 (rbin .or .u64 0 (IntKind.u64.wrap b7)) 8) (IntKind.u64.wrap b6)) 8) (IntKind.u64.wrap b5)) 8) (IntKind.u64.wrap b4)) 8) (IntKind.u64.wrap b3)) 8) (IntKind.u64.wrap b2)) 8) (IntKind.u64.wrap b1)) 8) (IntKind.u64.wrap b0) = w
   rw [or_first h7, or_byte (by omega) h6, or_byte (by omega) h5, or_byte (by omega) h4, or_byte (by omega) h3, or_byte (by omega) h2, or_byte (by omega) h1, or_byte (by omega) h0]
   exact hw.symm
 have hlt : ∀ j, j < 8 → j < 8 + m := fun j h => by omega
 generalize hrow : (AVal.s .u8 b0 :: AVal.s .u8 b1 :: AVal.s .u8 b2 :: AVal.s .u8 b3 :: AVal.s .u8 b4 :: AVal.s .u8 b5 :: AVal.s .u8 b6 :: AVal.s .u8 b7 :: List.replicate m .any) = row
 have r0 : lsub row (0 * 1) 1 = some [.s .u8 b0] := by rw [← hrow]; rfl
 have r1 : lsub row (1 * 1) 1 = some [.s .u8 b1] := by rw [← hrow]; rfl
 have r2 : lsub row (2 * 1) 1 = some [.s .u8 b2] := by rw [← hrow]; rfl
 have r3 : lsub row (3 * 1) 1 = some [.s .u8 b3] := by rw [← hrow]; rfl
 have r4 : lsub row (4 * 1) 1 = some [.s .u8 b4] := by rw [← hrow]; rfl
 have r5 : lsub row (5 * 1) 1 = some [.s .u8 b5] := by rw [← hrow]; rfl
 have r6 : lsub row (6 * 1) 1 = some [.s .u8 b6] := by rw [← hrow]; rfl
 have r7 : lsub row (7 * 1) 1 = some [.s .u8 b7] := by rw [← hrow]; cases m <;> rfl
 generalize 8 + m = n at *
 clear hrow
 refine mk Try.func90 rfl rfl L0 R1 (by decide +kernel) fun A S hA hS => ?_
 have hfin := hfin A hA
 unfold bodyOf Try.f90
 cbv
 refine .mk 7 rfl (hlt 7 (by decide)) ?_
 cbv
 refine .mk _ r7 ?_
 cbv
 refine .mk 6 rfl (hlt 6 (by decide)) ?_
 cbv
 refine .mk _ r6 ?_
 cbv
 refine .mk 5 rfl (hlt 5 (by decide)) ?_
 cbv
 refine .mk _ r5 ?_
 cbv
 refine .mk 4 rfl (hlt 4 (by decide)) ?_
 cbv
 refine .mk _ r4 ?_
 cbv
 refine .mk 3 rfl (hlt 3 (by decide)) ?_
 cbv
 refine .mk _ r3 ?_
 cbv
 refine .mk 2 rfl (hlt 2 (by decide)) ?_
 cbv
 refine .mk _ r2 ?_
 cbv
 refine .mk 1 rfl (hlt 1 (by decide)) ?_
 cbv
 refine .mk _ r1 ?_
 cbv
 refine .mk 0 rfl (hlt 0 (by decide)) ?_
 cbv
 refine .mk _ r0 ?_
 cbv
 exact hfin
theorem layS0 (B0 B1 B2 B3 : Blk) (c : Nat → AVal) (x : Int) (y : Nat → Int) (hy : ∀ j, j < 8 → Ar.real.wrap .u8 (Ar.real.bin .shr .u64 x ((8 * j : Nat) : Int)) = y j) : SpecM Try.prog 92 [B0, B1, B2, B3, ⟨true, true, [c 0, c 1, c 2, c 3, c 4, c 5, c 6, c 7, c 8, c 9, c 10, c 11, c 12, c 13, c 14, c 15, c 16, c 17, c 18, c 19, c 20, c 21, c 22, c 23, c 24, c 25, c 26, c 27, c 28, c 29, c 30, c 31]⟩] [.osl false 4 0 8 1, .s .u64 x, .i .i64 0] (.tup [])
   [B0, B1, B2, B3, ⟨true, true, [.s .u8 (y 0), .s .u8 (y 1), .s .u8 (y 2), .s .u8 (y 3), .s .u8 (y 4), .s .u8 (y 5), .s .u8 (y 6), .s .u8 (y 7), c 8, c 9, c 10, c 11, c 12, c 13, c 14, c 15, c 16, c 17, c 18, c 19, c 20, c 21, c 22, c 23, c 24, c 25, c 26, c 27, c 28, c 29, c 30, c 31]⟩] := by
 have h0 : Ar.real.wrap .u8 (Ar.real.bin .shr .u64 x 0) = y 0 := hy 0 (by decide)
 have h1 : Ar.real.wrap .u8 (Ar.real.bin .shr .u64 x 8) = y 1 := hy 1 (by decide)
 have h2 : Ar.real.wrap .u8 (Ar.real.bin .shr .u64 x 16) = y 2 := hy 2 (by decide)
 have h3 : Ar.real.wrap .u8 (Ar.real.bin .shr .u64 x 24) = y 3 := hy 3 (by decide)
 have h4 : Ar.real.wrap .u8 (Ar.real.bin .shr .u64 x 32) = y 4 := hy 4 (by decide)
 have h5 : Ar.real.wrap .u8 (Ar.real.bin .shr .u64 x 40) = y 5 := hy 5 (by decide)
 have h6 : Ar.real.wrap .u8 (Ar.real.bin .shr .u64 x 48) = y 6 := hy 6 (by decide)
 have h7 : Ar.real.wrap .u8 (Ar.real.bin .shr .u64 x 56) = y 7 := hy 7 (by decide)
 clear hy
 refine mkM Try.func92 rfl rfl L0 R0 (by decide +kernel) fun A S hA hS => ?_
 unfold bodyOf Try.f92
 cbv
 subst hA
 rw [← h0, ← h1, ← h2, ← h3, ← h4, ← h5, ← h6, ← h7]
 exact ⟨rfl, rfl⟩
theorem layS1 (B0 B1 B2 B3 : Blk) (c : Nat → AVal) (x : Int) (y : Nat → Int) (hy : ∀ j, j < 8 → Ar.real.wrap .u8 (Ar.real.bin .shr .u64 x ((8 * j : Nat) : Int)) = y j) : SpecM Try.prog 92 [B0, B1, B2, B3, ⟨true, true, [c 0, c 1, c 2, c 3, c 4, c 5, c 6, c 7, c 8, c 9, c 10, c 11, c 12, c 13, c 14, c 15, c 16, c 17, c 18, c 19, c 20, c 21, c 22, c 23, c 24, c 25, c 26, c 27, c 28, c 29, c 30, c 31]⟩] [.osl false 4 8 8 1, .s .u64 x, .i .i64 0] (.tup [])
   [B0, B1, B2, B3, ⟨true, true, [c 0, c 1, c 2, c 3, c 4, c 5, c 6, c 7, .s .u8 (y 0), .s .u8 (y 1), .s .u8 (y 2), .s .u8 (y 3), .s .u8 (y 4), .s .u8 (y 5), .s .u8 (y 6), .s .u8 (y 7), c 16, c 17, c 18, c 19, c 20, c 21, c 22, c 23, c 24, c 25, c 26, c 27, c 28, c 29, c 30, c 31]⟩] := by
 have h0 : Ar.real.wrap .u8 (Ar.real.bin .shr .u64 x 0) = y 0 := hy 0 (by decide)
 have h1 : Ar.real.wrap .u8 (Ar.real.bin .shr .u64 x 8) = y 1 := hy 1 (by decide)
 have h2 : Ar.real.wrap .u8 (Ar.real.bin .shr .u64 x 16) = y 2 := hy 2 (by decide)
 have h3 : Ar.real.wrap .u8 (Ar.real.bin .shr .u64 x 24) = y 3 := hy 3 (by decide)
 have h4 : Ar.real.wrap .u8 (Ar.real.bin .shr .u64 x 32) = y 4 := hy 4 (by decide)
 have h5 : Ar.real.wrap .u8 (Ar.real.bin .shr .u64 x 40) = y 5 := hy 5 (by decide)
 have h6 : Ar.real.wrap .u8 (Ar.real.bin .shr .u64 x 48) = y 6 := hy 6 (by decide)
 have h7 : Ar.real.wrap .u8 (Ar.real.bin .shr .u64 x 56) = y 7 := hy 7 (by decide)
 clear hy
 refine mkM Try.func92 rfl rfl L0 R0 (by decide +kernel) fun A S hA hS => ?_
 unfold bodyOf Try.f92
 cbv
 subst hA
 rw [← h0, ← h1, ← h2, ← h3, ← h4, ← h5, ← h6, ← h7]
 exact ⟨rfl, rfl⟩
theorem layS2 (B0 B1 B2 B3 : Blk) (c : Nat → AVal) (x : Int) (y : Nat → Int) (hy : ∀ j, j < 8 → Ar.real.wrap .u8 (Ar.real.bin .shr .u64 x ((8 * j : Nat) : Int)) = y j) : SpecM Try.prog 92 [B0, B1, B2, B3, ⟨true, true, [c 0, c 1, c 2, c 3, c 4, c 5, c 6, c 7, c 8, c 9, c 10, c 11, c 12, c 13, c 14, c 15, c 16, c 17, c 18, c 19, c 20, c 21, c 22, c 23, c 24, c 25, c 26, c 27, c 28, c 29, c 30, c 31]⟩] [.osl false 4 16 8 1, .s .u64 x, .i .i64 0] (.tup [])
   [B0, B1, B2, B3, ⟨true, true, [c 0, c 1, c 2, c 3, c 4, c 5, c 6, c 7, c 8, c 9, c 10, c 11, c 12, c 13, c 14, c 15, .s .u8 (y 0), .s .u8 (y 1), .s .u8 (y 2), .s .u8 (y 3), .s .u8 (y 4), .s .u8 (y 5), .s .u8 (y 6), .s .u8 (y 7), c 24, c 25, c 26, c 27, c 28, c 29, c 30, c 31]⟩] := by
 have h0 : Ar.real.wrap .u8 (Ar.real.bin .shr .u64 x 0) = y 0 := hy 0 (by decide)
 have h1 : Ar.real.wrap .u8 (Ar.real.bin .shr .u64 x 8) = y 1 := hy 1 (by decide)
 have h2 : Ar.real.wrap .u8 (Ar.real.bin .shr .u64 x 16) = y 2 := hy 2 (by decide)
 have h3 : Ar.real.wrap .u8 (Ar.real.bin .shr .u64 x 24) = y 3 := hy 3 (by decide)
 have h4 : Ar.real.wrap .u8 (Ar.real.bin .shr .u64 x 32) = y 4 := hy 4 (by decide)
 have h5 : Ar.real.wrap .u8 (Ar.real.bin .shr .u64 x 40) = y 5 := hy 5 (by decide)
 have h6 : Ar.real.wrap .u8 (Ar.real.bin .shr .u64 x 48) = y 6 := hy 6 (by decide)
 have h7 : Ar.real.wrap .u8 (Ar.real.bin .shr .u64 x 56) = y 7 := hy 7 (by decide)
 clear hy
 refine mkM Try.func92 rfl rfl L0 R0 (by decide +kernel) fun A S hA hS => ?_
 unfold bodyOf Try.f92
 cbv
 subst hA
 rw [← h0, ← h1, ← h2, ← h3, ← h4, ← h5, ← h6, ← h7]
 exact ⟨rfl, rfl⟩
theorem layS3 (B0 B1 B2 B3 : Blk) (c : Nat → AVal) (x : Int) (y : Nat → Int) (hy : ∀ j, j < 8 → Ar.real.wrap .u8 (Ar.real.bin .shr .u64 x ((8 * j : Nat) : Int)) = y j) : SpecM Try.prog 92 [B0, B1, B2, B3, ⟨true, true, [c 0, c 1, c 2, c 3, c 4, c 5, c 6, c 7, c 8, c 9, c 10, c 11, c 12, c 13, c 14, c 15, c 16, c 17, c 18, c 19, c 20, c 21, c 22, c 23, c 24, c 25, c 26, c 27, c 28, c 29, c 30, c 31]⟩] [.osl false 4 24 8 1, .s .u64 x, .i .i64 0] (.tup [])
   [B0, B1, B2, B3, ⟨true, true, [c 0, c 1, c 2, c 3, c 4, c 5, c 6, c 7, c 8, c 9, c 10, c 11, c 12, c 13, c 14, c 15, c 16, c 17, c 18, c 19, c 20, c 21, c 22, c 23, .s .u8 (y 0), .s .u8 (y 1), .s .u8 (y 2), .s .u8 (y 3), .s .u8 (y 4), .s .u8 (y 5), .s .u8 (y 6), .s .u8 (y 7)]⟩] := by
 have h0 : Ar.real.wrap .u8 (Ar.real.bin .shr .u64 x 0) = y 0 := hy 0 (by decide)
 have h1 : Ar.real.wrap .u8 (Ar.real.bin .shr .u64 x 8) = y 1 := hy 1 (by decide)
 have h2 : Ar.real.wrap .u8 (Ar.real.bin .shr .u64 x 16) = y 2 := hy 2 (by decide)
 have h3 : Ar.real.wrap .u8 (Ar.real.bin .shr .u64 x 24) = y 3 := hy 3 (by decide)
 have h4 : Ar.real.wrap .u8 (Ar.real.bin .shr .u64 x 32) = y 4 := hy 4 (by decide)
 have h5 : Ar.real.wrap .u8 (Ar.real.bin .shr .u64 x 40) = y 5 := hy 5 (by decide)
 have h6 : Ar.real.wrap .u8 (Ar.real.bin .shr .u64 x 48) = y 6 := hy 6 (by decide)
 have h7 : Ar.real.wrap .u8 (Ar.real.bin .shr .u64 x 56) = y 7 := hy 7 (by decide)
 clear hy
 refine mkM Try.func92 rfl rfl L0 R0 (by decide +kernel) fun A S hA hS => ?_
 unfold bodyOf Try.f92
 cbv
 subst hA
 rw [← h0, ← h1, ← h2, ← h3, ← h4, ← h5, ← h6, ← h7]
 exact ⟨rfl, rfl⟩
def LN2 : Nat → Nat := fun b => match b with
 | 0 => 0
 | 2 => 0
 | _ => 30
def zrow : Nat → List AVal
 | 0 => []
 | n + 1 => .i .u8 0 :: zrow n
def RKc : Nat → Md := fun r => match r with | 11 => .mid | _ => .own
def LC : Nat → Nat := fun _ => 20
def conReg : List Int := [13, 26, 52, 104, 208, 209, 211, 215, 223, 207, 239, 175, 47, 94, 188, 9, 18, 36, 72, 144, 81, 162, 53, 106, 212, 217, 195, 247, 159, 79, 158, 77, 154, 69, 138, 101, 202, 229, 187, 7, 14, 28, 56, 112, 224, 177, 19, 38, 76, 152, 65, 130, 117, 234, 165, 59, 118, 236, 169, 35, 70, 140, 105, 210, 213, 219, 199, 255, 143, 111, 222, 205, 235, 167, 63, 126, 252, 137, 99, 198, 253, 139, 103, 206, 237, 171, 39, 78, 156, 73, 146, 85, 170, 37, 74, 148, 89, 178, 21, 42, 84, 168, 33, 66, 132, 121, 242, 149, 91, 182, 29, 58, 116, 232, 161, 51, 102, 204, 233, 163, 55, 110, 220, 201, 227, 183, 31, 62, 124, 248, 129, 115, 230, 189, 11, 22, 44, 88, 176, 17, 34, 68, 136, 97, 194, 245, 155, 71, 142]
def conPt : List Int := [32906, 9223372036854808714, 0, 0, 0, 0, 32768, 2147516416, 9223372039002292224, 1, 3, 11, 139, 32907, 32907, 32907, 1, 1, 1, 1, 1, 2147483649, 2147483649, 1, 1, 1, 129, 32897, 2147516545, 9223372039002292353, 1, 1, 9, 9, 32777, 32777, 9223372036854808585, 0, 2, 10, 138, 138, 138, 138, 0, 0, 8, 136, 136, 136, 136, 1, 1, 9, 9, 32777, 2147516425, 2147516425, 0, 2, 10, 10, 10, 2147483658, 2147483658, 1, 3, 11, 139, 32907, 2147516555, 2147516555, 1, 3, 11, 139, 139, 139, 9223372036854775947, 1, 1, 9, 137, 32905, 32905, 9223372036854808713, 1, 3, 3, 3, 32771, 32771, 9223372036854808579, 0, 2, 2, 2, 32770, 32770, 9223372036854808578, 0, 0, 0, 128, 128, 128, 9223372036854775936, 0, 2, 10, 10, 32778, 32778, 32778, 0, 2, 10, 10, 10, 2147483658, 9223372039002259466, 1, 1, 1, 129, 32897, 2147516545, 9223372039002292353, 0, 0, 0, 128, 32896, 32896, 9223372036854808704, 1, 1, 1, 1, 1, 2147483649, 2147483649, 0, 0, 8, 8, 32776, 2147516424, 9223372039002292232]
def conRc : List Int := [1, 32898, 9223372036854808714, 9223372039002292224, 32907, 2147483649, 9223372039002292353, 9223372036854808585, 138, 136, 2147516425, 2147483658, 2147516555, 9223372036854775947, 9223372036854808713, 9223372036854808579, 9223372036854808578, 9223372036854775936, 32778, 9223372039002259466, 9223372039002292353, 9223372036854808704, 2147483649, 9223372039002292232]
def conCell (j m : Nat) : Int := match Nat.ble j (7 * m) with
 | true => 0
 | false => match Nat.ble (7 * m + 7) j with
   | true => conRc.getD m 0
   | false => conPt.getD (j - 20) 0
theorem constantsS : Sp 89 [] (.agg [.i .u64 1, .i .u64 32898, .i .u64 9223372036854808714, .i .u64 9223372039002292224, .i .u64 32907, .i .u64 2147483649, .i .u64 9223372039002292353, .i .u64 9223372036854808585, .i .u64 138, .i .u64 136, .i .u64 2147516425, .i .u64 2147483658, .i .u64 2147516555, .i .u64 9223372036854775947, .i .u64 9223372036854808713, .i .u64 9223372036854808579, .i .u64 9223372036854808578, .i .u64 9223372036854775936, .i .u64 32778, .i .u64 9223372039002259466, .i .u64 9223372039002292353, .i .u64 9223372036854808704, .i .u64 2147483649, .i .u64 9223372039002292232]) := by
 refine mk Try.func89 rfl rfl LC R0 (by decide +kernel) fun A S hA hS => ?_
 unfold bodyOf Try.f89
 cbv
 refine .inv (α := Nat) (fun j => ⟨[.own 0 0, .own 1 0, .i .i64 (conReg.getD (j - 20) 0), .any, .i .i64 (j : Nat), .any, .any, .any, .any, .any, .any, .any, .any, .any, .any, .any, .any, .any, .any, .any, .any, .any, .any, .any, .any, .any, .any, .any, .any], [⟨true, true, [.i .u64 0, .i .u64 0, .i .u64 0, .i .u64 0, .i .u64 0, .i .u64 0, .i .u64 0, .i .u64 0, .i .u64 0, .i .u64 0, .i .u64 0, .i .u64 0, .i .u64 0, .i .u64 0, .i .u64 0, .i .u64 0, .i .u64 0, .i .u64 0, .i .u64 0, .i .u64 0, .i .u64 0, .i .u64 0, .i .u64 0, .i .u64 0]⟩, ⟨true, true, [.i .u64 (conCell j 0), .i .u64 (conCell j 1), .i .u64 (conCell j 2), .i .u64 (conCell j 3), .i .u64 (conCell j 4), .i .u64 (conCell j 5), .i .u64 (conCell j 6), .i .u64 (conCell j 7), .i .u64 (conCell j 8), .i .u64 (conCell j 9), .i .u64 (conCell j 10), .i .u64 (conCell j 11), .i .u64 (conCell j 12), .i .u64 (conCell j 13), .i .u64 (conCell j 14), .i .u64 (conCell j 15), .i .u64 (conCell j 16), .i .u64 (conCell j 17), .i .u64 (conCell j 18), .i .u64 (conCell j 19), .i .u64 (conCell j 20), .i .u64 (conCell j 21), .i .u64 (conCell j 22), .i .u64 (conCell j 23)]⟩]⟩) (fun j => 20 ≤ j ∧ j ≤ 168) (fun j => 168 - j) 20 ?_ (by decide) ?_
 . cbv
   repeat' (first | exact rfl | exact trivial | constructor)
 intro j hj
 by_cases h : j = 168
 . subst h
   cbv
 . obtain ⟨b, hb⟩ : ∃ b, b = j + 1 := ⟨_, rfl⟩
   have hb1 : 20 ≤ b ∧ b ≤ 168 := by omega
   have hb2 : 168 - b < 168 - j := by omega
   rcases (by omega : j = 20 ∨ j = 21 ∨ j = 22 ∨ j = 23 ∨ j = 24 ∨ j = 25 ∨ j = 26 ∨ j = 27 ∨ j = 28 ∨ j = 29 ∨ j = 30 ∨ j = 31 ∨ j = 32 ∨ j = 33 ∨ j = 34 ∨ j = 35 ∨ j = 36 ∨ j = 37 ∨ j = 38 ∨ j = 39 ∨ j = 40 ∨ j = 41 ∨ j = 42 ∨ j = 43 ∨ j = 44 ∨ j = 45 ∨ j = 46 ∨ j = 47 ∨ j = 48 ∨ j = 49 ∨ j = 50 ∨ j = 51 ∨ j = 52 ∨ j = 53 ∨ j = 54 ∨ j = 55 ∨ j = 56 ∨ j = 57 ∨ j = 58 ∨ j = 59 ∨ j = 60 ∨ j = 61 ∨ j = 62 ∨ j = 63 ∨ j = 64 ∨ j = 65 ∨ j = 66 ∨ j = 67 ∨ j = 68 ∨ j = 69 ∨ j = 70 ∨ j = 71 ∨ j = 72 ∨ j = 73 ∨ j = 74 ∨ j = 75 ∨ j = 76 ∨ j = 77 ∨ j = 78 ∨ j = 79 ∨ j = 80 ∨ j = 81 ∨ j = 82 ∨ j = 83 ∨ j = 84 ∨ j = 85 ∨ j = 86 ∨ j = 87 ∨ j = 88 ∨ j = 89 ∨ j = 90 ∨ j = 91 ∨ j = 92 ∨ j = 93 ∨ j = 94 ∨ j = 95 ∨ j = 96 ∨ j = 97 ∨ j = 98 ∨ j = 99 ∨ j = 100 ∨ j = 101 ∨ j = 102 ∨ j = 103 ∨ j = 104 ∨ j = 105 ∨ j = 106 ∨ j = 107 ∨ j = 108 ∨ j = 109 ∨ j = 110 ∨ j = 111 ∨ j = 112 ∨ j = 113 ∨ j = 114 ∨ j = 115 ∨ j = 116 ∨ j = 117 ∨ j = 118 ∨ j = 119 ∨ j = 120 ∨ j = 121 ∨ j = 122 ∨ j = 123 ∨ j = 124 ∨ j = 125 ∨ j = 126 ∨ j = 127 ∨ j = 128 ∨ j = 129 ∨ j = 130 ∨ j = 131 ∨ j = 132 ∨ j = 133 ∨ j = 134 ∨ j = 135 ∨ j = 136 ∨ j = 137 ∨ j = 138 ∨ j = 139 ∨ j = 140 ∨ j = 141 ∨ j = 142 ∨ j = 143 ∨ j = 144 ∨ j = 145 ∨ j = 146 ∨ j = 147 ∨ j = 148 ∨ j = 149 ∨ j = 150 ∨ j = 151 ∨ j = 152 ∨ j = 153 ∨ j = 154 ∨ j = 155 ∨ j = 156 ∨ j = 157 ∨ j = 158 ∨ j = 159 ∨ j = 160 ∨ j = 161 ∨ j = 162 ∨ j = 163 ∨ j = 164 ∨ j = 165 ∨ j = 166 ∨ j = 167) with rfl | rfl | rfl | rfl | rfl | rfl | rfl | rfl | rfl | rfl | rfl | rfl | rfl | rfl | rfl | rfl | rfl | rfl | rfl | rfl | rfl | rfl | rfl | rfl | rfl | rfl | rfl | rfl | rfl | rfl | rfl | rfl | rfl | rfl | rfl | rfl | rfl | rfl | rfl | rfl | rfl | rfl | rfl | rfl | rfl | rfl | rfl | rfl | rfl | rfl | rfl | rfl | rfl | rfl | rfl | rfl | rfl | rfl | rfl | rfl | rfl | rfl | rfl | rfl | rfl | rfl | rfl | rfl | rfl | rfl | rfl | rfl | rfl | rfl | rfl | rfl | rfl | rfl | rfl | rfl | rfl | rfl | rfl | rfl | rfl | rfl | rfl | rfl | rfl | rfl | rfl | rfl | rfl | rfl | rfl | rfl | rfl | rfl | rfl | rfl | rfl | rfl | rfl | rfl | rfl | rfl | rfl | rfl | rfl | rfl | rfl | rfl | rfl | rfl | rfl | rfl | rfl | rfl | rfl | rfl | rfl | rfl | rfl | rfl | rfl | rfl | rfl | rfl | rfl | rfl | rfl | rfl | rfl | rfl | rfl | rfl | rfl | rfl | rfl | rfl | rfl | rfl | rfl | rfl | rfl | rfl | rfl | rfl
   all_goals
     subst hb
     cbv
     refine ⟨_, ?_, hb1, hb2⟩
     cbv
     repeat' (first | exact rfl | exact trivial | constructor)
end Go.Proofs.Ytkhipnhdbaahcaa
end
