import Derived.Test.YtmholgclgamnnaaGreatQXBO
import Derived.Test.YtmholgclgamnnaaGreatQXN
import Derived.Test.YtmholgclgamnnaaGreatQXBB
set_option linter.unusedVariables false
set_option linter.unusedSimpArgs false
set_option linter.unusedSectionVars false
set_option maxRecDepth 100000
set_option exponentiation.threshold 2000
set_option maxHeartbeats 4000000
section
namespace Go.Proofs.YtmholgclgamnnaaGreat
open Go Eng
def LNum : Nat → Nat := fun _ => 49
theorem digitS {c : Nat} (hc : c < 256) (hd : hexd c < 16) : Sp 158 [.s .u8 (c : Int)] (.s .u8 (hexd c : Nat)) := by
 refine mk Tryz.func158 rfl rfl L0 R1 (by decide +kernel) fun A S hA hS => ?_
 have w8 : ∀ x : Int, 0 ≤ x ∧ x < 256 → IntKind.u8.wrap x = x := fun x hx => by
   show x % 256 = x
   omega
 by_cases h : 97 ≤ c
 . have e1 : A.cmp .geq (c : Int) 97 = true := by rw [hA]; exact decide_eq_true (by omega)
   have e0 : hexd c = c - 97 + 10 ∧ c - 97 < 6 := by
     unfold hexd at hd ⊢
     rw [if_pos h] at hd ⊢
     omega
   obtain ⟨e0, e3⟩ := e0
   have e2 : A.bin .add .u8 (A.bin .sub .u8 (c : Int) 97) 10 = ((hexd c : Nat) : Int) := by
     rw [hA]
     show IntKind.u8.wrap (IntKind.u8.wrap ((c : Int) - 97) + 10) = _
     have q1 := w8 ((c : Int) - 97) (by omega)
     rw [q1, w8 _ (by omega), e0]
     omega
   generalize hexd c = q at *
   unfold bodyOf Tryz.f158
   cbv
   refine ABr.t e1 ?_
   cbv
   exact e2
 . have e1 : A.cmp .geq (c : Int) 97 = false := by rw [hA]; exact decide_eq_false (by omega)
   have e0 : hexd c = c - 48 ∧ 48 ≤ c := by
     unfold hexd at hd ⊢
     rw [if_neg h] at hd ⊢
     omega
   have e2 : A.bin .sub .u8 (c : Int) 48 = ((hexd c : Nat) : Int) := by
     rw [hA]
     show IntKind.u8.wrap ((c : Int) - 48) = _
     rw [w8 ((c : Int) - 48) (by omega), e0.1]
     omega
   generalize hexd c = q at *
   unfold bodyOf Tryz.f158
   cbv
   refine ABr.f e1 ?_
   cbv
   exact e2
theorem nib {A : Ar} (hA : A = Ar.real) {a b : Nat} (ha : a < 16) (hb : b < 16) : A.bin .or .u8 (A.bin .shl .u8 (a : Int) 4) (b : Int) = ((16 * a + b : Nat) : Int) := by
 have key : ∀ a : Fin 16, ∀ b : Fin 16, rbin .or .u8 (rbin .shl .u8 (a.val : Int) 4) (b.val : Int) = ((16 * a.val + b.val : Nat) : Int) := by decide +kernel
 rw [hA]
 exact key ⟨a, ha⟩ ⟨b, hb⟩
theorem lsub_rowC (f : Nat → AVal) (n j : Nat) (h : j < n) : lsub ((List.range n).map f) j 1 = some [f j] := by
 have key : ∀ (l : List AVal) (j : Nat) (x : AVal), l[j]? = some x → lsub l j 1 = some [x] := by
   intro l
   induction l with
   | nil => intro j x h; cases j <;> cases h
   | cons y l ih =>
     intro j x h
     cases j with
     | zero => cases h; cases l <;> rfl
     | succ j => exact ih j x (by simpa using h)
 exact key _ j _ (by simp [h])
def hexB (s : ByteArray) (j : Nat) : Nat := (16 * hexd (bt s (2 * j)) + hexd (bt s (2 * j + 1))) % 256
def RNum : Nat → Md := fun r => match r with | 5 => .own | _ => .mid
theorem numberS4 {lim : Lim} (hl : lim = limR) (s : ByteArray) (hs : s.size = 16 * 4) (hd : ∀ i, i < 16 * 4 → hexd (bt s i) < 16) : Sp 106 [.v (.string s)] (u4 lim (numB (hexB s) (8 * 4))) := by
 have dg : ∀ i, i < 16 * 4 → Sp 158 [.s .u8 (bt s i : Nat)] (.s .u8 (hexd (bt s i) : Nat)) := fun i hi => digitS (bt_lt s i) (hd i hi)
 have hB : ∀ j, j < 8 * 4 → 16 * hexd (bt s (2 * j)) + hexd (bt s (2 * j + 1)) = hexB s j := fun j hj => by
   have h1 := hd (2 * j) (by omega)
   have h2 := hd (2 * j + 1) (by omega)
   unfold hexB
   omega
 have big := bigS4 hl (row := [.s .u8 (hexB s 0 : Nat), .s .u8 (hexB s 1 : Nat), .s .u8 (hexB s 2 : Nat), .s .u8 (hexB s 3 : Nat), .s .u8 (hexB s 4 : Nat), .s .u8 (hexB s 5 : Nat), .s .u8 (hexB s 6 : Nat), .s .u8 (hexB s 7 : Nat), .s .u8 (hexB s 8 : Nat), .s .u8 (hexB s 9 : Nat), .s .u8 (hexB s 10 : Nat), .s .u8 (hexB s 11 : Nat), .s .u8 (hexB s 12 : Nat), .s .u8 (hexB s 13 : Nat), .s .u8 (hexB s 14 : Nat), .s .u8 (hexB s 15 : Nat), .s .u8 (hexB s 16 : Nat), .s .u8 (hexB s 17 : Nat), .s .u8 (hexB s 18 : Nat), .s .u8 (hexB s 19 : Nat), .s .u8 (hexB s 20 : Nat), .s .u8 (hexB s 21 : Nat), .s .u8 (hexB s 22 : Nat), .s .u8 (hexB s 23 : Nat), .s .u8 (hexB s 24 : Nat), .s .u8 (hexB s 25 : Nat), .s .u8 (hexB s 26 : Nat), .s .u8 (hexB s 27 : Nat), .s .u8 (hexB s 28 : Nat), .s .u8 (hexB s 29 : Nat), .s .u8 (hexB s 30 : Nat), .s .u8 (hexB s 31 : Nat)]) (bs := hexB s) (k := 8 * 4) ⟨rfl, fun i hi => by
     rw [Nat.mul_one]; exact lsub_rowC (fun j => .s .u8 (hexB s j : Nat)) (8 * 4) i hi, fun i => by unfold hexB; omega⟩ (Nat.le_refl _)
 generalize numB (hexB s) (8 * 4) = r at *
 obtain ⟨hb, hhb⟩ : ∃ f, f = hexB s := ⟨_, rfl⟩
 rw [← hhb] at big hB
 obtain ⟨dd, hdd⟩ : ∃ f : Nat → Nat, f = fun i => hexd (bt s i) := ⟨_, rfl⟩
 replace dg : ∀ i, i < 16 * 4 → Sp 158 [.s .u8 (bt s i : Nat)] (.s .u8 (dd i : Nat)) := by rw [hdd]; exact dg
 replace hB : ∀ j, j < 8 * 4 → 16 * dd (2 * j) + dd (2 * j + 1) = hb j := by rw [hdd]; exact hB
 replace hd : ∀ i, i < 16 * 4 → dd i < 16 := by rw [hdd]; exact hd
 clear hdd hhb
 refine mk Tryz.func106 rfl rfl LNum RNum (by decide +kernel) fun A S hA hS => ?_
 have hlen : A.len (A.size s) = (16 * 4 : Nat) := by rw [a_len hA, hA]; show ((s.size : Nat) : Int) = _; rw [hs]
 have hsz : A.size s = 16 * 4 := by rw [hA]; exact hs
 have ltz : ∀ i, i < 16 * 4 → i < A.size s := fun i hi => by rw [hsz]; exact hi
 have lt : ∀ i : Int, i < 16 * 4 → A.cmp .lss i (A.len (A.size s)) = true := fun i hi => by rw [hlen, i_lt hA]; exact decide_eq_true (by omega)
 have ge : A.cmp .lss (16 * 4) (A.len (A.size s)) = false := by rw [hlen, i_lt hA]; exact decide_eq_false (by omega)
 have hby : ∀ i, A.byte s i = (bt s i : Nat) := fun i => a_byte hA s i
 have hn : ∀ j, j < 8 * 4 → A.bin .or .u8 (A.bin .shl .u8 (dd (2 * j) : Int) 4) (dd (2 * j + 1) : Int) = (hb j : Int) := fun j hj => by
   rw [nib hA (hd _ (by omega)) (hd _ (by omega)), hB j hj]
 have sim : ∀ i, i < 16 * 4 → S.fn 158 [.s .u8 (A.byte s i)] (.s .u8 (dd i : Nat)) := fun i hi => by rw [hby]; exact cf hS (dg i hi)
 unfold bodyOf Tryz.f106
 cbv
 refine ABr.t (lt _ (by decide)) ?_
 cbv
 refine .mk 0 rfl (ltz _ (by decide)) ?_
 cbv
 refine ACall.mk _ (sim 0 (by decide)) ?_
 cbv
 refine .mk 1 rfl (ltz _ (by decide)) ?_
 cbv
 refine ACall.mk _ (sim 1 (by decide)) ?_
 cbv
 refine ABr.t (lt _ (by decide)) ?_
 cbv
 refine .mk 2 rfl (ltz _ (by decide)) ?_
 cbv
 refine ACall.mk _ (sim 2 (by decide)) ?_
 cbv
 refine .mk 3 rfl (ltz _ (by decide)) ?_
 cbv
 refine ACall.mk _ (sim 3 (by decide)) ?_
 cbv
 refine ABr.t (lt _ (by decide)) ?_
 cbv
 refine .mk 4 rfl (ltz _ (by decide)) ?_
 cbv
 refine ACall.mk _ (sim 4 (by decide)) ?_
 cbv
 refine .mk 5 rfl (ltz _ (by decide)) ?_
 cbv
 refine ACall.mk _ (sim 5 (by decide)) ?_
 cbv
 refine ABr.t (lt _ (by decide)) ?_
 cbv
 refine .mk 6 rfl (ltz _ (by decide)) ?_
 cbv
 refine ACall.mk _ (sim 6 (by decide)) ?_
 cbv
 refine .mk 7 rfl (ltz _ (by decide)) ?_
 cbv
 refine ACall.mk _ (sim 7 (by decide)) ?_
 cbv
 refine ABr.t (lt _ (by decide)) ?_
 cbv
 refine .mk 8 rfl (ltz _ (by decide)) ?_
 cbv
 refine ACall.mk _ (sim 8 (by decide)) ?_
 cbv
 refine .mk 9 rfl (ltz _ (by decide)) ?_
 cbv
 refine ACall.mk _ (sim 9 (by decide)) ?_
 cbv
 refine ABr.t (lt _ (by decide)) ?_
 cbv
 refine .mk 10 rfl (ltz _ (by decide)) ?_
 cbv
 refine ACall.mk _ (sim 10 (by decide)) ?_
 cbv
 refine .mk 11 rfl (ltz _ (by decide)) ?_
 cbv
 refine ACall.mk _ (sim 11 (by decide)) ?_
 cbv
 refine ABr.t (lt _ (by decide)) ?_
 cbv
 refine .mk 12 rfl (ltz _ (by decide)) ?_
 cbv
 refine ACall.mk _ (sim 12 (by decide)) ?_
 cbv
 refine .mk 13 rfl (ltz _ (by decide)) ?_
 cbv
 refine ACall.mk _ (sim 13 (by decide)) ?_
 cbv
 refine ABr.t (lt _ (by decide)) ?_
 cbv
 refine .mk 14 rfl (ltz _ (by decide)) ?_
 cbv
 refine ACall.mk _ (sim 14 (by decide)) ?_
 cbv
 refine .mk 15 rfl (ltz _ (by decide)) ?_
 cbv
 refine ACall.mk _ (sim 15 (by decide)) ?_
 cbv
 refine ABr.t (lt _ (by decide)) ?_
 cbv
 refine .mk 16 rfl (ltz _ (by decide)) ?_
 cbv
 refine ACall.mk _ (sim 16 (by decide)) ?_
 cbv
 refine .mk 17 rfl (ltz _ (by decide)) ?_
 cbv
 refine ACall.mk _ (sim 17 (by decide)) ?_
 cbv
 refine ABr.t (lt _ (by decide)) ?_
 cbv
 refine .mk 18 rfl (ltz _ (by decide)) ?_
 cbv
 refine ACall.mk _ (sim 18 (by decide)) ?_
 cbv
 refine .mk 19 rfl (ltz _ (by decide)) ?_
 cbv
 refine ACall.mk _ (sim 19 (by decide)) ?_
 cbv
 refine ABr.t (lt _ (by decide)) ?_
 cbv
 refine .mk 20 rfl (ltz _ (by decide)) ?_
 cbv
 refine ACall.mk _ (sim 20 (by decide)) ?_
 cbv
 refine .mk 21 rfl (ltz _ (by decide)) ?_
 cbv
 refine ACall.mk _ (sim 21 (by decide)) ?_
 cbv
 refine ABr.t (lt _ (by decide)) ?_
 cbv
 refine .mk 22 rfl (ltz _ (by decide)) ?_
 cbv
 refine ACall.mk _ (sim 22 (by decide)) ?_
 cbv
 refine .mk 23 rfl (ltz _ (by decide)) ?_
 cbv
 refine ACall.mk _ (sim 23 (by decide)) ?_
 cbv
 refine ABr.t (lt _ (by decide)) ?_
 cbv
 refine .mk 24 rfl (ltz _ (by decide)) ?_
 cbv
 refine ACall.mk _ (sim 24 (by decide)) ?_
 cbv
 refine .mk 25 rfl (ltz _ (by decide)) ?_
 cbv
 refine ACall.mk _ (sim 25 (by decide)) ?_
 cbv
 refine ABr.t (lt _ (by decide)) ?_
 cbv
 refine .mk 26 rfl (ltz _ (by decide)) ?_
 cbv
 refine ACall.mk _ (sim 26 (by decide)) ?_
 cbv
 refine .mk 27 rfl (ltz _ (by decide)) ?_
 cbv
 refine ACall.mk _ (sim 27 (by decide)) ?_
 cbv
 refine ABr.t (lt _ (by decide)) ?_
 cbv
 refine .mk 28 rfl (ltz _ (by decide)) ?_
 cbv
 refine ACall.mk _ (sim 28 (by decide)) ?_
 cbv
 refine .mk 29 rfl (ltz _ (by decide)) ?_
 cbv
 refine ACall.mk _ (sim 29 (by decide)) ?_
 cbv
 refine ABr.t (lt _ (by decide)) ?_
 cbv
 refine .mk 30 rfl (ltz _ (by decide)) ?_
 cbv
 refine ACall.mk _ (sim 30 (by decide)) ?_
 cbv
 refine .mk 31 rfl (ltz _ (by decide)) ?_
 cbv
 refine ACall.mk _ (sim 31 (by decide)) ?_
 cbv
 refine ABr.t (lt _ (by decide)) ?_
 cbv
 refine .mk 32 rfl (ltz _ (by decide)) ?_
 cbv
 refine ACall.mk _ (sim 32 (by decide)) ?_
 cbv
 refine .mk 33 rfl (ltz _ (by decide)) ?_
 cbv
 refine ACall.mk _ (sim 33 (by decide)) ?_
 cbv
 refine ABr.t (lt _ (by decide)) ?_
 cbv
 refine .mk 34 rfl (ltz _ (by decide)) ?_
 cbv
 refine ACall.mk _ (sim 34 (by decide)) ?_
 cbv
 refine .mk 35 rfl (ltz _ (by decide)) ?_
 cbv
 refine ACall.mk _ (sim 35 (by decide)) ?_
 cbv
 refine ABr.t (lt _ (by decide)) ?_
 cbv
 refine .mk 36 rfl (ltz _ (by decide)) ?_
 cbv
 refine ACall.mk _ (sim 36 (by decide)) ?_
 cbv
 refine .mk 37 rfl (ltz _ (by decide)) ?_
 cbv
 refine ACall.mk _ (sim 37 (by decide)) ?_
 cbv
 refine ABr.t (lt _ (by decide)) ?_
 cbv
 refine .mk 38 rfl (ltz _ (by decide)) ?_
 cbv
 refine ACall.mk _ (sim 38 (by decide)) ?_
 cbv
 refine .mk 39 rfl (ltz _ (by decide)) ?_
 cbv
 refine ACall.mk _ (sim 39 (by decide)) ?_
 cbv
 refine ABr.t (lt _ (by decide)) ?_
 cbv
 refine .mk 40 rfl (ltz _ (by decide)) ?_
 cbv
 refine ACall.mk _ (sim 40 (by decide)) ?_
 cbv
 refine .mk 41 rfl (ltz _ (by decide)) ?_
 cbv
 refine ACall.mk _ (sim 41 (by decide)) ?_
 cbv
 refine ABr.t (lt _ (by decide)) ?_
 cbv
 refine .mk 42 rfl (ltz _ (by decide)) ?_
 cbv
 refine ACall.mk _ (sim 42 (by decide)) ?_
 cbv
 refine .mk 43 rfl (ltz _ (by decide)) ?_
 cbv
 refine ACall.mk _ (sim 43 (by decide)) ?_
 cbv
 refine ABr.t (lt _ (by decide)) ?_
 cbv
 refine .mk 44 rfl (ltz _ (by decide)) ?_
 cbv
 refine ACall.mk _ (sim 44 (by decide)) ?_
 cbv
 refine .mk 45 rfl (ltz _ (by decide)) ?_
 cbv
 refine ACall.mk _ (sim 45 (by decide)) ?_
 cbv
 refine ABr.t (lt _ (by decide)) ?_
 cbv
 refine .mk 46 rfl (ltz _ (by decide)) ?_
 cbv
 refine ACall.mk _ (sim 46 (by decide)) ?_
 cbv
 refine .mk 47 rfl (ltz _ (by decide)) ?_
 cbv
 refine ACall.mk _ (sim 47 (by decide)) ?_
 cbv
 refine ABr.t (lt _ (by decide)) ?_
 cbv
 refine .mk 48 rfl (ltz _ (by decide)) ?_
 cbv
 refine ACall.mk _ (sim 48 (by decide)) ?_
 cbv
 refine .mk 49 rfl (ltz _ (by decide)) ?_
 cbv
 refine ACall.mk _ (sim 49 (by decide)) ?_
 cbv
 refine ABr.t (lt _ (by decide)) ?_
 cbv
 refine .mk 50 rfl (ltz _ (by decide)) ?_
 cbv
 refine ACall.mk _ (sim 50 (by decide)) ?_
 cbv
 refine .mk 51 rfl (ltz _ (by decide)) ?_
 cbv
 refine ACall.mk _ (sim 51 (by decide)) ?_
 cbv
 refine ABr.t (lt _ (by decide)) ?_
 cbv
 refine .mk 52 rfl (ltz _ (by decide)) ?_
 cbv
 refine ACall.mk _ (sim 52 (by decide)) ?_
 cbv
 refine .mk 53 rfl (ltz _ (by decide)) ?_
 cbv
 refine ACall.mk _ (sim 53 (by decide)) ?_
 cbv
 refine ABr.t (lt _ (by decide)) ?_
 cbv
 refine .mk 54 rfl (ltz _ (by decide)) ?_
 cbv
 refine ACall.mk _ (sim 54 (by decide)) ?_
 cbv
 refine .mk 55 rfl (ltz _ (by decide)) ?_
 cbv
 refine ACall.mk _ (sim 55 (by decide)) ?_
 cbv
 refine ABr.t (lt _ (by decide)) ?_
 cbv
 refine .mk 56 rfl (ltz _ (by decide)) ?_
 cbv
 refine ACall.mk _ (sim 56 (by decide)) ?_
 cbv
 refine .mk 57 rfl (ltz _ (by decide)) ?_
 cbv
 refine ACall.mk _ (sim 57 (by decide)) ?_
 cbv
 refine ABr.t (lt _ (by decide)) ?_
 cbv
 refine .mk 58 rfl (ltz _ (by decide)) ?_
 cbv
 refine ACall.mk _ (sim 58 (by decide)) ?_
 cbv
 refine .mk 59 rfl (ltz _ (by decide)) ?_
 cbv
 refine ACall.mk _ (sim 59 (by decide)) ?_
 cbv
 refine ABr.t (lt _ (by decide)) ?_
 cbv
 refine .mk 60 rfl (ltz _ (by decide)) ?_
 cbv
 refine ACall.mk _ (sim 60 (by decide)) ?_
 cbv
 refine .mk 61 rfl (ltz _ (by decide)) ?_
 cbv
 refine ACall.mk _ (sim 61 (by decide)) ?_
 cbv
 refine ABr.t (lt _ (by decide)) ?_
 cbv
 refine .mk 62 rfl (ltz _ (by decide)) ?_
 cbv
 refine ACall.mk _ (sim 62 (by decide)) ?_
 cbv
 refine .mk 63 rfl (ltz _ (by decide)) ?_
 cbv
 refine ACall.mk _ (sim 63 (by decide)) ?_
 cbv
 refine ABr.f ge ?_
 cbv
 refine aG hS big ?_ ?_
 . cbv
   exact ⟨hn 0 (by decide), hn 1 (by decide), hn 2 (by decide), hn 3 (by decide), hn 4 (by decide), hn 5 (by decide), hn 6 (by decide), hn 7 (by decide), hn 8 (by decide), hn 9 (by decide), hn 10 (by decide), hn 11 (by decide), hn 12 (by decide), hn 13 (by decide), hn 14 (by decide), hn 15 (by decide), hn 16 (by decide), hn 17 (by decide), hn 18 (by decide), hn 19 (by decide), hn 20 (by decide), hn 21 (by decide), hn 22 (by decide), hn 23 (by decide), hn 24 (by decide), hn 25 (by decide), hn 26 (by decide), hn 27 (by decide), hn 28 (by decide), hn 29 (by decide), hn 30 (by decide), hn 31 (by decide)⟩
 cbv
theorem numberS6 {lim : Lim} (hl : lim = limR) (s : ByteArray) (hs : s.size = 16 * 6) (hd : ∀ i, i < 16 * 6 → hexd (bt s i) < 16) : Sp 76 [.v (.string s)] (u6 lim (numB (hexB s) (8 * 6))) := by
 have dg : ∀ i, i < 16 * 6 → Sp 158 [.s .u8 (bt s i : Nat)] (.s .u8 (hexd (bt s i) : Nat)) := fun i hi => digitS (bt_lt s i) (hd i hi)
 have hB : ∀ j, j < 8 * 6 → 16 * hexd (bt s (2 * j)) + hexd (bt s (2 * j + 1)) = hexB s j := fun j hj => by
   have h1 := hd (2 * j) (by omega)
   have h2 := hd (2 * j + 1) (by omega)
   unfold hexB
   omega
 have big := bigS6 hl (row := [.s .u8 (hexB s 0 : Nat), .s .u8 (hexB s 1 : Nat), .s .u8 (hexB s 2 : Nat), .s .u8 (hexB s 3 : Nat), .s .u8 (hexB s 4 : Nat), .s .u8 (hexB s 5 : Nat), .s .u8 (hexB s 6 : Nat), .s .u8 (hexB s 7 : Nat), .s .u8 (hexB s 8 : Nat), .s .u8 (hexB s 9 : Nat), .s .u8 (hexB s 10 : Nat), .s .u8 (hexB s 11 : Nat), .s .u8 (hexB s 12 : Nat), .s .u8 (hexB s 13 : Nat), .s .u8 (hexB s 14 : Nat), .s .u8 (hexB s 15 : Nat), .s .u8 (hexB s 16 : Nat), .s .u8 (hexB s 17 : Nat), .s .u8 (hexB s 18 : Nat), .s .u8 (hexB s 19 : Nat), .s .u8 (hexB s 20 : Nat), .s .u8 (hexB s 21 : Nat), .s .u8 (hexB s 22 : Nat), .s .u8 (hexB s 23 : Nat), .s .u8 (hexB s 24 : Nat), .s .u8 (hexB s 25 : Nat), .s .u8 (hexB s 26 : Nat), .s .u8 (hexB s 27 : Nat), .s .u8 (hexB s 28 : Nat), .s .u8 (hexB s 29 : Nat), .s .u8 (hexB s 30 : Nat), .s .u8 (hexB s 31 : Nat), .s .u8 (hexB s 32 : Nat), .s .u8 (hexB s 33 : Nat), .s .u8 (hexB s 34 : Nat), .s .u8 (hexB s 35 : Nat), .s .u8 (hexB s 36 : Nat), .s .u8 (hexB s 37 : Nat), .s .u8 (hexB s 38 : Nat), .s .u8 (hexB s 39 : Nat), .s .u8 (hexB s 40 : Nat), .s .u8 (hexB s 41 : Nat), .s .u8 (hexB s 42 : Nat), .s .u8 (hexB s 43 : Nat), .s .u8 (hexB s 44 : Nat), .s .u8 (hexB s 45 : Nat), .s .u8 (hexB s 46 : Nat), .s .u8 (hexB s 47 : Nat)]) (bs := hexB s) (k := 8 * 6) ⟨rfl, fun i hi => by
     rw [Nat.mul_one]; exact lsub_rowC (fun j => .s .u8 (hexB s j : Nat)) (8 * 6) i hi, fun i => by unfold hexB; omega⟩ (Nat.le_refl _)
 generalize numB (hexB s) (8 * 6) = r at *
 obtain ⟨hb, hhb⟩ : ∃ f, f = hexB s := ⟨_, rfl⟩
 rw [← hhb] at big hB
 obtain ⟨dd, hdd⟩ : ∃ f : Nat → Nat, f = fun i => hexd (bt s i) := ⟨_, rfl⟩
 replace dg : ∀ i, i < 16 * 6 → Sp 158 [.s .u8 (bt s i : Nat)] (.s .u8 (dd i : Nat)) := by rw [hdd]; exact dg
 replace hB : ∀ j, j < 8 * 6 → 16 * dd (2 * j) + dd (2 * j + 1) = hb j := by rw [hdd]; exact hB
 replace hd : ∀ i, i < 16 * 6 → dd i < 16 := by rw [hdd]; exact hd
 clear hdd hhb
 refine mk Tryz.func76 rfl rfl LNum RNum (by decide +kernel) fun A S hA hS => ?_
 have hlen : A.len (A.size s) = (16 * 6 : Nat) := by rw [a_len hA, hA]; show ((s.size : Nat) : Int) = _; rw [hs]
 have hsz : A.size s = 16 * 6 := by rw [hA]; exact hs
 have ltz : ∀ i, i < 16 * 6 → i < A.size s := fun i hi => by rw [hsz]; exact hi
 have lt : ∀ i : Int, i < 16 * 6 → A.cmp .lss i (A.len (A.size s)) = true := fun i hi => by rw [hlen, i_lt hA]; exact decide_eq_true (by omega)
 have ge : A.cmp .lss (16 * 6) (A.len (A.size s)) = false := by rw [hlen, i_lt hA]; exact decide_eq_false (by omega)
 have hby : ∀ i, A.byte s i = (bt s i : Nat) := fun i => a_byte hA s i
 have hn : ∀ j, j < 8 * 6 → A.bin .or .u8 (A.bin .shl .u8 (dd (2 * j) : Int) 4) (dd (2 * j + 1) : Int) = (hb j : Int) := fun j hj => by
   rw [nib hA (hd _ (by omega)) (hd _ (by omega)), hB j hj]
 have sim : ∀ i, i < 16 * 6 → S.fn 158 [.s .u8 (A.byte s i)] (.s .u8 (dd i : Nat)) := fun i hi => by rw [hby]; exact cf hS (dg i hi)
 unfold bodyOf Tryz.f76
 cbv
 refine ABr.t (lt _ (by decide)) ?_
 cbv
 refine .mk 0 rfl (ltz _ (by decide)) ?_
 cbv
 refine ACall.mk _ (sim 0 (by decide)) ?_
 cbv
 refine .mk 1 rfl (ltz _ (by decide)) ?_
 cbv
 refine ACall.mk _ (sim 1 (by decide)) ?_
 cbv
 refine ABr.t (lt _ (by decide)) ?_
 cbv
 refine .mk 2 rfl (ltz _ (by decide)) ?_
 cbv
 refine ACall.mk _ (sim 2 (by decide)) ?_
 cbv
 refine .mk 3 rfl (ltz _ (by decide)) ?_
 cbv
 refine ACall.mk _ (sim 3 (by decide)) ?_
 cbv
 refine ABr.t (lt _ (by decide)) ?_
 cbv
 refine .mk 4 rfl (ltz _ (by decide)) ?_
 cbv
 refine ACall.mk _ (sim 4 (by decide)) ?_
 cbv
 refine .mk 5 rfl (ltz _ (by decide)) ?_
 cbv
 refine ACall.mk _ (sim 5 (by decide)) ?_
 cbv
 refine ABr.t (lt _ (by decide)) ?_
 cbv
 refine .mk 6 rfl (ltz _ (by decide)) ?_
 cbv
 refine ACall.mk _ (sim 6 (by decide)) ?_
 cbv
 refine .mk 7 rfl (ltz _ (by decide)) ?_
 cbv
 refine ACall.mk _ (sim 7 (by decide)) ?_
 cbv
 refine ABr.t (lt _ (by decide)) ?_
 cbv
 refine .mk 8 rfl (ltz _ (by decide)) ?_
 cbv
 refine ACall.mk _ (sim 8 (by decide)) ?_
 cbv
 refine .mk 9 rfl (ltz _ (by decide)) ?_
 cbv
 refine ACall.mk _ (sim 9 (by decide)) ?_
 cbv
 refine ABr.t (lt _ (by decide)) ?_
 cbv
 refine .mk 10 rfl (ltz _ (by decide)) ?_
 cbv
 refine ACall.mk _ (sim 10 (by decide)) ?_
 cbv
 refine .mk 11 rfl (ltz _ (by decide)) ?_
 cbv
 refine ACall.mk _ (sim 11 (by decide)) ?_
 cbv
 refine ABr.t (lt _ (by decide)) ?_
 cbv
 refine .mk 12 rfl (ltz _ (by decide)) ?_
 cbv
 refine ACall.mk _ (sim 12 (by decide)) ?_
 cbv
 refine .mk 13 rfl (ltz _ (by decide)) ?_
 cbv
 refine ACall.mk _ (sim 13 (by decide)) ?_
 cbv
 refine ABr.t (lt _ (by decide)) ?_
 cbv
 refine .mk 14 rfl (ltz _ (by decide)) ?_
 cbv
 refine ACall.mk _ (sim 14 (by decide)) ?_
 cbv
 refine .mk 15 rfl (ltz _ (by decide)) ?_
 cbv
 refine ACall.mk _ (sim 15 (by decide)) ?_
 cbv
 refine ABr.t (lt _ (by decide)) ?_
 cbv
 refine .mk 16 rfl (ltz _ (by decide)) ?_
 cbv
 refine ACall.mk _ (sim 16 (by decide)) ?_
 cbv
 refine .mk 17 rfl (ltz _ (by decide)) ?_
 cbv
 refine ACall.mk _ (sim 17 (by decide)) ?_
 cbv
 refine ABr.t (lt _ (by decide)) ?_
 cbv
 refine .mk 18 rfl (ltz _ (by decide)) ?_
 cbv
 refine ACall.mk _ (sim 18 (by decide)) ?_
 cbv
 refine .mk 19 rfl (ltz _ (by decide)) ?_
 cbv
 refine ACall.mk _ (sim 19 (by decide)) ?_
 cbv
 refine ABr.t (lt _ (by decide)) ?_
 cbv
 refine .mk 20 rfl (ltz _ (by decide)) ?_
 cbv
 refine ACall.mk _ (sim 20 (by decide)) ?_
 cbv
 refine .mk 21 rfl (ltz _ (by decide)) ?_
 cbv
 refine ACall.mk _ (sim 21 (by decide)) ?_
 cbv
 refine ABr.t (lt _ (by decide)) ?_
 cbv
 refine .mk 22 rfl (ltz _ (by decide)) ?_
 cbv
 refine ACall.mk _ (sim 22 (by decide)) ?_
 cbv
 refine .mk 23 rfl (ltz _ (by decide)) ?_
 cbv
 refine ACall.mk _ (sim 23 (by decide)) ?_
 cbv
 refine ABr.t (lt _ (by decide)) ?_
 cbv
 refine .mk 24 rfl (ltz _ (by decide)) ?_
 cbv
 refine ACall.mk _ (sim 24 (by decide)) ?_
 cbv
 refine .mk 25 rfl (ltz _ (by decide)) ?_
 cbv
 refine ACall.mk _ (sim 25 (by decide)) ?_
 cbv
 refine ABr.t (lt _ (by decide)) ?_
 cbv
 refine .mk 26 rfl (ltz _ (by decide)) ?_
 cbv
 refine ACall.mk _ (sim 26 (by decide)) ?_
 cbv
 refine .mk 27 rfl (ltz _ (by decide)) ?_
 cbv
 refine ACall.mk _ (sim 27 (by decide)) ?_
 cbv
 refine ABr.t (lt _ (by decide)) ?_
 cbv
 refine .mk 28 rfl (ltz _ (by decide)) ?_
 cbv
 refine ACall.mk _ (sim 28 (by decide)) ?_
 cbv
 refine .mk 29 rfl (ltz _ (by decide)) ?_
 cbv
 refine ACall.mk _ (sim 29 (by decide)) ?_
 cbv
 refine ABr.t (lt _ (by decide)) ?_
 cbv
 refine .mk 30 rfl (ltz _ (by decide)) ?_
 cbv
 refine ACall.mk _ (sim 30 (by decide)) ?_
 cbv
 refine .mk 31 rfl (ltz _ (by decide)) ?_
 cbv
 refine ACall.mk _ (sim 31 (by decide)) ?_
 cbv
 refine ABr.t (lt _ (by decide)) ?_
 cbv
 refine .mk 32 rfl (ltz _ (by decide)) ?_
 cbv
 refine ACall.mk _ (sim 32 (by decide)) ?_
 cbv
 refine .mk 33 rfl (ltz _ (by decide)) ?_
 cbv
 refine ACall.mk _ (sim 33 (by decide)) ?_
 cbv
 refine ABr.t (lt _ (by decide)) ?_
 cbv
 refine .mk 34 rfl (ltz _ (by decide)) ?_
 cbv
 refine ACall.mk _ (sim 34 (by decide)) ?_
 cbv
 refine .mk 35 rfl (ltz _ (by decide)) ?_
 cbv
 refine ACall.mk _ (sim 35 (by decide)) ?_
 cbv
 refine ABr.t (lt _ (by decide)) ?_
 cbv
 refine .mk 36 rfl (ltz _ (by decide)) ?_
 cbv
 refine ACall.mk _ (sim 36 (by decide)) ?_
 cbv
 refine .mk 37 rfl (ltz _ (by decide)) ?_
 cbv
 refine ACall.mk _ (sim 37 (by decide)) ?_
 cbv
 refine ABr.t (lt _ (by decide)) ?_
 cbv
 refine .mk 38 rfl (ltz _ (by decide)) ?_
 cbv
 refine ACall.mk _ (sim 38 (by decide)) ?_
 cbv
 refine .mk 39 rfl (ltz _ (by decide)) ?_
 cbv
 refine ACall.mk _ (sim 39 (by decide)) ?_
 cbv
 refine ABr.t (lt _ (by decide)) ?_
 cbv
 refine .mk 40 rfl (ltz _ (by decide)) ?_
 cbv
 refine ACall.mk _ (sim 40 (by decide)) ?_
 cbv
 refine .mk 41 rfl (ltz _ (by decide)) ?_
 cbv
 refine ACall.mk _ (sim 41 (by decide)) ?_
 cbv
 refine ABr.t (lt _ (by decide)) ?_
 cbv
 refine .mk 42 rfl (ltz _ (by decide)) ?_
 cbv
 refine ACall.mk _ (sim 42 (by decide)) ?_
 cbv
 refine .mk 43 rfl (ltz _ (by decide)) ?_
 cbv
 refine ACall.mk _ (sim 43 (by decide)) ?_
 cbv
 refine ABr.t (lt _ (by decide)) ?_
 cbv
 refine .mk 44 rfl (ltz _ (by decide)) ?_
 cbv
 refine ACall.mk _ (sim 44 (by decide)) ?_
 cbv
 refine .mk 45 rfl (ltz _ (by decide)) ?_
 cbv
 refine ACall.mk _ (sim 45 (by decide)) ?_
 cbv
 refine ABr.t (lt _ (by decide)) ?_
 cbv
 refine .mk 46 rfl (ltz _ (by decide)) ?_
 cbv
 refine ACall.mk _ (sim 46 (by decide)) ?_
 cbv
 refine .mk 47 rfl (ltz _ (by decide)) ?_
 cbv
 refine ACall.mk _ (sim 47 (by decide)) ?_
 cbv
 refine ABr.t (lt _ (by decide)) ?_
 cbv
 refine .mk 48 rfl (ltz _ (by decide)) ?_
 cbv
 refine ACall.mk _ (sim 48 (by decide)) ?_
 cbv
 refine .mk 49 rfl (ltz _ (by decide)) ?_
 cbv
 refine ACall.mk _ (sim 49 (by decide)) ?_
 cbv
 refine ABr.t (lt _ (by decide)) ?_
 cbv
 refine .mk 50 rfl (ltz _ (by decide)) ?_
 cbv
 refine ACall.mk _ (sim 50 (by decide)) ?_
 cbv
 refine .mk 51 rfl (ltz _ (by decide)) ?_
 cbv
 refine ACall.mk _ (sim 51 (by decide)) ?_
 cbv
 refine ABr.t (lt _ (by decide)) ?_
 cbv
 refine .mk 52 rfl (ltz _ (by decide)) ?_
 cbv
 refine ACall.mk _ (sim 52 (by decide)) ?_
 cbv
 refine .mk 53 rfl (ltz _ (by decide)) ?_
 cbv
 refine ACall.mk _ (sim 53 (by decide)) ?_
 cbv
 refine ABr.t (lt _ (by decide)) ?_
 cbv
 refine .mk 54 rfl (ltz _ (by decide)) ?_
 cbv
 refine ACall.mk _ (sim 54 (by decide)) ?_
 cbv
 refine .mk 55 rfl (ltz _ (by decide)) ?_
 cbv
 refine ACall.mk _ (sim 55 (by decide)) ?_
 cbv
 refine ABr.t (lt _ (by decide)) ?_
 cbv
 refine .mk 56 rfl (ltz _ (by decide)) ?_
 cbv
 refine ACall.mk _ (sim 56 (by decide)) ?_
 cbv
 refine .mk 57 rfl (ltz _ (by decide)) ?_
 cbv
 refine ACall.mk _ (sim 57 (by decide)) ?_
 cbv
 refine ABr.t (lt _ (by decide)) ?_
 cbv
 refine .mk 58 rfl (ltz _ (by decide)) ?_
 cbv
 refine ACall.mk _ (sim 58 (by decide)) ?_
 cbv
 refine .mk 59 rfl (ltz _ (by decide)) ?_
 cbv
 refine ACall.mk _ (sim 59 (by decide)) ?_
 cbv
 refine ABr.t (lt _ (by decide)) ?_
 cbv
 refine .mk 60 rfl (ltz _ (by decide)) ?_
 cbv
 refine ACall.mk _ (sim 60 (by decide)) ?_
 cbv
 refine .mk 61 rfl (ltz _ (by decide)) ?_
 cbv
 refine ACall.mk _ (sim 61 (by decide)) ?_
 cbv
 refine ABr.t (lt _ (by decide)) ?_
 cbv
 refine .mk 62 rfl (ltz _ (by decide)) ?_
 cbv
 refine ACall.mk _ (sim 62 (by decide)) ?_
 cbv
 refine .mk 63 rfl (ltz _ (by decide)) ?_
 cbv
 refine ACall.mk _ (sim 63 (by decide)) ?_
 cbv
 refine ABr.t (lt _ (by decide)) ?_
 cbv
 refine .mk 64 rfl (ltz _ (by decide)) ?_
 cbv
 refine ACall.mk _ (sim 64 (by decide)) ?_
 cbv
 refine .mk 65 rfl (ltz _ (by decide)) ?_
 cbv
 refine ACall.mk _ (sim 65 (by decide)) ?_
 cbv
 refine ABr.t (lt _ (by decide)) ?_
 cbv
 refine .mk 66 rfl (ltz _ (by decide)) ?_
 cbv
 refine ACall.mk _ (sim 66 (by decide)) ?_
 cbv
 refine .mk 67 rfl (ltz _ (by decide)) ?_
 cbv
 refine ACall.mk _ (sim 67 (by decide)) ?_
 cbv
 refine ABr.t (lt _ (by decide)) ?_
 cbv
 refine .mk 68 rfl (ltz _ (by decide)) ?_
 cbv
 refine ACall.mk _ (sim 68 (by decide)) ?_
 cbv
 refine .mk 69 rfl (ltz _ (by decide)) ?_
 cbv
 refine ACall.mk _ (sim 69 (by decide)) ?_
 cbv
 refine ABr.t (lt _ (by decide)) ?_
 cbv
 refine .mk 70 rfl (ltz _ (by decide)) ?_
 cbv
 refine ACall.mk _ (sim 70 (by decide)) ?_
 cbv
 refine .mk 71 rfl (ltz _ (by decide)) ?_
 cbv
 refine ACall.mk _ (sim 71 (by decide)) ?_
 cbv
 refine ABr.t (lt _ (by decide)) ?_
 cbv
 refine .mk 72 rfl (ltz _ (by decide)) ?_
 cbv
 refine ACall.mk _ (sim 72 (by decide)) ?_
 cbv
 refine .mk 73 rfl (ltz _ (by decide)) ?_
 cbv
 refine ACall.mk _ (sim 73 (by decide)) ?_
 cbv
 refine ABr.t (lt _ (by decide)) ?_
 cbv
 refine .mk 74 rfl (ltz _ (by decide)) ?_
 cbv
 refine ACall.mk _ (sim 74 (by decide)) ?_
 cbv
 refine .mk 75 rfl (ltz _ (by decide)) ?_
 cbv
 refine ACall.mk _ (sim 75 (by decide)) ?_
 cbv
 refine ABr.t (lt _ (by decide)) ?_
 cbv
 refine .mk 76 rfl (ltz _ (by decide)) ?_
 cbv
 refine ACall.mk _ (sim 76 (by decide)) ?_
 cbv
 refine .mk 77 rfl (ltz _ (by decide)) ?_
 cbv
 refine ACall.mk _ (sim 77 (by decide)) ?_
 cbv
 refine ABr.t (lt _ (by decide)) ?_
 cbv
 refine .mk 78 rfl (ltz _ (by decide)) ?_
 cbv
 refine ACall.mk _ (sim 78 (by decide)) ?_
 cbv
 refine .mk 79 rfl (ltz _ (by decide)) ?_
 cbv
 refine ACall.mk _ (sim 79 (by decide)) ?_
 cbv
 refine ABr.t (lt _ (by decide)) ?_
 cbv
 refine .mk 80 rfl (ltz _ (by decide)) ?_
 cbv
 refine ACall.mk _ (sim 80 (by decide)) ?_
 cbv
 refine .mk 81 rfl (ltz _ (by decide)) ?_
 cbv
 refine ACall.mk _ (sim 81 (by decide)) ?_
 cbv
 refine ABr.t (lt _ (by decide)) ?_
 cbv
 refine .mk 82 rfl (ltz _ (by decide)) ?_
 cbv
 refine ACall.mk _ (sim 82 (by decide)) ?_
 cbv
 refine .mk 83 rfl (ltz _ (by decide)) ?_
 cbv
 refine ACall.mk _ (sim 83 (by decide)) ?_
 cbv
 refine ABr.t (lt _ (by decide)) ?_
 cbv
 refine .mk 84 rfl (ltz _ (by decide)) ?_
 cbv
 refine ACall.mk _ (sim 84 (by decide)) ?_
 cbv
 refine .mk 85 rfl (ltz _ (by decide)) ?_
 cbv
 refine ACall.mk _ (sim 85 (by decide)) ?_
 cbv
 refine ABr.t (lt _ (by decide)) ?_
 cbv
 refine .mk 86 rfl (ltz _ (by decide)) ?_
 cbv
 refine ACall.mk _ (sim 86 (by decide)) ?_
 cbv
 refine .mk 87 rfl (ltz _ (by decide)) ?_
 cbv
 refine ACall.mk _ (sim 87 (by decide)) ?_
 cbv
 refine ABr.t (lt _ (by decide)) ?_
 cbv
 refine .mk 88 rfl (ltz _ (by decide)) ?_
 cbv
 refine ACall.mk _ (sim 88 (by decide)) ?_
 cbv
 refine .mk 89 rfl (ltz _ (by decide)) ?_
 cbv
 refine ACall.mk _ (sim 89 (by decide)) ?_
 cbv
 refine ABr.t (lt _ (by decide)) ?_
 cbv
 refine .mk 90 rfl (ltz _ (by decide)) ?_
 cbv
 refine ACall.mk _ (sim 90 (by decide)) ?_
 cbv
 refine .mk 91 rfl (ltz _ (by decide)) ?_
 cbv
 refine ACall.mk _ (sim 91 (by decide)) ?_
 cbv
 refine ABr.t (lt _ (by decide)) ?_
 cbv
 refine .mk 92 rfl (ltz _ (by decide)) ?_
 cbv
 refine ACall.mk _ (sim 92 (by decide)) ?_
 cbv
 refine .mk 93 rfl (ltz _ (by decide)) ?_
 cbv
 refine ACall.mk _ (sim 93 (by decide)) ?_
 cbv
 refine ABr.t (lt _ (by decide)) ?_
 cbv
 refine .mk 94 rfl (ltz _ (by decide)) ?_
 cbv
 refine ACall.mk _ (sim 94 (by decide)) ?_
 cbv
 refine .mk 95 rfl (ltz _ (by decide)) ?_
 cbv
 refine ACall.mk _ (sim 95 (by decide)) ?_
 cbv
 refine ABr.f ge ?_
 cbv
 refine aG hS big ?_ ?_
 . cbv
   exact ⟨hn 0 (by decide), hn 1 (by decide), hn 2 (by decide), hn 3 (by decide), hn 4 (by decide), hn 5 (by decide), hn 6 (by decide), hn 7 (by decide), hn 8 (by decide), hn 9 (by decide), hn 10 (by decide), hn 11 (by decide), hn 12 (by decide), hn 13 (by decide), hn 14 (by decide), hn 15 (by decide), hn 16 (by decide), hn 17 (by decide), hn 18 (by decide), hn 19 (by decide), hn 20 (by decide), hn 21 (by decide), hn 22 (by decide), hn 23 (by decide), hn 24 (by decide), hn 25 (by decide), hn 26 (by decide), hn 27 (by decide), hn 28 (by decide), hn 29 (by decide), hn 30 (by decide), hn 31 (by decide), hn 32 (by decide), hn 33 (by decide), hn 34 (by decide), hn 35 (by decide), hn 36 (by decide), hn 37 (by decide), hn 38 (by decide), hn 39 (by decide), hn 40 (by decide), hn 41 (by decide), hn 42 (by decide), hn 43 (by decide), hn 44 (by decide), hn 45 (by decide), hn 46 (by decide), hn 47 (by decide)⟩
 cbv
theorem limR_word {e : Nat} (he : e < 18446744073709551616) : limR e 0 = (e : Int) := by
 unfold limR
 rw [Nat.mul_zero, Nat.pow_zero, Nat.div_one, Nat.mod_eq_of_lt (by simpa using he)]
theorem row1 {e : Nat} (he : e < 18446744073709551616) : IsRow [.s .u64 (e : Int)] (limR e) 1 := by
 refine ⟨rfl, fun i hi => ?_⟩
 obtain rfl : i = 0 := by omega
 rw [limR_word he]; rfl
theorem row2 {s c : Nat} (hs : s < 18446744073709551616) (hc : c < 18446744073709551616) : IsRow [.s .u64 (s : Int), .s .u64 (c : Int)] (limR (s + 18446744073709551616 * c)) 2 := by
 refine ⟨rfl, fun i hi => ?_⟩
 have h0 : limR (s + 18446744073709551616 * c) 0 = (s : Int) := by
   unfold limR
   rw [Nat.mul_zero, Nat.pow_zero, Nat.div_one]
   omega
 have h1 : limR (s + 18446744073709551616 * c) 1 = (c : Int) := by
   unfold limR
   rw [Nat.mul_one, show (2 : Nat) ^ 64 = 18446744073709551616 from rfl]
   omega
 rcases (by omega : i = 0 ∨ i = 1) with rfl | rfl
 . rw [h0]; rfl
 . rw [h1]; rfl
theorem row0 : IsRow [] (limR 0) 0 := ⟨rfl, fun i hi => by omega⟩
instance : NeZero bnP := ⟨by decide⟩
instance : NeZero blsP := ⟨by decide⟩
def fo (p : Nat) [NeZero p] (n : Nat) : Fin p := ⟨n % p, Nat.mod_lt _ (Nat.pos_of_ne_zero (NeZero.ne p))⟩
structure Cu (p : Nat) where
 one : Fin p
 b1 : Fin p
 b2 : Cv.F2 p
 r : Nat
 x1 : Nat
 y1 : Nat
 xa : Nat
 xb : Nat
 ya : Nat
 yb : Nat
def Cc4 (H : H5) {p : Nat} [NeZero p] (c : Cu p) : List AVal :=
 [.i .i64 1, .ref (R4 H p) 0, .s .u64 (H.lim (H.mf 256 p c.one.val) 0), .s .u64 (H.lim (H.mf 256 p c.one.val) 1), .s .u64 (H.lim (H.mf 256 p c.one.val) 2), .s .u64 (H.lim (H.mf 256 p c.one.val) 3), .s .u64 (H.lim c.r 0), .s .u64 (H.lim c.r 1), .s .u64 (H.lim c.r 2), .s .u64 (H.lim c.r 3),
  .ifc 174 (.agg [.ref (R4 H p) 0]), .s .u64 ((K1_4 H p).w c.b1 0), .s .u64 ((K1_4 H p).w c.b1 1), .s .u64 ((K1_4 H p).w c.b1 2), .s .u64 ((K1_4 H p).w c.b1 3),
  .ifc 171 (.agg [.ref (R4 H p) 0]), .s .u64 ((K2_4 H p).w c.b2 0), .s .u64 ((K2_4 H p).w c.b2 1), .s .u64 ((K2_4 H p).w c.b2 2), .s .u64 ((K2_4 H p).w c.b2 3), .s .u64 ((K2_4 H p).w c.b2 4), .s .u64 ((K2_4 H p).w c.b2 5), .s .u64 ((K2_4 H p).w c.b2 6), .s .u64 ((K2_4 H p).w c.b2 7),
  .s .u64 (H.lim c.x1 0), .s .u64 (H.lim c.x1 1), .s .u64 (H.lim c.x1 2), .s .u64 (H.lim c.x1 3), .s .u64 (H.lim c.y1 0), .s .u64 (H.lim c.y1 1), .s .u64 (H.lim c.y1 2), .s .u64 (H.lim c.y1 3), .b false,
  .s .u64 (H.lim c.xa 0), .s .u64 (H.lim c.xa 1), .s .u64 (H.lim c.xa 2), .s .u64 (H.lim c.xa 3), .s .u64 (H.lim c.xb 0), .s .u64 (H.lim c.xb 1), .s .u64 (H.lim c.xb 2), .s .u64 (H.lim c.xb 3), .s .u64 (H.lim c.ya 0), .s .u64 (H.lim c.ya 1), .s .u64 (H.lim c.ya 2), .s .u64 (H.lim c.ya 3), .s .u64 (H.lim c.yb 0), .s .u64 (H.lim c.yb 1), .s .u64 (H.lim c.yb 2), .s .u64 (H.lim c.yb 3), .b false]
theorem smallS4 {H : H5} (hH : H = H5.real) {n : Nat} (hn : n < 18446744073709551616) : Sp 102 [.s .u64 (n : Int)] (u4 H.lim n) := by
 have h0 : H.lim n 0 = (n : Int) := by rw [hH]; exact limR_word hn
 have hs : ∀ i, 0 < i → H.lim n i = 0 := fun i hi => by
   rw [hH]
   show ((n / 2 ^ (64 * i) % 2 ^ 64 : Nat) : Int) = 0
   rw [Nat.div_eq_of_lt (Nat.lt_of_lt_of_le hn (Nat.le_trans (show 18446744073709551616 ≤ 2 ^ 64 by decide) (Nat.pow_le_pow_right (by decide) (by omega)))), Nat.zero_mod]; rfl
 refine mk Tryz.func102 rfl rfl L0 R1 (by decide +kernel) fun A S hA hS => ?_
 unfold bodyOf Tryz.f102
 cbv
 exact ⟨h0.symm, (hs 1 (by decide)).symm, (hs 2 (by decide)).symm, (hs 3 (by decide)).symm⟩
theorem inF4 {H : H5} (hH : H = H5.real) {p : Nat} [NeZero p] (hp : PrM 256 p) {a : Nat} (ha : a < 2 ^ 256) : Sp 101 [.ref (R4 H p) 0, u4 H.lim a] (el4 H p (fo p a).val) := by
 have h := InS4 hH hp.toMod ha
 have e : H.mod p a = (fo p a).val := by rw [hH]; rfl
 rw [e] at h; exact h
def Cc6 (H : H5) {p : Nat} [NeZero p] (c : Cu p) : List AVal :=
 [.i .i64 1, .ref (R6 H p) 0, .s .u64 (H.lim (H.mf 384 p c.one.val) 0), .s .u64 (H.lim (H.mf 384 p c.one.val) 1), .s .u64 (H.lim (H.mf 384 p c.one.val) 2), .s .u64 (H.lim (H.mf 384 p c.one.val) 3), .s .u64 (H.lim (H.mf 384 p c.one.val) 4), .s .u64 (H.lim (H.mf 384 p c.one.val) 5), .s .u64 (H.lim c.r 0), .s .u64 (H.lim c.r 1), .s .u64 (H.lim c.r 2), .s .u64 (H.lim c.r 3),
  .ifc 134 (.agg [.ref (R6 H p) 0]), .s .u64 ((K1_6 H p).w c.b1 0), .s .u64 ((K1_6 H p).w c.b1 1), .s .u64 ((K1_6 H p).w c.b1 2), .s .u64 ((K1_6 H p).w c.b1 3), .s .u64 ((K1_6 H p).w c.b1 4), .s .u64 ((K1_6 H p).w c.b1 5),
  .ifc 139 (.agg [.ref (R6 H p) 0]), .s .u64 ((K2_6 H p).w c.b2 0), .s .u64 ((K2_6 H p).w c.b2 1), .s .u64 ((K2_6 H p).w c.b2 2), .s .u64 ((K2_6 H p).w c.b2 3), .s .u64 ((K2_6 H p).w c.b2 4), .s .u64 ((K2_6 H p).w c.b2 5), .s .u64 ((K2_6 H p).w c.b2 6), .s .u64 ((K2_6 H p).w c.b2 7), .s .u64 ((K2_6 H p).w c.b2 8), .s .u64 ((K2_6 H p).w c.b2 9), .s .u64 ((K2_6 H p).w c.b2 10), .s .u64 ((K2_6 H p).w c.b2 11),
  .s .u64 (H.lim c.x1 0), .s .u64 (H.lim c.x1 1), .s .u64 (H.lim c.x1 2), .s .u64 (H.lim c.x1 3), .s .u64 (H.lim c.x1 4), .s .u64 (H.lim c.x1 5), .s .u64 (H.lim c.y1 0), .s .u64 (H.lim c.y1 1), .s .u64 (H.lim c.y1 2), .s .u64 (H.lim c.y1 3), .s .u64 (H.lim c.y1 4), .s .u64 (H.lim c.y1 5), .b false,
  .s .u64 (H.lim c.xa 0), .s .u64 (H.lim c.xa 1), .s .u64 (H.lim c.xa 2), .s .u64 (H.lim c.xa 3), .s .u64 (H.lim c.xa 4), .s .u64 (H.lim c.xa 5), .s .u64 (H.lim c.xb 0), .s .u64 (H.lim c.xb 1), .s .u64 (H.lim c.xb 2), .s .u64 (H.lim c.xb 3), .s .u64 (H.lim c.xb 4), .s .u64 (H.lim c.xb 5), .s .u64 (H.lim c.ya 0), .s .u64 (H.lim c.ya 1), .s .u64 (H.lim c.ya 2), .s .u64 (H.lim c.ya 3), .s .u64 (H.lim c.ya 4), .s .u64 (H.lim c.ya 5), .s .u64 (H.lim c.yb 0), .s .u64 (H.lim c.yb 1), .s .u64 (H.lim c.yb 2), .s .u64 (H.lim c.yb 3), .s .u64 (H.lim c.yb 4), .s .u64 (H.lim c.yb 5), .b false]
theorem smallS6 {H : H5} (hH : H = H5.real) {n : Nat} (hn : n < 18446744073709551616) : Sp 74 [.s .u64 (n : Int)] (u6 H.lim n) := by
 have h0 : H.lim n 0 = (n : Int) := by rw [hH]; exact limR_word hn
 have hs : ∀ i, 0 < i → H.lim n i = 0 := fun i hi => by
   rw [hH]
   show ((n / 2 ^ (64 * i) % 2 ^ 64 : Nat) : Int) = 0
   rw [Nat.div_eq_of_lt (Nat.lt_of_lt_of_le hn (Nat.le_trans (show 18446744073709551616 ≤ 2 ^ 64 by decide) (Nat.pow_le_pow_right (by decide) (by omega)))), Nat.zero_mod]; rfl
 refine mk Tryz.func74 rfl rfl L0 R1 (by decide +kernel) fun A S hA hS => ?_
 unfold bodyOf Tryz.f74
 cbv
 exact ⟨h0.symm, (hs 1 (by decide)).symm, (hs 2 (by decide)).symm, (hs 3 (by decide)).symm, (hs 4 (by decide)).symm, (hs 5 (by decide)).symm⟩
theorem inF6 {H : H5} (hH : H = H5.real) {p : Nat} [NeZero p] (hp : PrM 384 p) {a : Nat} (ha : a < 2 ^ 384) : Sp 73 [.ref (R6 H p) 0, u6 H.lim a] (el6 H p (fo p a).val) := by
 have h := InS6 hH hp.toMod ha
 have e : H.mod p a = (fo p a).val := by rw [hH]; rfl
 rw [e] at h; exact h
theorem bnPr : PrM 256 bnP := ⟨⟨by decide, by decide, by decide⟩, primes4_pr (by decide), by decide, by decide⟩
theorem blsPr : PrM 384 blsP := ⟨⟨by decide, by decide, by decide⟩, primes6_pr (by decide), by decide, by decide⟩
def bnB2 : Cv.F2 bnP := (Cv.ops2 Cv.inv2).mul ⟨fo bnP 3, fo bnP 0⟩ (Cv.inv2 ⟨fo bnP 9, fo bnP 1⟩)
def bnC : Cu bnP := ⟨fo bnP 1, fo bnP 3, bnB2, bnR, 1, 2, 0x1800deef121f1e76426a00665e5c4479674322d4f75edadd46debd5cd992f6ed, 0x198e9393920d483a7260bfb731fb5d25f1aa493335a9e71297e485b7aef312c2,
 0x12c85ea5db8c6deb4aab71808dcb408fe3d1e7690c43d37b4ce6cc0166fa7daa, 0x090689d0585ff075ec9e99ad690c3395bc4b313370b38ef355acdadcd122975b⟩
def blsC : Cu blsP := ⟨fo blsP 1, fo blsP 4, ⟨fo blsP 4, fo blsP 4⟩, blsR, 0x17f1d3a73197d7942695638c4fa9ac0fc3688c4f9774b905a14e3a3f171bac586c55e83ff97a1aeffb3af00adb22c6bb, 0x08b3f481e3aaa0f1a09e30ed741d8ae4fcf5e095d5d00af600db18cb2c04b3edd03cc744a2888ae40caa232946c5e7e1,
 0x024aa2b2f08f0a91260805272dc51051c6e47ad4fa403b02b4510b647ae3d1770bac0326a805bbefd48056c8c121bdb8, 0x13e02b6052719f607dacd3a088274f65596bd0d09920b61ab5da61bbdc7f5049334cf11213945d57e5ac7d055d042b7e,
 0x0ce5d527727d6e118cc9cdc6da2e351aadfd9baa8cbdd3a76d429a695160d12c923ac9cc3baca289e193548608b82801, 0x0606c4a02ea734cc32acd2b02bc28b99cb3e287e85a763af267492ab572e99ab3f370d275cec1da1aaa9075ff05f79be⟩
theorem bnElS {H : H5} (hH : H = H5.real) {n : Nat} (hn : n < 18446744073709551616) : Sp 100 [.s .u64 (n : Int), .ref [.ref (R4 H bnP) 0] 0] (el4 H bnP (fo bnP n).val) := by
 have h1 := smallS4 hH hn
 have h2 := inF4 hH bnPr (a := n) (Nat.lt_trans hn (by decide))
 generalize (fo bnP n).val = q at *
 refine mk Tryz.func100 rfl rfl L0 R1 (by decide +kernel) fun A S hA hS => ?_
 unfold bodyOf Tryz.f100
 cbv
 refine aF hS h1 ?_
 cbv
 refine aF hS h2 ?_
 cbv
def RBn : Nat → Md := fun r => match r with | 5 => .all | _ => .mid
def RBls : Nat → Md := fun r => match r with | 3 => .all | _ => .mid
theorem BnS {H : H5} (hH : H = H5.real) {c : Cu bnP} (hc : c = bnC) : Sp 28 [] (.ref (Cc4 H c) 0) := by
 have hl := H5.hlim hH
 have h1 := BnPS hH
 have h2 := MakeS4 hH bnPr.toMod
 have h3 : Sp 105 [] (u4 H.lim c.r) := by rw [hc]; exact BnRS hH
 have sx : Sp 102 [.s .u64 ((1 : Nat) : Int)] (u4 H.lim c.x1) := by rw [hc]; exact smallS4 hH (by decide)
 have sy : Sp 102 [.s .u64 ((2 : Nat) : Int)] (u4 H.lim c.y1) := by rw [hc]; exact smallS4 hH (by decide)
 have hq1 : c.one = fo bnP 1 := by rw [hc]; rfl
 obtain ⟨q0, hq0⟩ : ∃ q, q = fo bnP 0 := ⟨_, rfl⟩
 obtain ⟨q9, hq9⟩ : ∃ q, q = fo bnP 9 := ⟨_, rfl⟩
 have hb1 : c.b1 = fo bnP 3 := by rw [hc]; rfl
 have el1 : Sp 100 [.s .u64 ((1 : Nat) : Int), .ref [.ref (R4 H bnP) 0] 0] (el4 H bnP c.one.val) := by rw [hq1]; exact bnElS hH (by decide)
 have el0 : Sp 100 [.s .u64 ((0 : Nat) : Int), .ref [.ref (R4 H bnP) 0] 0] (el4 H bnP q0.val) := by rw [hq0]; exact bnElS hH (by decide)
 have el9 : Sp 100 [.s .u64 ((9 : Nat) : Int), .ref [.ref (R4 H bnP) 0] 0] (el4 H bnP q9.val) := by rw [hq9]; exact bnElS hH (by decide)
 have el3 : Sp 100 [.s .u64 ((3 : Nat) : Int), .ref [.ref (R4 H bnP) 0] 0] (el4 H bnP c.b1.val) := by rw [hb1]; exact bnElS hH (by decide)
 have iv : Sp 104 _ _ := (ok2_4 hH bnPr).inv ⟨q9, c.one⟩
 have ml : Sp 103 _ _ := (ok2_4 hH bnPr).mul ⟨c.b1, q0⟩ (Cv.inv2 ⟨q9, c.one⟩)
 change Sp _ _ (Et4 (K2_4 H bnP) (Cv.inv2 ⟨q9, c.one⟩)) at iv
 have e2 : (K2_4 H bnP).O.mul ⟨c.b1, q0⟩ (Cv.inv2 ⟨q9, c.one⟩) = c.b2 := by rw [hb1, hq0, hq1, hq9, hc]; rfl
 rw [e2] at ml
 generalize Cv.inv2 ⟨q9, c.one⟩ = i9 at *
 clear hq1 hq0 hq9
 refine mk Tryz.func28 rfl rfl L0 RBn (by decide +kernel) ?_
 intro A S hA hS
 unfold bodyOf Tryz.f28
 cbv
 refine aF hS h1 ?_
 cbv
 refine aF hS h2 ?_
 cbv
 refine ACall.mk _ (cg hS el3 (by first | (cbv; done) | (cbv; exact rfl) | (cbv; exact ⟨rfl, trivial⟩))) ?_
 cbv
 refine ACall.mk _ (cg hS el0 (by first | (cbv; done) | (cbv; exact rfl) | (cbv; exact ⟨rfl, trivial⟩))) ?_
 cbv
 refine ACall.mk _ (cg hS el9 (by first | (cbv; done) | (cbv; exact rfl) | (cbv; exact ⟨rfl, trivial⟩))) ?_
 cbv
 refine ACall.mk _ (cg hS el1 (by first | (cbv; done) | (cbv; exact rfl) | (cbv; exact ⟨rfl, trivial⟩))) ?_
 cbv
 refine aF hS iv ?_
 cbv
 refine aF hS ml ?_
 cbv
 refine ACall.mk _ (cg hS el1 (by first | (cbv; done) | (cbv; exact rfl) | (cbv; exact ⟨rfl, trivial⟩))) ?_
 cbv
 refine aF hS h3 ?_
 cbv
 refine ACall.mk _ (cg hS el3 (by first | (cbv; done) | (cbv; exact rfl) | (cbv; exact ⟨rfl, trivial⟩))) ?_
 cbv
 refine ACall.mk _ (cg hS sx (by first | (cbv; done) | (cbv; exact rfl) | (cbv; exact ⟨rfl, trivial⟩))) ?_
 cbv
 refine ACall.mk _ (cg hS sy (by first | (cbv; done) | (cbv; exact rfl) | (cbv; exact ⟨rfl, trivial⟩))) ?_
 cbv
 refine ACall.mk _ (cf hS (numberS4 hl _ (by decide +kernel) (by decide +kernel))) ?_
 rw [show numB (hexB _) 32 = c.xa from (by rw [hc]; decide +kernel)]
 cbv
 refine ACall.mk _ (cf hS (numberS4 hl _ (by decide +kernel) (by decide +kernel))) ?_
 rw [show numB (hexB _) 32 = c.xb from (by rw [hc]; decide +kernel)]
 cbv
 refine ACall.mk _ (cf hS (numberS4 hl _ (by decide +kernel) (by decide +kernel))) ?_
 rw [show numB (hexB _) 32 = c.ya from (by rw [hc]; decide +kernel)]
 cbv
 refine ACall.mk _ (cf hS (numberS4 hl _ (by decide +kernel) (by decide +kernel))) ?_
 rw [show numB (hexB _) 32 = c.yb from (by rw [hc]; decide +kernel)]
 cbv
theorem BlsS {H : H5} (hH : H = H5.real) {c : Cu blsP} (hc : c = blsC) : Sp 13 [] (.ref (Cc6 H c) 0) := by
 have hl := H5.hlim hH
 have h1 := BlsPS hH
 have h2 := MakeS6 hH blsPr.toMod
 have h3 : Sp 75 [] (u4 H.lim c.r) := by rw [hc]; exact BlsRS hH
 have hq1 : c.one = fo blsP 1 := by rw [hc]; rfl
 have in4 : Sp 73 [.ref (R6 H blsP) 0, u6 H.lim 4] (el6 H blsP c.b1.val) := by rw [hc]; exact inF6 hH blsPr (a := 4) (by decide)
 have in1 : Sp 73 [.ref (R6 H blsP) 0, u6 H.lim 1] (el6 H blsP c.one.val) := by rw [hq1]; exact inF6 hH blsPr (a := 1) (by decide)
 have ha : c.b1 = c.b2.a := by rw [hc]; rfl
 have hb : c.b1 = c.b2.b := by rw [hc]; rfl
 have sm := fun n (hn : n < 18446744073709551616) => smallS6 hH hn
 clear hq1
 refine mk Tryz.func13 rfl rfl L0 RBls (by decide +kernel) ?_
 intro A S hA hS
 unfold bodyOf Tryz.f13
 cbv
 refine aF hS h1 ?_
 cbv
 refine aF hS h2 ?_
 cbv
 refine ACall.mk _ (cg hS (sm 4 (by decide)) (by first | (cbv; done) | (cbv; exact rfl) | (cbv; exact ⟨rfl, trivial⟩))) ?_
 cbv
 refine aF hS in4 ?_
 cbv
 refine ACall.mk _ (cg hS (sm 1 (by decide)) (by first | (cbv; done) | (cbv; exact rfl) | (cbv; exact ⟨rfl, trivial⟩))) ?_
 cbv
 refine aF hS in1 ?_
 cbv
 refine aF hS h3 ?_
 cbv
 refine ACall.mk _ (cf hS (numberS6 hl _ (by decide +kernel) (by decide +kernel))) ?_
 rw [show numB (hexB _) 48 = c.x1 from (by rw [hc]; decide +kernel)]
 cbv
 refine ACall.mk _ (cf hS (numberS6 hl _ (by decide +kernel) (by decide +kernel))) ?_
 rw [show numB (hexB _) 48 = c.y1 from (by rw [hc]; decide +kernel)]
 cbv
 refine ACall.mk _ (cf hS (numberS6 hl _ (by decide +kernel) (by decide +kernel))) ?_
 rw [show numB (hexB _) 48 = c.xa from (by rw [hc]; decide +kernel)]
 cbv
 refine ACall.mk _ (cf hS (numberS6 hl _ (by decide +kernel) (by decide +kernel))) ?_
 rw [show numB (hexB _) 48 = c.xb from (by rw [hc]; decide +kernel)]
 cbv
 refine ACall.mk _ (cf hS (numberS6 hl _ (by decide +kernel) (by decide +kernel))) ?_
 rw [show numB (hexB _) 48 = c.ya from (by rw [hc]; decide +kernel)]
 cbv
 refine ACall.mk _ (cf hS (numberS6 hl _ (by decide +kernel) (by decide +kernel))) ?_
 rw [show numB (hexB _) 48 = c.yb from (by rw [hc]; decide +kernel)]
 cbv
 exact ⟨congrArg (fun q : Fin blsP => H.lim (H.mf 384 blsP q.val) 0) ha, congrArg (fun q : Fin blsP => H.lim (H.mf 384 blsP q.val) 1) ha, congrArg (fun q : Fin blsP => H.lim (H.mf 384 blsP q.val) 2) ha, congrArg (fun q : Fin blsP => H.lim (H.mf 384 blsP q.val) 3) ha, congrArg (fun q : Fin blsP => H.lim (H.mf 384 blsP q.val) 4) ha, congrArg (fun q : Fin blsP => H.lim (H.mf 384 blsP q.val) 5) ha, congrArg (fun q : Fin blsP => H.lim (H.mf 384 blsP q.val) 0) hb, congrArg (fun q : Fin blsP => H.lim (H.mf 384 blsP q.val) 1) hb, congrArg (fun q : Fin blsP => H.lim (H.mf 384 blsP q.val) 2) hb, congrArg (fun q : Fin blsP => H.lim (H.mf 384 blsP q.val) 3) hb, congrArg (fun q : Fin blsP => H.lim (H.mf 384 blsP q.val) 4) hb, congrArg (fun q : Fin blsP => H.lim (H.mf 384 blsP q.val) 5) hb, trivial⟩
structure PtA where
 x : Nat
 y : Nat
 inf : Bool
structure PtB where
 xa : Nat
 xb : Nat
 ya : Nat
 yb : Nat
 inf : Bool
def RDn : Nat → Md := fun r => match r with | 4 => .res [] | _ => .mid
section
variable {p : Nat} [NeZero p]
def ptOf (p : Nat) [NeZero p] (P : PtA) : Cv.Pt (Fin p) := if P.inf then none else some (fo p P.x, fo p P.y)
def ofPt : Cv.Pt (Fin p) → PtA
 | none => ⟨0, 0, true⟩
 | some (x, y) => ⟨x.val, y.val, false⟩
def ptOf2 (p : Nat) [NeZero p] (P : PtB) : Cv.Pt (Cv.F2 p) := if P.inf then none else some (⟨fo p P.xa, fo p P.xb⟩, ⟨fo p P.ya, fo p P.yb⟩)
theorem i_not {A : Ar} (hA : A = Ar.real) {t s : Bool} (h : t = s) : A.not t = !s := by rw [h, hA]; rfl
def P1_4 (H : H5) (P : PtA) : AVal := .agg [.s .u64 (H.lim P.x 0), .s .u64 (H.lim P.x 1), .s .u64 (H.lim P.x 2), .s .u64 (H.lim P.x 3), .s .u64 (H.lim P.y 0), .s .u64 (H.lim P.y 1), .s .u64 (H.lim P.y 2), .s .u64 (H.lim P.y 3), .sb P.inf]
def P2_4 (H : H5) (P : PtB) : AVal := .agg [.s .u64 (H.lim P.xa 0), .s .u64 (H.lim P.xa 1), .s .u64 (H.lim P.xa 2), .s .u64 (H.lim P.xa 3), .s .u64 (H.lim P.xb 0), .s .u64 (H.lim P.xb 1), .s .u64 (H.lim P.xb 2), .s .u64 (H.lim P.xb 3), .s .u64 (H.lim P.ya 0), .s .u64 (H.lim P.ya 1), .s .u64 (H.lim P.ya 2), .s .u64 (H.lim P.ya 3), .s .u64 (H.lim P.yb 0), .s .u64 (H.lim P.yb 1), .s .u64 (H.lim P.yb 2), .s .u64 (H.lim P.yb 3), .sb P.inf]
theorem lim04 {H : H5} (hH : H = H5.real) : ∀ i, H.lim 0 i = 0 := fun i => by
 rw [hH]; show ((0 / 2 ^ (64 * i) % 2 ^ 64 : Nat) : Int) = 0; rw [Nat.zero_div]; rfl
theorem nz4 {A : Ar} (hA : A = Ar.real) {H : H5} (hH : H = H5.real) {a : Nat} (ha : a < 2 ^ 256) : A.eqs [(.s .u64 (H.lim a 0), .i .u64 0), (.s .u64 (H.lim a 1), .i .u64 0), (.s .u64 (H.lim a 2), .i .u64 0), (.s .u64 (H.lim a 3), .i .u64 0)] = decide (a = 0) := by
 have h0 : ∀ x : Int, leafEq (.s .u64 x, .i .u64 0) = (x == 0) := fun x => rfl
 have l0 := lim04 hH
 refine eqs_dec hA ⟨fun h => ?_, fun h => ?_⟩
 . simp only [List.all_cons, List.all_nil, h0, beq_iff_eq, Bool.and_eq_true, and_true] at h
   obtain ⟨h0, h1, h2, h3⟩ := h
   exact lim_inj4 (H5.hlim hH) ha (by decide) ⟨h0.trans (l0 0).symm, h1.trans (l0 1).symm, h2.trans (l0 2).symm, h3.trans (l0 3).symm⟩
 . subst h
   simp only [List.all_cons, List.all_nil, h0, beq_iff_eq, Bool.and_eq_true, and_true]
   exact ⟨l0 0, l0 1, l0 2, l0 3⟩
theorem CisS4 {H : H5} (c : Cu p) : Sp 108 [.ref (Cc4 H c) 0] (.b true) := by
 refine mk Tryz.func108 rfl rfl L0 R1 (by decide +kernel) fun A S hA hS => ?_
 unfold bodyOf Tryz.f108
 cbv
theorem base1S4 {H : H5} (c : Cu p) : Sp 44 [.ref (Cc4 H c) 0] (P1_4 H ⟨c.x1, c.y1, false⟩) := by
 have h := CisS4 (H := H) c
 refine mk Tryz.func44 rfl rfl L0 R1 (by decide +kernel) fun A S hA hS => ?_
 unfold bodyOf Tryz.f44
 cbv
 refine aF hS h ?_
 cbv
theorem up1S4 {H : H5} (hH : H = H5.real) (hp : PrM 256 p) {c : Cu p} (h1c : c.one = fo p 1) (P : PtA) (hx : P.x < 2 ^ 256) (hy : P.y < 2 ^ 256) : Sp 113 [.ref (Cc4 H c) 0, P1_4 H P] (Jb4 (K1_4 H p) (Cv.up (K1_4 H p).O (ptOf p P))) := by
 obtain ⟨x, y, inf⟩ := P
 have h1 := inF4 hH hp hx
 have h2 := inF4 hH hp hy
 have z := mf_zero4 (p := p) hH
 cases inf
 . refine mk Tryz.func113 rfl rfl L0 R1 (by decide +kernel) fun A S hA hS => ?_
   have e : Cv.up (K1_4 H p).O (ptOf p ⟨x, y, false⟩) = ⟨fo p x, fo p y, c.one⟩ := by rw [h1c]; rfl
   rw [e]
   generalize fo p x = u at *
   generalize fo p y = v at *
   unfold bodyOf Tryz.f113
   cbv
   refine ABr.f rfl ?_
   cbv
   refine aF hS h1 ?_
   cbv
   refine aF hS h2 ?_
   cbv
 . refine mk Tryz.func113 rfl rfl L0 R1 (by decide +kernel) fun A S hA hS => ?_
   have e : Cv.up (K1_4 H p).O (ptOf p ⟨x, y, true⟩) = ⟨0, 0, 0⟩ := rfl
   rw [e]
   generalize (0 : Fin p) = o at *
   unfold bodyOf Tryz.f113
   cbv
   refine ABr.t rfl ?_
   cbv
   exact ⟨(z 0).symm, (z 1).symm, (z 2).symm, (z 3).symm, (z 0).symm, (z 1).symm, (z 2).symm, (z 3).symm, (z 0).symm, (z 1).symm, (z 2).symm, (z 3).symm⟩
theorem outF4 {H : H5} (hH : H = H5.real) (hp : PrM 256 p) (a : Fin p) : Sp 183 [.ref (R4 H p) 0, el4 H p a.val] (u4 H.lim a.val) := OutS4 hH hp.toMod a.isLt
theorem down1S4 {H : H5} (hH : H = H5.real) (hp : PrM 256 p) (c : Cu p) (q : Cv.Jac (Fin p)) : Sp 115 [.ref (Cc4 H c) 0, Jb4 (K1_4 H p) q] (P1_4 H (ofPt (Cv.down (K1_4 H p).O q))) := by
 have hK := ok1_4 hH hp
 have fl := flatb4 hK c.b1 q
 have l0 := lim04 hH
 obtain ⟨qx, qy, qz⟩ := q
 dsimp only at fl
 unfold Cv.down
 dsimp only
 by_cases h : qz = (K1_4 H p).O.zero
 . rw [if_pos h]
   have hz := fun A hA => (hK.eqz (A := A) hA qz).trans (decide_eq_true h)
   refine mk Tryz.func115 rfl rfl L0 RDn (by decide +kernel) fun A S hA hS => ?_
   have hz := hz A hA
   unfold bodyOf Tryz.f115
   cbv
   refine ABr.t hz ?_
   cbv
   exact ⟨(l0 0).symm, (l0 1).symm, (l0 2).symm, (l0 3).symm, (l0 0).symm, (l0 1).symm, (l0 2).symm, (l0 3).symm, trivial⟩
 . rw [if_neg h]
   have hz := fun A hA => (hK.eqz (A := A) hA qz).trans (decide_eq_false h)
   generalize (K1_4 H p).O.mul qx ((K1_4 H p).O.mul ((K1_4 H p).O.inv qz) ((K1_4 H p).O.inv qz)) = u at *
   generalize (K1_4 H p).O.mul ((K1_4 H p).O.mul qy ((K1_4 H p).O.mul ((K1_4 H p).O.inv qz) ((K1_4 H p).O.inv qz))) ((K1_4 H p).O.inv qz) = v at *
   have o1 := outF4 hH hp u
   have o2 := outF4 hH hp v
   clear hK
   refine mk Tryz.func115 rfl rfl L0 RDn (by decide +kernel) fun A S hA hS => ?_
   have hz := hz A hA
   unfold bodyOf Tryz.f115
   cbv
   refine ABr.f hz ?_
   cbv
   refine aF hS fl ?_
   cbv
   refine aF hS o1 ?_
   cbv
   refine aF hS o2 ?_
   cbv
def P1_6 (H : H5) (P : PtA) : AVal := .agg [.s .u64 (H.lim P.x 0), .s .u64 (H.lim P.x 1), .s .u64 (H.lim P.x 2), .s .u64 (H.lim P.x 3), .s .u64 (H.lim P.x 4), .s .u64 (H.lim P.x 5), .s .u64 (H.lim P.y 0), .s .u64 (H.lim P.y 1), .s .u64 (H.lim P.y 2), .s .u64 (H.lim P.y 3), .s .u64 (H.lim P.y 4), .s .u64 (H.lim P.y 5), .sb P.inf]
theorem lim06 {H : H5} (hH : H = H5.real) : ∀ i, H.lim 0 i = 0 := fun i => by
 rw [hH]; show ((0 / 2 ^ (64 * i) % 2 ^ 64 : Nat) : Int) = 0; rw [Nat.zero_div]; rfl
theorem nz6 {A : Ar} (hA : A = Ar.real) {H : H5} (hH : H = H5.real) {a : Nat} (ha : a < 2 ^ 384) : A.eqs [(.s .u64 (H.lim a 0), .i .u64 0), (.s .u64 (H.lim a 1), .i .u64 0), (.s .u64 (H.lim a 2), .i .u64 0), (.s .u64 (H.lim a 3), .i .u64 0), (.s .u64 (H.lim a 4), .i .u64 0), (.s .u64 (H.lim a 5), .i .u64 0)] = decide (a = 0) := by
 have h0 : ∀ x : Int, leafEq (.s .u64 x, .i .u64 0) = (x == 0) := fun x => rfl
 have l0 := lim06 hH
 refine eqs_dec hA ⟨fun h => ?_, fun h => ?_⟩
 . simp only [List.all_cons, List.all_nil, h0, beq_iff_eq, Bool.and_eq_true, and_true] at h
   obtain ⟨h0, h1, h2, h3, h4, h5⟩ := h
   exact lim_inj6 (H5.hlim hH) ha (by decide) ⟨h0.trans (l0 0).symm, h1.trans (l0 1).symm, h2.trans (l0 2).symm, h3.trans (l0 3).symm, h4.trans (l0 4).symm, h5.trans (l0 5).symm⟩
 . subst h
   simp only [List.all_cons, List.all_nil, h0, beq_iff_eq, Bool.and_eq_true, and_true]
   exact ⟨l0 0, l0 1, l0 2, l0 3, l0 4, l0 5⟩
theorem CisS6 {H : H5} (c : Cu p) : Sp 82 [.ref (Cc6 H c) 0] (.b true) := by
 refine mk Tryz.func82 rfl rfl L0 R1 (by decide +kernel) fun A S hA hS => ?_
 unfold bodyOf Tryz.f82
 cbv
theorem up1S6 {H : H5} (hH : H = H5.real) (hp : PrM 384 p) {c : Cu p} (h1c : c.one = fo p 1) (P : PtA) (hx : P.x < 2 ^ 384) (hy : P.y < 2 ^ 384) : Sp 92 [.ref (Cc6 H c) 0, P1_6 H P] (Jb6 (K1_6 H p) (Cv.up (K1_6 H p).O (ptOf p P))) := by
 obtain ⟨x, y, inf⟩ := P
 have h1 := inF6 hH hp hx
 have h2 := inF6 hH hp hy
 have z := mf_zero6 (p := p) hH
 cases inf
 . refine mk Tryz.func92 rfl rfl L0 R1 (by decide +kernel) fun A S hA hS => ?_
   have e : Cv.up (K1_6 H p).O (ptOf p ⟨x, y, false⟩) = ⟨fo p x, fo p y, c.one⟩ := by rw [h1c]; rfl
   rw [e]
   generalize fo p x = u at *
   generalize fo p y = v at *
   unfold bodyOf Tryz.f92
   cbv
   refine ABr.f rfl ?_
   cbv
   refine aF hS h1 ?_
   cbv
   refine aF hS h2 ?_
   cbv
 . refine mk Tryz.func92 rfl rfl L0 R1 (by decide +kernel) fun A S hA hS => ?_
   have e : Cv.up (K1_6 H p).O (ptOf p ⟨x, y, true⟩) = ⟨0, 0, 0⟩ := rfl
   rw [e]
   generalize (0 : Fin p) = o at *
   unfold bodyOf Tryz.f92
   cbv
   refine ABr.t rfl ?_
   cbv
   exact ⟨(z 0).symm, (z 1).symm, (z 2).symm, (z 3).symm, (z 4).symm, (z 5).symm, (z 0).symm, (z 1).symm, (z 2).symm, (z 3).symm, (z 4).symm, (z 5).symm, (z 0).symm, (z 1).symm, (z 2).symm, (z 3).symm, (z 4).symm, (z 5).symm⟩
theorem outF6 {H : H5} (hH : H = H5.real) (hp : PrM 384 p) (a : Fin p) : Sp 146 [.ref (R6 H p) 0, el6 H p a.val] (u6 H.lim a.val) := OutS6 hH hp.toMod a.isLt
end
section
variable {p : Nat} [NeZero p]
theorem in2S4 {H : H5} (hH : H = H5.real) (hp : PrM 256 p) (c : Cu p) {a b : Nat} (ha : a < 2 ^ 256) (hb : b < 2 ^ 256) : Sp 134 [.ref (Cc4 H c) 0, .agg [.s .u64 (H.lim a 0), .s .u64 (H.lim a 1), .s .u64 (H.lim a 2), .s .u64 (H.lim a 3), .s .u64 (H.lim b 0), .s .u64 (H.lim b 1), .s .u64 (H.lim b 2), .s .u64 (H.lim b 3)]] (el2_4 H p (fo p a).val (fo p b).val) := by
 have h1 := inF4 hH hp ha
 have h2 := inF4 hH hp hb
 generalize fo p a = u at *
 generalize fo p b = v at *
 refine mk Tryz.func134 rfl rfl L0 R1 (by decide +kernel) fun A S hA hS => ?_
 unfold bodyOf Tryz.f134
 cbv
 refine aF hS h1 ?_
 cbv
 refine aF hS h2 ?_
 cbv
theorem up2S4 {H : H5} (hH : H = H5.real) (hp : PrM 256 p) {c : Cu p} (h1c : c.one = fo p 1) (P : PtB) (hxa : P.xa < 2 ^ 256) (hxb : P.xb < 2 ^ 256) (hya : P.ya < 2 ^ 256) (hyb : P.yb < 2 ^ 256) :
   Sp 129 [.ref (Cc4 H c) 0, P2_4 H P] (Jt4 (K2_4 H p) (Cv.up (K2_4 H p).O (ptOf2 p P))) := by
 obtain ⟨xa, xb, ya, yb, inf⟩ := P
 have h1 := in2S4 hH hp c hxa hxb
 have h2 := in2S4 hH hp c hya hyb
 have z := mf_zero4 (p := p) hH
 cases inf
 . have e : Cv.up (K2_4 H p).O (ptOf2 p ⟨xa, xb, ya, yb, false⟩) = ⟨⟨fo p xa, fo p xb⟩, ⟨fo p ya, fo p yb⟩, ⟨c.one, 0⟩⟩ := by rw [h1c]; rfl
   rw [e]
   generalize fo p xa = u at *
   generalize fo p ya = v at *
   generalize fo p xb = u' at *
   generalize fo p yb = v' at *
   generalize (0 : Fin p) = o at *
   refine mk Tryz.func129 rfl rfl L0 R1 (by decide +kernel) fun A S hA hS => ?_
   unfold bodyOf Tryz.f129
   cbv
   refine ABr.f rfl ?_
   cbv
   refine aF hS h1 ?_
   cbv
   refine aF hS h2 ?_
   cbv
   exact ⟨(z 0).symm, (z 1).symm, (z 2).symm, (z 3).symm⟩
 . have e : Cv.up (K2_4 H p).O (ptOf2 p ⟨xa, xb, ya, yb, true⟩) = ⟨⟨0, 0⟩, ⟨0, 0⟩, ⟨0, 0⟩⟩ := rfl
   rw [e]
   generalize (0 : Fin p) = o at *
   refine mk Tryz.func129 rfl rfl L0 R1 (by decide +kernel) fun A S hA hS => ?_
   unfold bodyOf Tryz.f129
   cbv
   refine ABr.t rfl ?_
   cbv
   exact ⟨(z 0).symm, (z 1).symm, (z 2).symm, (z 3).symm, (z 0).symm, (z 1).symm, (z 2).symm, (z 3).symm, (z 0).symm, (z 1).symm, (z 2).symm, (z 3).symm, (z 0).symm, (z 1).symm, (z 2).symm, (z 3).symm, (z 0).symm, (z 1).symm, (z 2).symm, (z 3).symm, (z 0).symm, (z 1).symm, (z 2).symm, (z 3).symm⟩
theorem less0S6 {H : H5} (hH : H = H5.real) (hp : PrM 384 p) (c : Cu p) {a : Nat} (ha : a < 2 ^ 384) : Sp 147 [.ref (Cc6 H c) 0, u6 H.lim a] (u6 H.lim (0 - fo p a).val) := by
 have h1 := inF6 hH hp ha
 have h2 := NegF6 hH hp (fo p a)
 have h3 := outF6 hH hp (0 - fo p a)
 by_cases h0 : a = 0
 . have e : (0 - fo p a).val = a := by
     rw [h0]
     show (0 - (0 : Fin p)).val = 0
     rw [Fin.sub_def]
     show (p - (0 % p) + (0 % p)) % p = 0
     rw [Nat.zero_mod, Nat.sub_zero, Nat.add_zero, Nat.mod_self]
   rw [e]
   refine mk Tryz.func147 rfl rfl L0 R1 (by decide +kernel) fun A S hA hS => ?_
   have hz := (nz6 hA hH ha).trans (decide_eq_true h0)
   clear h1 h2 h3
   unfold bodyOf Tryz.f147
   cbv
   refine ABr.t hz ?_
   cbv
 . generalize 0 - fo p a = w at *
   generalize fo p a = v at *
   refine mk Tryz.func147 rfl rfl L0 R1 (by decide +kernel) fun A S hA hS => ?_
   have hz := (nz6 hA hH ha).trans (decide_eq_false h0)
   unfold bodyOf Tryz.f147
   cbv
   refine ABr.f hz ?_
   cbv
   refine aF hS h1 ?_
   cbv
   refine aF hS h2 ?_
   cbv
   refine aF hS h3 ?_
   cbv
end
end Go.Proofs.YtmholgclgamnnaaGreat
end
