import Derived.Test.YtmholgclgamnnaaGreatQYQ
import Derived.Test.YtmholgclgamnnaaGreatQYBO
import Derived.Test.YtmholgclgamnnaaGreatQYCG
import Derived.Test.YtmholgclgamnnaaGreatQYF
section
set_option linter.unusedVariables false
set_option linter.unusedSectionVars false
set_option linter.unusedSimpArgs false
namespace Go.Proofs.YtmholgclgamnnaaGreat
open Go Eng
set_option maxRecDepth 100000
set_option exponentiation.threshold 2000
set_option maxHeartbeats 4000000
def LNum : Nat → Nat := fun _ => 49
theorem digitS {c : Nat} (hc : c < 256) (hd : hexd c < 16) : Sp 158 [.s .u8 (c : Int)] (.s .u8 (hexd c : Nat)) := by
  refine mk Tryz.func158 rfl rfl L0 R1 (by decide +kernel) fun A S hA hS => ?_
  have w8 : ∀ x : Int, 0 ≤ x ∧ x < 256 → IntKind.u8.wrap x = x := fun x hx => by
    show x % 256 = x
    omega
  by_cases h : 97 ≤ c
  · have e1 : A.cmp .geq (c : Int) 97 = true := by rw [hA]; exact decide_eq_true (by omega)
    have e0 : hexd c = c - 97 + 10 ∧ c - 97 < 6 := by
      unfold hexd at hd ⊢
      rw [if_pos h] at hd ⊢
      omega
    obtain ⟨e0, e3⟩ := e0
    have e2 : A.bin .add .u8 (A.bin .sub .u8 (c : Int) 97) 10 = ((hexd c : Nat) : Int) := by
      rw [hA]
      show IntKind.u8.wrap (IntKind.u8.wrap ((c : Int) - 97) + 10) = _
      have q1 := w8 ((c : Int) - 97) (by omega)
      rw [q1, w8 _ (by omega), e0]
      omega
    generalize hexd c = q at *
    unfold bodyOf Tryz.f158
    cbv
    refine ABr.t e1 ?_
    cbv
    exact e2
  · have e1 : A.cmp .geq (c : Int) 97 = false := by rw [hA]; exact decide_eq_false (by omega)
    have e0 : hexd c = c - 48 ∧ 48 ≤ c := by
      unfold hexd at hd ⊢
      rw [if_neg h] at hd ⊢
      omega
    have e2 : A.bin .sub .u8 (c : Int) 48 = ((hexd c : Nat) : Int) := by
      rw [hA]
      show IntKind.u8.wrap ((c : Int) - 48) = _
      rw [w8 ((c : Int) - 48) (by omega), e0.1]
      omega
    generalize hexd c = q at *
    unfold bodyOf Tryz.f158
    cbv
    refine ABr.f e1 ?_
    cbv
    exact e2
theorem nib {A : Ar} (hA : A = Ar.real) {a b : Nat} (ha : a < 16) (hb : b < 16) : A.bin .or .u8 (A.bin .shl .u8 (a : Int) 4) (b : Int) = ((16 * a + b : Nat) : Int) := by
  have key : ∀ a : Fin 16, ∀ b : Fin 16, rbin .or .u8 (rbin .shl .u8 (a.val : Int) 4) (b.val : Int) = ((16 * a.val + b.val : Nat) : Int) := by decide +kernel
  rw [hA]
  exact key ⟨a, ha⟩ ⟨b, hb⟩
theorem lsub_rowC (f : Nat → AVal) (n j : Nat) (h : j < n) : lsub ((List.range n).map f) j 1 = some [f j] := by
  have key : ∀ (l : List AVal) (j : Nat) (x : AVal), l[j]? = some x → lsub l j 1 = some [x] := by
    intro l
    induction l with
    | nil => intro j x h; cases j <;> cases h
    | cons y l ih =>
      intro j x h
      cases j with
      | zero => cases h; cases l <;> rfl
      | succ j => exact ih j x (by simpa using h)
  exact key _ j _ (by simp [h])
/-- A text's digits as bytes. -/
def hexB (s : ByteArray) (j : Nat) : Nat := (16 * hexd (bt s (2 * j)) + hexd (bt s (2 * j + 1))) % 256
def RNum : Nat → Md := fun r => match r with | 5 => .own | _ => .mid
theorem numberS4 {lim : Lim} (hl : lim = limR) (s : ByteArray) (hs : s.size = 16 * 4) (hd : ∀ i, i < 16 * 4 → hexd (bt s i) < 16) : Sp 106 [.v (.string s)] (u4 lim (numB (hexB s) (8 * 4))) := by
  have dg : ∀ i, i < 16 * 4 → Sp 158 [.s .u8 (bt s i : Nat)] (.s .u8 (hexd (bt s i) : Nat)) := fun i hi => digitS (bt_lt s i) (hd i hi)
  have hB : ∀ j, j < 8 * 4 → 16 * hexd (bt s (2 * j)) + hexd (bt s (2 * j + 1)) = hexB s j := fun j hj => by
    have h1 := hd (2 * j) (by omega)
    have h2 := hd (2 * j + 1) (by omega)
    unfold hexB
    omega
  have big := bigS4 hl (row := [.s .u8 (hexB s 0 : Nat), .s .u8 (hexB s 1 : Nat), .s .u8 (hexB s 2 : Nat), .s .u8 (hexB s 3 : Nat), .s .u8 (hexB s 4 : Nat), .s .u8 (hexB s 5 : Nat), .s .u8 (hexB s 6 : Nat), .s .u8 (hexB s 7 : Nat), .s .u8 (hexB s 8 : Nat), .s .u8 (hexB s 9 : Nat), .s .u8 (hexB s 10 : Nat), .s .u8 (hexB s 11 : Nat), .s .u8 (hexB s 12 : Nat), .s .u8 (hexB s 13 : Nat), .s .u8 (hexB s 14 : Nat), .s .u8 (hexB s 15 : Nat), .s .u8 (hexB s 16 : Nat), .s .u8 (hexB s 17 : Nat), .s .u8 (hexB s 18 : Nat), .s .u8 (hexB s 19 : Nat), .s .u8 (hexB s 20 : Nat), .s .u8 (hexB s 21 : Nat), .s .u8 (hexB s 22 : Nat), .s .u8 (hexB s 23 : Nat), .s .u8 (hexB s 24 : Nat), .s .u8 (hexB s 25 : Nat), .s .u8 (hexB s 26 : Nat), .s .u8 (hexB s 27 : Nat), .s .u8 (hexB s 28 : Nat), .s .u8 (hexB s 29 : Nat), .s .u8 (hexB s 30 : Nat), .s .u8 (hexB s 31 : Nat)]) (bs := hexB s) (k := 8 * 4) ⟨rfl, fun i hi => by
      rw [Nat.mul_one]; exact lsub_rowC (fun j => .s .u8 (hexB s j : Nat)) (8 * 4) i hi, fun i => by unfold hexB; omega⟩ (Nat.le_refl _)
  generalize numB (hexB s) (8 * 4) = r at *
  obtain ⟨hb, hhb⟩ : ∃ f, f = hexB s := ⟨_, rfl⟩
  rw [← hhb] at big hB
  obtain ⟨dd, hdd⟩ : ∃ f : Nat → Nat, f = fun i => hexd (bt s i) := ⟨_, rfl⟩
  replace dg : ∀ i, i < 16 * 4 → Sp 158 [.s .u8 (bt s i : Nat)] (.s .u8 (dd i : Nat)) := by rw [hdd]; exact dg
  replace hB : ∀ j, j < 8 * 4 → 16 * dd (2 * j) + dd (2 * j + 1) = hb j := by rw [hdd]; exact hB
  replace hd : ∀ i, i < 16 * 4 → dd i < 16 := by rw [hdd]; exact hd
  clear hdd hhb
  refine mk Tryz.func106 rfl rfl LNum RNum (by decide +kernel) fun A S hA hS => ?_
  have hlen : A.len (A.size s) = (16 * 4 : Nat) := by rw [a_len hA, hA]; show ((s.size : Nat) : Int) = _; rw [hs]
  have hsz : A.size s = 16 * 4 := by rw [hA]; exact hs
  have ltz : ∀ i, i < 16 * 4 → i < A.size s := fun i hi => by rw [hsz]; exact hi
  have lt : ∀ i : Int, i < 16 * 4 → A.cmp .lss i (A.len (A.size s)) = true := fun i hi => by rw [hlen, i_lt hA]; exact decide_eq_true (by omega)
  have ge : A.cmp .lss (16 * 4) (A.len (A.size s)) = false := by rw [hlen, i_lt hA]; exact decide_eq_false (by omega)
  have hby : ∀ i, A.byte s i = (bt s i : Nat) := fun i => a_byte hA s i
  have hn : ∀ j, j < 8 * 4 → A.bin .or .u8 (A.bin .shl .u8 (dd (2 * j) : Int) 4) (dd (2 * j + 1) : Int) = (hb j : Int) := fun j hj => by
    rw [nib hA (hd _ (by omega)) (hd _ (by omega)), hB j hj]
  have sim : ∀ i, i < 16 * 4 → S.fn 158 [.s .u8 (A.byte s i)] (.s .u8 (dd i : Nat)) := fun i hi => by rw [hby]; exact cf hS (dg i hi)
  unfold bodyOf Tryz.f106
  cbv
  refine ABr.t (lt _ (by decide)) ?_
  cbv
  refine .mk 0 rfl (ltz _ (by decide)) ?_
  cbv
  refine ACall.mk _ (sim 0 (by decide)) ?_
  cbv
  refine .mk 1 rfl (ltz _ (by decide)) ?_
  cbv
  refine ACall.mk _ (sim 1 (by decide)) ?_
  cbv
  refine ABr.t (lt _ (by decide)) ?_
  cbv
  refine .mk 2 rfl (ltz _ (by decide)) ?_
  cbv
  refine ACall.mk _ (sim 2 (by decide)) ?_
  cbv
  refine .mk 3 rfl (ltz _ (by decide)) ?_
  cbv
  refine ACall.mk _ (sim 3 (by decide)) ?_
  cbv
  refine ABr.t (lt _ (by decide)) ?_
  cbv
  refine .mk 4 rfl (ltz _ (by decide)) ?_
  cbv
  refine ACall.mk _ (sim 4 (by decide)) ?_
  cbv
  refine .mk 5 rfl (ltz _ (by decide)) ?_
  cbv
  refine ACall.mk _ (sim 5 (by decide)) ?_
  cbv
  refine ABr.t (lt _ (by decide)) ?_
  cbv
  refine .mk 6 rfl (ltz _ (by decide)) ?_
  cbv
  refine ACall.mk _ (sim 6 (by decide)) ?_
  cbv
  refine .mk 7 rfl (ltz _ (by decide)) ?_
  cbv
  refine ACall.mk _ (sim 7 (by decide)) ?_
  cbv
  refine ABr.t (lt _ (by decide)) ?_
  cbv
  refine .mk 8 rfl (ltz _ (by decide)) ?_
  cbv
  refine ACall.mk _ (sim 8 (by decide)) ?_
  cbv
  refine .mk 9 rfl (ltz _ (by decide)) ?_
  cbv
  refine ACall.mk _ (sim 9 (by decide)) ?_
  cbv
  refine ABr.t (lt _ (by decide)) ?_
  cbv
  refine .mk 10 rfl (ltz _ (by decide)) ?_
  cbv
  refine ACall.mk _ (sim 10 (by decide)) ?_
  cbv
  refine .mk 11 rfl (ltz _ (by decide)) ?_
  cbv
  refine ACall.mk _ (sim 11 (by decide)) ?_
  cbv
  refine ABr.t (lt _ (by decide)) ?_
  cbv
  refine .mk 12 rfl (ltz _ (by decide)) ?_
  cbv
  refine ACall.mk _ (sim 12 (by decide)) ?_
  cbv
  refine .mk 13 rfl (ltz _ (by decide)) ?_
  cbv
  refine ACall.mk _ (sim 13 (by decide)) ?_
  cbv
  refine ABr.t (lt _ (by decide)) ?_
  cbv
  refine .mk 14 rfl (ltz _ (by decide)) ?_
  cbv
  refine ACall.mk _ (sim 14 (by decide)) ?_
  cbv
  refine .mk 15 rfl (ltz _ (by decide)) ?_
  cbv
  refine ACall.mk _ (sim 15 (by decide)) ?_
  cbv
  refine ABr.t (lt _ (by decide)) ?_
  cbv
  refine .mk 16 rfl (ltz _ (by decide)) ?_
  cbv
  refine ACall.mk _ (sim 16 (by decide)) ?_
  cbv
  refine .mk 17 rfl (ltz _ (by decide)) ?_
  cbv
  refine ACall.mk _ (sim 17 (by decide)) ?_
  cbv
  refine ABr.t (lt _ (by decide)) ?_
  cbv
  refine .mk 18 rfl (ltz _ (by decide)) ?_
  cbv
  refine ACall.mk _ (sim 18 (by decide)) ?_
  cbv
  refine .mk 19 rfl (ltz _ (by decide)) ?_
  cbv
  refine ACall.mk _ (sim 19 (by decide)) ?_
  cbv
  refine ABr.t (lt _ (by decide)) ?_
  cbv
  refine .mk 20 rfl (ltz _ (by decide)) ?_
  cbv
  refine ACall.mk _ (sim 20 (by decide)) ?_
  cbv
  refine .mk 21 rfl (ltz _ (by decide)) ?_
  cbv
  refine ACall.mk _ (sim 21 (by decide)) ?_
  cbv
  refine ABr.t (lt _ (by decide)) ?_
  cbv
  refine .mk 22 rfl (ltz _ (by decide)) ?_
  cbv
  refine ACall.mk _ (sim 22 (by decide)) ?_
  cbv
  refine .mk 23 rfl (ltz _ (by decide)) ?_
  cbv
  refine ACall.mk _ (sim 23 (by decide)) ?_
  cbv
  refine ABr.t (lt _ (by decide)) ?_
  cbv
  refine .mk 24 rfl (ltz _ (by decide)) ?_
  cbv
  refine ACall.mk _ (sim 24 (by decide)) ?_
  cbv
  refine .mk 25 rfl (ltz _ (by decide)) ?_
  cbv
  refine ACall.mk _ (sim 25 (by decide)) ?_
  cbv
  refine ABr.t (lt _ (by decide)) ?_
  cbv
  refine .mk 26 rfl (ltz _ (by decide)) ?_
  cbv
  refine ACall.mk _ (sim 26 (by decide)) ?_
  cbv
  refine .mk 27 rfl (ltz _ (by decide)) ?_
  cbv
  refine ACall.mk _ (sim 27 (by decide)) ?_
  cbv
  refine ABr.t (lt _ (by decide)) ?_
  cbv
  refine .mk 28 rfl (ltz _ (by decide)) ?_
  cbv
  refine ACall.mk _ (sim 28 (by decide)) ?_
  cbv
  refine .mk 29 rfl (ltz _ (by decide)) ?_
  cbv
  refine ACall.mk _ (sim 29 (by decide)) ?_
  cbv
  refine ABr.t (lt _ (by decide)) ?_
  cbv
  refine .mk 30 rfl (ltz _ (by decide)) ?_
  cbv
  refine ACall.mk _ (sim 30 (by decide)) ?_
  cbv
  refine .mk 31 rfl (ltz _ (by decide)) ?_
  cbv
  refine ACall.mk _ (sim 31 (by decide)) ?_
  cbv
  refine ABr.t (lt _ (by decide)) ?_
  cbv
  refine .mk 32 rfl (ltz _ (by decide)) ?_
  cbv
  refine ACall.mk _ (sim 32 (by decide)) ?_
  cbv
  refine .mk 33 rfl (ltz _ (by decide)) ?_
  cbv
  refine ACall.mk _ (sim 33 (by decide)) ?_
  cbv
  refine ABr.t (lt _ (by decide)) ?_
  cbv
  refine .mk 34 rfl (ltz _ (by decide)) ?_
  cbv
  refine ACall.mk _ (sim 34 (by decide)) ?_
  cbv
  refine .mk 35 rfl (ltz _ (by decide)) ?_
  cbv
  refine ACall.mk _ (sim 35 (by decide)) ?_
  cbv
  refine ABr.t (lt _ (by decide)) ?_
  cbv
  refine .mk 36 rfl (ltz _ (by decide)) ?_
  cbv
  refine ACall.mk _ (sim 36 (by decide)) ?_
  cbv
  refine .mk 37 rfl (ltz _ (by decide)) ?_
  cbv
  refine ACall.mk _ (sim 37 (by decide)) ?_
  cbv
  refine ABr.t (lt _ (by decide)) ?_
  cbv
  refine .mk 38 rfl (ltz _ (by decide)) ?_
  cbv
  refine ACall.mk _ (sim 38 (by decide)) ?_
  cbv
  refine .mk 39 rfl (ltz _ (by decide)) ?_
  cbv
  refine ACall.mk _ (sim 39 (by decide)) ?_
  cbv
  refine ABr.t (lt _ (by decide)) ?_
  cbv
  refine .mk 40 rfl (ltz _ (by decide)) ?_
  cbv
  refine ACall.mk _ (sim 40 (by decide)) ?_
  cbv
  refine .mk 41 rfl (ltz _ (by decide)) ?_
  cbv
  refine ACall.mk _ (sim 41 (by decide)) ?_
  cbv
  refine ABr.t (lt _ (by decide)) ?_
  cbv
  refine .mk 42 rfl (ltz _ (by decide)) ?_
  cbv
  refine ACall.mk _ (sim 42 (by decide)) ?_
  cbv
  refine .mk 43 rfl (ltz _ (by decide)) ?_
  cbv
  refine ACall.mk _ (sim 43 (by decide)) ?_
  cbv
  refine ABr.t (lt _ (by decide)) ?_
  cbv
  refine .mk 44 rfl (ltz _ (by decide)) ?_
  cbv
  refine ACall.mk _ (sim 44 (by decide)) ?_
  cbv
  refine .mk 45 rfl (ltz _ (by decide)) ?_
  cbv
  refine ACall.mk _ (sim 45 (by decide)) ?_
  cbv
  refine ABr.t (lt _ (by decide)) ?_
  cbv
  refine .mk 46 rfl (ltz _ (by decide)) ?_
  cbv
  refine ACall.mk _ (sim 46 (by decide)) ?_
  cbv
  refine .mk 47 rfl (ltz _ (by decide)) ?_
  cbv
  refine ACall.mk _ (sim 47 (by decide)) ?_
  cbv
  refine ABr.t (lt _ (by decide)) ?_
  cbv
  refine .mk 48 rfl (ltz _ (by decide)) ?_
  cbv
  refine ACall.mk _ (sim 48 (by decide)) ?_
  cbv
  refine .mk 49 rfl (ltz _ (by decide)) ?_
  cbv
  refine ACall.mk _ (sim 49 (by decide)) ?_
  cbv
  refine ABr.t (lt _ (by decide)) ?_
  cbv
  refine .mk 50 rfl (ltz _ (by decide)) ?_
  cbv
  refine ACall.mk _ (sim 50 (by decide)) ?_
  cbv
  refine .mk 51 rfl (ltz _ (by decide)) ?_
  cbv
  refine ACall.mk _ (sim 51 (by decide)) ?_
  cbv
  refine ABr.t (lt _ (by decide)) ?_
  cbv
  refine .mk 52 rfl (ltz _ (by decide)) ?_
  cbv
  refine ACall.mk _ (sim 52 (by decide)) ?_
  cbv
  refine .mk 53 rfl (ltz _ (by decide)) ?_
  cbv
  refine ACall.mk _ (sim 53 (by decide)) ?_
  cbv
  refine ABr.t (lt _ (by decide)) ?_
  cbv
  refine .mk 54 rfl (ltz _ (by decide)) ?_
  cbv
  refine ACall.mk _ (sim 54 (by decide)) ?_
  cbv
  refine .mk 55 rfl (ltz _ (by decide)) ?_
  cbv
  refine ACall.mk _ (sim 55 (by decide)) ?_
  cbv
  refine ABr.t (lt _ (by decide)) ?_
  cbv
  refine .mk 56 rfl (ltz _ (by decide)) ?_
  cbv
  refine ACall.mk _ (sim 56 (by decide)) ?_
  cbv
  refine .mk 57 rfl (ltz _ (by decide)) ?_
  cbv
  refine ACall.mk _ (sim 57 (by decide)) ?_
  cbv
  refine ABr.t (lt _ (by decide)) ?_
  cbv
  refine .mk 58 rfl (ltz _ (by decide)) ?_
  cbv
  refine ACall.mk _ (sim 58 (by decide)) ?_
  cbv
  refine .mk 59 rfl (ltz _ (by decide)) ?_
  cbv
  refine ACall.mk _ (sim 59 (by decide)) ?_
  cbv
  refine ABr.t (lt _ (by decide)) ?_
  cbv
  refine .mk 60 rfl (ltz _ (by decide)) ?_
  cbv
  refine ACall.mk _ (sim 60 (by decide)) ?_
  cbv
  refine .mk 61 rfl (ltz _ (by decide)) ?_
  cbv
  refine ACall.mk _ (sim 61 (by decide)) ?_
  cbv
  refine ABr.t (lt _ (by decide)) ?_
  cbv
  refine .mk 62 rfl (ltz _ (by decide)) ?_
  cbv
  refine ACall.mk _ (sim 62 (by decide)) ?_
  cbv
  refine .mk 63 rfl (ltz _ (by decide)) ?_
  cbv
  refine ACall.mk _ (sim 63 (by decide)) ?_
  cbv

  refine ABr.f ge ?_
  cbv
  refine ACall.mk _ (cg hS big ?_) ?_
  · cbv
    exact ⟨hn 0 (by decide), hn 1 (by decide), hn 2 (by decide), hn 3 (by decide), hn 4 (by decide), hn 5 (by decide), hn 6 (by decide), hn 7 (by decide), hn 8 (by decide), hn 9 (by decide), hn 10 (by decide), hn 11 (by decide), hn 12 (by decide), hn 13 (by decide), hn 14 (by decide), hn 15 (by decide), hn 16 (by decide), hn 17 (by decide), hn 18 (by decide), hn 19 (by decide), hn 20 (by decide), hn 21 (by decide), hn 22 (by decide), hn 23 (by decide), hn 24 (by decide), hn 25 (by decide), hn 26 (by decide), hn 27 (by decide), hn 28 (by decide), hn 29 (by decide), hn 30 (by decide), hn 31 (by decide)⟩
  cbv
theorem numberS6 {lim : Lim} (hl : lim = limR) (s : ByteArray) (hs : s.size = 16 * 6) (hd : ∀ i, i < 16 * 6 → hexd (bt s i) < 16) : Sp 76 [.v (.string s)] (u6 lim (numB (hexB s) (8 * 6))) := by
  have dg : ∀ i, i < 16 * 6 → Sp 158 [.s .u8 (bt s i : Nat)] (.s .u8 (hexd (bt s i) : Nat)) := fun i hi => digitS (bt_lt s i) (hd i hi)
  have hB : ∀ j, j < 8 * 6 → 16 * hexd (bt s (2 * j)) + hexd (bt s (2 * j + 1)) = hexB s j := fun j hj => by
    have h1 := hd (2 * j) (by omega)
    have h2 := hd (2 * j + 1) (by omega)
    unfold hexB
    omega
  have big := bigS6 hl (row := [.s .u8 (hexB s 0 : Nat), .s .u8 (hexB s 1 : Nat), .s .u8 (hexB s 2 : Nat), .s .u8 (hexB s 3 : Nat), .s .u8 (hexB s 4 : Nat), .s .u8 (hexB s 5 : Nat), .s .u8 (hexB s 6 : Nat), .s .u8 (hexB s 7 : Nat), .s .u8 (hexB s 8 : Nat), .s .u8 (hexB s 9 : Nat), .s .u8 (hexB s 10 : Nat), .s .u8 (hexB s 11 : Nat), .s .u8 (hexB s 12 : Nat), .s .u8 (hexB s 13 : Nat), .s .u8 (hexB s 14 : Nat), .s .u8 (hexB s 15 : Nat), .s .u8 (hexB s 16 : Nat), .s .u8 (hexB s 17 : Nat), .s .u8 (hexB s 18 : Nat), .s .u8 (hexB s 19 : Nat), .s .u8 (hexB s 20 : Nat), .s .u8 (hexB s 21 : Nat), .s .u8 (hexB s 22 : Nat), .s .u8 (hexB s 23 : Nat), .s .u8 (hexB s 24 : Nat), .s .u8 (hexB s 25 : Nat), .s .u8 (hexB s 26 : Nat), .s .u8 (hexB s 27 : Nat), .s .u8 (hexB s 28 : Nat), .s .u8 (hexB s 29 : Nat), .s .u8 (hexB s 30 : Nat), .s .u8 (hexB s 31 : Nat), .s .u8 (hexB s 32 : Nat), .s .u8 (hexB s 33 : Nat), .s .u8 (hexB s 34 : Nat), .s .u8 (hexB s 35 : Nat), .s .u8 (hexB s 36 : Nat), .s .u8 (hexB s 37 : Nat), .s .u8 (hexB s 38 : Nat), .s .u8 (hexB s 39 : Nat), .s .u8 (hexB s 40 : Nat), .s .u8 (hexB s 41 : Nat), .s .u8 (hexB s 42 : Nat), .s .u8 (hexB s 43 : Nat), .s .u8 (hexB s 44 : Nat), .s .u8 (hexB s 45 : Nat), .s .u8 (hexB s 46 : Nat), .s .u8 (hexB s 47 : Nat)]) (bs := hexB s) (k := 8 * 6) ⟨rfl, fun i hi => by
      rw [Nat.mul_one]; exact lsub_rowC (fun j => .s .u8 (hexB s j : Nat)) (8 * 6) i hi, fun i => by unfold hexB; omega⟩ (Nat.le_refl _)
  generalize numB (hexB s) (8 * 6) = r at *
  obtain ⟨hb, hhb⟩ : ∃ f, f = hexB s := ⟨_, rfl⟩
  rw [← hhb] at big hB
  obtain ⟨dd, hdd⟩ : ∃ f : Nat → Nat, f = fun i => hexd (bt s i) := ⟨_, rfl⟩
  replace dg : ∀ i, i < 16 * 6 → Sp 158 [.s .u8 (bt s i : Nat)] (.s .u8 (dd i : Nat)) := by rw [hdd]; exact dg
  replace hB : ∀ j, j < 8 * 6 → 16 * dd (2 * j) + dd (2 * j + 1) = hb j := by rw [hdd]; exact hB
  replace hd : ∀ i, i < 16 * 6 → dd i < 16 := by rw [hdd]; exact hd
  clear hdd hhb
  refine mk Tryz.func76 rfl rfl LNum RNum (by decide +kernel) fun A S hA hS => ?_
  have hlen : A.len (A.size s) = (16 * 6 : Nat) := by rw [a_len hA, hA]; show ((s.size : Nat) : Int) = _; rw [hs]
  have hsz : A.size s = 16 * 6 := by rw [hA]; exact hs
  have ltz : ∀ i, i < 16 * 6 → i < A.size s := fun i hi => by rw [hsz]; exact hi
  have lt : ∀ i : Int, i < 16 * 6 → A.cmp .lss i (A.len (A.size s)) = true := fun i hi => by rw [hlen, i_lt hA]; exact decide_eq_true (by omega)
  have ge : A.cmp .lss (16 * 6) (A.len (A.size s)) = false := by rw [hlen, i_lt hA]; exact decide_eq_false (by omega)
  have hby : ∀ i, A.byte s i = (bt s i : Nat) := fun i => a_byte hA s i
  have hn : ∀ j, j < 8 * 6 → A.bin .or .u8 (A.bin .shl .u8 (dd (2 * j) : Int) 4) (dd (2 * j + 1) : Int) = (hb j : Int) := fun j hj => by
    rw [nib hA (hd _ (by omega)) (hd _ (by omega)), hB j hj]
  have sim : ∀ i, i < 16 * 6 → S.fn 158 [.s .u8 (A.byte s i)] (.s .u8 (dd i : Nat)) := fun i hi => by rw [hby]; exact cf hS (dg i hi)
  unfold bodyOf Tryz.f76
  cbv
  refine ABr.t (lt _ (by decide)) ?_
  cbv
  refine .mk 0 rfl (ltz _ (by decide)) ?_
  cbv
  refine ACall.mk _ (sim 0 (by decide)) ?_
  cbv
  refine .mk 1 rfl (ltz _ (by decide)) ?_
  cbv
  refine ACall.mk _ (sim 1 (by decide)) ?_
  cbv
  refine ABr.t (lt _ (by decide)) ?_
  cbv
  refine .mk 2 rfl (ltz _ (by decide)) ?_
  cbv
  refine ACall.mk _ (sim 2 (by decide)) ?_
  cbv
  refine .mk 3 rfl (ltz _ (by decide)) ?_
  cbv
  refine ACall.mk _ (sim 3 (by decide)) ?_
  cbv
  refine ABr.t (lt _ (by decide)) ?_
  cbv
  refine .mk 4 rfl (ltz _ (by decide)) ?_
  cbv
  refine ACall.mk _ (sim 4 (by decide)) ?_
  cbv
  refine .mk 5 rfl (ltz _ (by decide)) ?_
  cbv
  refine ACall.mk _ (sim 5 (by decide)) ?_
  cbv
  refine ABr.t (lt _ (by decide)) ?_
  cbv
  refine .mk 6 rfl (ltz _ (by decide)) ?_
  cbv
  refine ACall.mk _ (sim 6 (by decide)) ?_
  cbv
  refine .mk 7 rfl (ltz _ (by decide)) ?_
  cbv
  refine ACall.mk _ (sim 7 (by decide)) ?_
  cbv
  refine ABr.t (lt _ (by decide)) ?_
  cbv
  refine .mk 8 rfl (ltz _ (by decide)) ?_
  cbv
  refine ACall.mk _ (sim 8 (by decide)) ?_
  cbv
  refine .mk 9 rfl (ltz _ (by decide)) ?_
  cbv
  refine ACall.mk _ (sim 9 (by decide)) ?_
  cbv
  refine ABr.t (lt _ (by decide)) ?_
  cbv
  refine .mk 10 rfl (ltz _ (by decide)) ?_
  cbv
  refine ACall.mk _ (sim 10 (by decide)) ?_
  cbv
  refine .mk 11 rfl (ltz _ (by decide)) ?_
  cbv
  refine ACall.mk _ (sim 11 (by decide)) ?_
  cbv
  refine ABr.t (lt _ (by decide)) ?_
  cbv
  refine .mk 12 rfl (ltz _ (by decide)) ?_
  cbv
  refine ACall.mk _ (sim 12 (by decide)) ?_
  cbv
  refine .mk 13 rfl (ltz _ (by decide)) ?_
  cbv
  refine ACall.mk _ (sim 13 (by decide)) ?_
  cbv
  refine ABr.t (lt _ (by decide)) ?_
  cbv
  refine .mk 14 rfl (ltz _ (by decide)) ?_
  cbv
  refine ACall.mk _ (sim 14 (by decide)) ?_
  cbv
  refine .mk 15 rfl (ltz _ (by decide)) ?_
  cbv
  refine ACall.mk _ (sim 15 (by decide)) ?_
  cbv
  refine ABr.t (lt _ (by decide)) ?_
  cbv
  refine .mk 16 rfl (ltz _ (by decide)) ?_
  cbv
  refine ACall.mk _ (sim 16 (by decide)) ?_
  cbv
  refine .mk 17 rfl (ltz _ (by decide)) ?_
  cbv
  refine ACall.mk _ (sim 17 (by decide)) ?_
  cbv
  refine ABr.t (lt _ (by decide)) ?_
  cbv
  refine .mk 18 rfl (ltz _ (by decide)) ?_
  cbv
  refine ACall.mk _ (sim 18 (by decide)) ?_
  cbv
  refine .mk 19 rfl (ltz _ (by decide)) ?_
  cbv
  refine ACall.mk _ (sim 19 (by decide)) ?_
  cbv
  refine ABr.t (lt _ (by decide)) ?_
  cbv
  refine .mk 20 rfl (ltz _ (by decide)) ?_
  cbv
  refine ACall.mk _ (sim 20 (by decide)) ?_
  cbv
  refine .mk 21 rfl (ltz _ (by decide)) ?_
  cbv
  refine ACall.mk _ (sim 21 (by decide)) ?_
  cbv
  refine ABr.t (lt _ (by decide)) ?_
  cbv
  refine .mk 22 rfl (ltz _ (by decide)) ?_
  cbv
  refine ACall.mk _ (sim 22 (by decide)) ?_
  cbv
  refine .mk 23 rfl (ltz _ (by decide)) ?_
  cbv
  refine ACall.mk _ (sim 23 (by decide)) ?_
  cbv
  refine ABr.t (lt _ (by decide)) ?_
  cbv
  refine .mk 24 rfl (ltz _ (by decide)) ?_
  cbv
  refine ACall.mk _ (sim 24 (by decide)) ?_
  cbv
  refine .mk 25 rfl (ltz _ (by decide)) ?_
  cbv
  refine ACall.mk _ (sim 25 (by decide)) ?_
  cbv
  refine ABr.t (lt _ (by decide)) ?_
  cbv
  refine .mk 26 rfl (ltz _ (by decide)) ?_
  cbv
  refine ACall.mk _ (sim 26 (by decide)) ?_
  cbv
  refine .mk 27 rfl (ltz _ (by decide)) ?_
  cbv
  refine ACall.mk _ (sim 27 (by decide)) ?_
  cbv
  refine ABr.t (lt _ (by decide)) ?_
  cbv
  refine .mk 28 rfl (ltz _ (by decide)) ?_
  cbv
  refine ACall.mk _ (sim 28 (by decide)) ?_
  cbv
  refine .mk 29 rfl (ltz _ (by decide)) ?_
  cbv
  refine ACall.mk _ (sim 29 (by decide)) ?_
  cbv
  refine ABr.t (lt _ (by decide)) ?_
  cbv
  refine .mk 30 rfl (ltz _ (by decide)) ?_
  cbv
  refine ACall.mk _ (sim 30 (by decide)) ?_
  cbv
  refine .mk 31 rfl (ltz _ (by decide)) ?_
  cbv
  refine ACall.mk _ (sim 31 (by decide)) ?_
  cbv
  refine ABr.t (lt _ (by decide)) ?_
  cbv
  refine .mk 32 rfl (ltz _ (by decide)) ?_
  cbv
  refine ACall.mk _ (sim 32 (by decide)) ?_
  cbv
  refine .mk 33 rfl (ltz _ (by decide)) ?_
  cbv
  refine ACall.mk _ (sim 33 (by decide)) ?_
  cbv
  refine ABr.t (lt _ (by decide)) ?_
  cbv
  refine .mk 34 rfl (ltz _ (by decide)) ?_
  cbv
  refine ACall.mk _ (sim 34 (by decide)) ?_
  cbv
  refine .mk 35 rfl (ltz _ (by decide)) ?_
  cbv
  refine ACall.mk _ (sim 35 (by decide)) ?_
  cbv
  refine ABr.t (lt _ (by decide)) ?_
  cbv
  refine .mk 36 rfl (ltz _ (by decide)) ?_
  cbv
  refine ACall.mk _ (sim 36 (by decide)) ?_
  cbv
  refine .mk 37 rfl (ltz _ (by decide)) ?_
  cbv
  refine ACall.mk _ (sim 37 (by decide)) ?_
  cbv
  refine ABr.t (lt _ (by decide)) ?_
  cbv
  refine .mk 38 rfl (ltz _ (by decide)) ?_
  cbv
  refine ACall.mk _ (sim 38 (by decide)) ?_
  cbv
  refine .mk 39 rfl (ltz _ (by decide)) ?_
  cbv
  refine ACall.mk _ (sim 39 (by decide)) ?_
  cbv
  refine ABr.t (lt _ (by decide)) ?_
  cbv
  refine .mk 40 rfl (ltz _ (by decide)) ?_
  cbv
  refine ACall.mk _ (sim 40 (by decide)) ?_
  cbv
  refine .mk 41 rfl (ltz _ (by decide)) ?_
  cbv
  refine ACall.mk _ (sim 41 (by decide)) ?_
  cbv
  refine ABr.t (lt _ (by decide)) ?_
  cbv
  refine .mk 42 rfl (ltz _ (by decide)) ?_
  cbv
  refine ACall.mk _ (sim 42 (by decide)) ?_
  cbv
  refine .mk 43 rfl (ltz _ (by decide)) ?_
  cbv
  refine ACall.mk _ (sim 43 (by decide)) ?_
  cbv
  refine ABr.t (lt _ (by decide)) ?_
  cbv
  refine .mk 44 rfl (ltz _ (by decide)) ?_
  cbv
  refine ACall.mk _ (sim 44 (by decide)) ?_
  cbv
  refine .mk 45 rfl (ltz _ (by decide)) ?_
  cbv
  refine ACall.mk _ (sim 45 (by decide)) ?_
  cbv
  refine ABr.t (lt _ (by decide)) ?_
  cbv
  refine .mk 46 rfl (ltz _ (by decide)) ?_
  cbv
  refine ACall.mk _ (sim 46 (by decide)) ?_
  cbv
  refine .mk 47 rfl (ltz _ (by decide)) ?_
  cbv
  refine ACall.mk _ (sim 47 (by decide)) ?_
  cbv
  refine ABr.t (lt _ (by decide)) ?_
  cbv
  refine .mk 48 rfl (ltz _ (by decide)) ?_
  cbv
  refine ACall.mk _ (sim 48 (by decide)) ?_
  cbv
  refine .mk 49 rfl (ltz _ (by decide)) ?_
  cbv
  refine ACall.mk _ (sim 49 (by decide)) ?_
  cbv
  refine ABr.t (lt _ (by decide)) ?_
  cbv
  refine .mk 50 rfl (ltz _ (by decide)) ?_
  cbv
  refine ACall.mk _ (sim 50 (by decide)) ?_
  cbv
  refine .mk 51 rfl (ltz _ (by decide)) ?_
  cbv
  refine ACall.mk _ (sim 51 (by decide)) ?_
  cbv
  refine ABr.t (lt _ (by decide)) ?_
  cbv
  refine .mk 52 rfl (ltz _ (by decide)) ?_
  cbv
  refine ACall.mk _ (sim 52 (by decide)) ?_
  cbv
  refine .mk 53 rfl (ltz _ (by decide)) ?_
  cbv
  refine ACall.mk _ (sim 53 (by decide)) ?_
  cbv
  refine ABr.t (lt _ (by decide)) ?_
  cbv
  refine .mk 54 rfl (ltz _ (by decide)) ?_
  cbv
  refine ACall.mk _ (sim 54 (by decide)) ?_
  cbv
  refine .mk 55 rfl (ltz _ (by decide)) ?_
  cbv
  refine ACall.mk _ (sim 55 (by decide)) ?_
  cbv
  refine ABr.t (lt _ (by decide)) ?_
  cbv
  refine .mk 56 rfl (ltz _ (by decide)) ?_
  cbv
  refine ACall.mk _ (sim 56 (by decide)) ?_
  cbv
  refine .mk 57 rfl (ltz _ (by decide)) ?_
  cbv
  refine ACall.mk _ (sim 57 (by decide)) ?_
  cbv
  refine ABr.t (lt _ (by decide)) ?_
  cbv
  refine .mk 58 rfl (ltz _ (by decide)) ?_
  cbv
  refine ACall.mk _ (sim 58 (by decide)) ?_
  cbv
  refine .mk 59 rfl (ltz _ (by decide)) ?_
  cbv
  refine ACall.mk _ (sim 59 (by decide)) ?_
  cbv
  refine ABr.t (lt _ (by decide)) ?_
  cbv
  refine .mk 60 rfl (ltz _ (by decide)) ?_
  cbv
  refine ACall.mk _ (sim 60 (by decide)) ?_
  cbv
  refine .mk 61 rfl (ltz _ (by decide)) ?_
  cbv
  refine ACall.mk _ (sim 61 (by decide)) ?_
  cbv
  refine ABr.t (lt _ (by decide)) ?_
  cbv
  refine .mk 62 rfl (ltz _ (by decide)) ?_
  cbv
  refine ACall.mk _ (sim 62 (by decide)) ?_
  cbv
  refine .mk 63 rfl (ltz _ (by decide)) ?_
  cbv
  refine ACall.mk _ (sim 63 (by decide)) ?_
  cbv
  refine ABr.t (lt _ (by decide)) ?_
  cbv
  refine .mk 64 rfl (ltz _ (by decide)) ?_
  cbv
  refine ACall.mk _ (sim 64 (by decide)) ?_
  cbv
  refine .mk 65 rfl (ltz _ (by decide)) ?_
  cbv
  refine ACall.mk _ (sim 65 (by decide)) ?_
  cbv
  refine ABr.t (lt _ (by decide)) ?_
  cbv
  refine .mk 66 rfl (ltz _ (by decide)) ?_
  cbv
  refine ACall.mk _ (sim 66 (by decide)) ?_
  cbv
  refine .mk 67 rfl (ltz _ (by decide)) ?_
  cbv
  refine ACall.mk _ (sim 67 (by decide)) ?_
  cbv
  refine ABr.t (lt _ (by decide)) ?_
  cbv
  refine .mk 68 rfl (ltz _ (by decide)) ?_
  cbv
  refine ACall.mk _ (sim 68 (by decide)) ?_
  cbv
  refine .mk 69 rfl (ltz _ (by decide)) ?_
  cbv
  refine ACall.mk _ (sim 69 (by decide)) ?_
  cbv
  refine ABr.t (lt _ (by decide)) ?_
  cbv
  refine .mk 70 rfl (ltz _ (by decide)) ?_
  cbv
  refine ACall.mk _ (sim 70 (by decide)) ?_
  cbv
  refine .mk 71 rfl (ltz _ (by decide)) ?_
  cbv
  refine ACall.mk _ (sim 71 (by decide)) ?_
  cbv
  refine ABr.t (lt _ (by decide)) ?_
  cbv
  refine .mk 72 rfl (ltz _ (by decide)) ?_
  cbv
  refine ACall.mk _ (sim 72 (by decide)) ?_
  cbv
  refine .mk 73 rfl (ltz _ (by decide)) ?_
  cbv
  refine ACall.mk _ (sim 73 (by decide)) ?_
  cbv
  refine ABr.t (lt _ (by decide)) ?_
  cbv
  refine .mk 74 rfl (ltz _ (by decide)) ?_
  cbv
  refine ACall.mk _ (sim 74 (by decide)) ?_
  cbv
  refine .mk 75 rfl (ltz _ (by decide)) ?_
  cbv
  refine ACall.mk _ (sim 75 (by decide)) ?_
  cbv
  refine ABr.t (lt _ (by decide)) ?_
  cbv
  refine .mk 76 rfl (ltz _ (by decide)) ?_
  cbv
  refine ACall.mk _ (sim 76 (by decide)) ?_
  cbv
  refine .mk 77 rfl (ltz _ (by decide)) ?_
  cbv
  refine ACall.mk _ (sim 77 (by decide)) ?_
  cbv
  refine ABr.t (lt _ (by decide)) ?_
  cbv
  refine .mk 78 rfl (ltz _ (by decide)) ?_
  cbv
  refine ACall.mk _ (sim 78 (by decide)) ?_
  cbv
  refine .mk 79 rfl (ltz _ (by decide)) ?_
  cbv
  refine ACall.mk _ (sim 79 (by decide)) ?_
  cbv
  refine ABr.t (lt _ (by decide)) ?_
  cbv
  refine .mk 80 rfl (ltz _ (by decide)) ?_
  cbv
  refine ACall.mk _ (sim 80 (by decide)) ?_
  cbv
  refine .mk 81 rfl (ltz _ (by decide)) ?_
  cbv
  refine ACall.mk _ (sim 81 (by decide)) ?_
  cbv
  refine ABr.t (lt _ (by decide)) ?_
  cbv
  refine .mk 82 rfl (ltz _ (by decide)) ?_
  cbv
  refine ACall.mk _ (sim 82 (by decide)) ?_
  cbv
  refine .mk 83 rfl (ltz _ (by decide)) ?_
  cbv
  refine ACall.mk _ (sim 83 (by decide)) ?_
  cbv
  refine ABr.t (lt _ (by decide)) ?_
  cbv
  refine .mk 84 rfl (ltz _ (by decide)) ?_
  cbv
  refine ACall.mk _ (sim 84 (by decide)) ?_
  cbv
  refine .mk 85 rfl (ltz _ (by decide)) ?_
  cbv
  refine ACall.mk _ (sim 85 (by decide)) ?_
  cbv
  refine ABr.t (lt _ (by decide)) ?_
  cbv
  refine .mk 86 rfl (ltz _ (by decide)) ?_
  cbv
  refine ACall.mk _ (sim 86 (by decide)) ?_
  cbv
  refine .mk 87 rfl (ltz _ (by decide)) ?_
  cbv
  refine ACall.mk _ (sim 87 (by decide)) ?_
  cbv
  refine ABr.t (lt _ (by decide)) ?_
  cbv
  refine .mk 88 rfl (ltz _ (by decide)) ?_
  cbv
  refine ACall.mk _ (sim 88 (by decide)) ?_
  cbv
  refine .mk 89 rfl (ltz _ (by decide)) ?_
  cbv
  refine ACall.mk _ (sim 89 (by decide)) ?_
  cbv
  refine ABr.t (lt _ (by decide)) ?_
  cbv
  refine .mk 90 rfl (ltz _ (by decide)) ?_
  cbv
  refine ACall.mk _ (sim 90 (by decide)) ?_
  cbv
  refine .mk 91 rfl (ltz _ (by decide)) ?_
  cbv
  refine ACall.mk _ (sim 91 (by decide)) ?_
  cbv
  refine ABr.t (lt _ (by decide)) ?_
  cbv
  refine .mk 92 rfl (ltz _ (by decide)) ?_
  cbv
  refine ACall.mk _ (sim 92 (by decide)) ?_
  cbv
  refine .mk 93 rfl (ltz _ (by decide)) ?_
  cbv
  refine ACall.mk _ (sim 93 (by decide)) ?_
  cbv
  refine ABr.t (lt _ (by decide)) ?_
  cbv
  refine .mk 94 rfl (ltz _ (by decide)) ?_
  cbv
  refine ACall.mk _ (sim 94 (by decide)) ?_
  cbv
  refine .mk 95 rfl (ltz _ (by decide)) ?_
  cbv
  refine ACall.mk _ (sim 95 (by decide)) ?_
  cbv

  refine ABr.f ge ?_
  cbv
  refine ACall.mk _ (cg hS big ?_) ?_
  · cbv
    exact ⟨hn 0 (by decide), hn 1 (by decide), hn 2 (by decide), hn 3 (by decide), hn 4 (by decide), hn 5 (by decide), hn 6 (by decide), hn 7 (by decide), hn 8 (by decide), hn 9 (by decide), hn 10 (by decide), hn 11 (by decide), hn 12 (by decide), hn 13 (by decide), hn 14 (by decide), hn 15 (by decide), hn 16 (by decide), hn 17 (by decide), hn 18 (by decide), hn 19 (by decide), hn 20 (by decide), hn 21 (by decide), hn 22 (by decide), hn 23 (by decide), hn 24 (by decide), hn 25 (by decide), hn 26 (by decide), hn 27 (by decide), hn 28 (by decide), hn 29 (by decide), hn 30 (by decide), hn 31 (by decide), hn 32 (by decide), hn 33 (by decide), hn 34 (by decide), hn 35 (by decide), hn 36 (by decide), hn 37 (by decide), hn 38 (by decide), hn 39 (by decide), hn 40 (by decide), hn 41 (by decide), hn 42 (by decide), hn 43 (by decide), hn 44 (by decide), hn 45 (by decide), hn 46 (by decide), hn 47 (by decide)⟩
  cbv
end Go.Proofs.YtmholgclgamnnaaGreat
end
section
set_option linter.unusedVariables false
set_option linter.unusedSimpArgs false
namespace Go.Proofs.YtmholgclgamnnaaGreat
open Go Eng
set_option maxRecDepth 100000
set_option exponentiation.threshold 2000
theorem limR_word {e : Nat} (he : e < 18446744073709551616) : limR e 0 = (e : Int) := by
  unfold limR
  rw [Nat.mul_zero, Nat.pow_zero, Nat.div_one, Nat.mod_eq_of_lt (by simpa using he)]
end Go.Proofs.YtmholgclgamnnaaGreat
end
