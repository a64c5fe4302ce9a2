import Derived.Test.YtmholgclgamnnaaGreatQYJ
import Derived.Test.YtmholgclgamnnaaGreatQYBO
import Derived.Test.YtmholgclgamnnaaGreatQYCS
import Derived.Test.YtmholgclgamnnaaGreatQYDB
section
set_option linter.unusedVariables false
set_option linter.unusedSimpArgs false
namespace Go.Proofs.YtmholgclgamnnaaGreat
open Go Eng
set_option maxRecDepth 100000
set_option exponentiation.threshold 2000
set_option maxHeartbeats 8000000
/-- A number's byte. -/
def byteN (a p : Nat) : Int := ((a / 2 ^ (8 * p) % 256 : Nat) : Int)
theorem byte_word {A : Ar} (hA : A = Ar.real) {lim : Lim} (hl : lim = limR) (a q r : Nat) (s : Int) (hr : r < 8) (hs : s = (8 * r : Nat)) : A.wrap .u8 (A.bin .shr .u64 (lim a q) s) = byteN a (8 * q + r) := by
  subst hs
  rw [hA, hl]
  show IntKind.u8.wrap (rbin .shr .u64 (Int.ofNat (a / 2 ^ (64 * q) % 2 ^ 64)) (Int.ofNat (8 * r))) = _
  rw [u_shr _ _ (by omega), wrap_u8]
  show ((a / 2 ^ (64 * q) % 2 ^ 64 / 2 ^ (8 * r) : Nat) : Int) % 256 = ((a / 2 ^ (8 * (8 * q + r)) % 256 : Nat) : Int)
  have e : a / 2 ^ (64 * q) % 2 ^ 64 / 2 ^ (8 * r) % 256 = a / 2 ^ (8 * (8 * q + r)) % 256 := by
    rw [show 8 * (8 * q + r) = 64 * q + 8 * r by omega, Nat.pow_add, ← Nat.div_div_eq_div_mul]
    generalize a / 2 ^ (64 * q) = x
    rw [show (2 : Nat) ^ 64 = 2 ^ (8 * r) * (256 * 2 ^ (56 - 8 * r)) by rw [show (256 : Nat) = 2 ^ 8 from rfl, ← Nat.pow_add, ← Nat.pow_add]; congr 1; omega, Nat.mod_mul_right_div_self, Nat.mod_mul_right_mod]
  omega
theorem lput_one : ∀ (l : List AVal) (j : Nat) (y : AVal), j < l.length → lput l j [y] = some (l.set j y)
  | [], j, y, h => by simp at h
  | x :: l, 0, y, _ => by
    cases l <;> rfl
  | x :: l, j + 1, y, h => by
    have := lput_one l j y (by simpa using h)
    rw [lput, this]; rfl
theorem lput_row (f g : Nat → AVal) (n j : Nat) (h : j < n) (hg : ∀ m, m ≠ j → g m = f m) : lput ((List.range n).map f) j [g j] = some ((List.range n).map g) := by
  rw [lput_one _ _ _ (by simpa using h)]
  congr 1
  refine List.ext_getElem (by simp) fun i h1 h2 => ?_
  rw [List.getElem_set]
  split
  · rename_i e; subst e; simp
  · rename_i e; simp [hg i (fun e' => e e'.symm)]
abbrev by4 (B : Nat → Nat → Int) (a : Nat) : List AVal := [.s .u8 (B a 31), .s .u8 (B a 30), .s .u8 (B a 29), .s .u8 (B a 28), .s .u8 (B a 27), .s .u8 (B a 26), .s .u8 (B a 25), .s .u8 (B a 24), .s .u8 (B a 23), .s .u8 (B a 22), .s .u8 (B a 21), .s .u8 (B a 20), .s .u8 (B a 19), .s .u8 (B a 18), .s .u8 (B a 17), .s .u8 (B a 16), .s .u8 (B a 15), .s .u8 (B a 14), .s .u8 (B a 13), .s .u8 (B a 12), .s .u8 (B a 11), .s .u8 (B a 10), .s .u8 (B a 9), .s .u8 (B a 8), .s .u8 (B a 7), .s .u8 (B a 6), .s .u8 (B a 5), .s .u8 (B a 4), .s .u8 (B a 3), .s .u8 (B a 2), .s .u8 (B a 1), .s .u8 (B a 0)]
/-- Bytes in a row, told by a sequence. -/
def wb4 (o : Nat → Int) : List AVal := [.s .u8 (o (8 * 4 - 1 - 31)), .s .u8 (o (8 * 4 - 1 - 30)), .s .u8 (o (8 * 4 - 1 - 29)), .s .u8 (o (8 * 4 - 1 - 28)), .s .u8 (o (8 * 4 - 1 - 27)), .s .u8 (o (8 * 4 - 1 - 26)), .s .u8 (o (8 * 4 - 1 - 25)), .s .u8 (o (8 * 4 - 1 - 24)), .s .u8 (o (8 * 4 - 1 - 23)), .s .u8 (o (8 * 4 - 1 - 22)), .s .u8 (o (8 * 4 - 1 - 21)), .s .u8 (o (8 * 4 - 1 - 20)), .s .u8 (o (8 * 4 - 1 - 19)), .s .u8 (o (8 * 4 - 1 - 18)), .s .u8 (o (8 * 4 - 1 - 17)), .s .u8 (o (8 * 4 - 1 - 16)), .s .u8 (o (8 * 4 - 1 - 15)), .s .u8 (o (8 * 4 - 1 - 14)), .s .u8 (o (8 * 4 - 1 - 13)), .s .u8 (o (8 * 4 - 1 - 12)), .s .u8 (o (8 * 4 - 1 - 11)), .s .u8 (o (8 * 4 - 1 - 10)), .s .u8 (o (8 * 4 - 1 - 9)), .s .u8 (o (8 * 4 - 1 - 8)), .s .u8 (o (8 * 4 - 1 - 7)), .s .u8 (o (8 * 4 - 1 - 6)), .s .u8 (o (8 * 4 - 1 - 5)), .s .u8 (o (8 * 4 - 1 - 4)), .s .u8 (o (8 * 4 - 1 - 3)), .s .u8 (o (8 * 4 - 1 - 2)), .s .u8 (o (8 * 4 - 1 - 1)), .s .u8 (o (8 * 4 - 1 - 0))]
theorem wb_eq4 (o : Nat → Int) : wb4 o = (List.range (8 * 4)).map fun j => .s .u8 (o j) := rfl
theorem wb_put4 {A : Ar} (hA : A = Ar.real) (o o2 : Nat → Int) (j : Nat) (hj : j < 8 * 4) {x : Int} (hx : x = o2 j) (h : ∀ m, m ≠ j → o2 m = o m) : lput (wb4 o) (A.offs 0 j 1) [.s .u8 x] = some (wb4 o2) := by
  subst hA
  subst hx
  rw [wb_eq4, wb_eq4, show Ar.real.offs 0 j 1 = j from (by show 0 + j * 1 = j; omega)]
  exact lput_row (fun j => .s .u8 (o j)) (fun j => .s .u8 (o2 j)) _ j hj fun m hm => by rw [h m hm]
theorem bytesS4 {lim : Lim} (hl : lim = limR) {B : Nat → Nat → Int} (hB : B = byteN) (a : Nat) : Sp 135 [u4 lim a] (.new false (8 * 4) 1 (by4 B a)) := by
  obtain ⟨O, hO⟩ : ∃ O : Nat → Nat → Int, O = fun i j => if 8 * 4 - i ≤ j then B a (8 * 4 - 1 - j) else 0 := ⟨_, rfl⟩
  have hO0 : ∀ j, j < 8 * 4 → O 0 j = 0 := fun j hj => by rw [hO]; exact if_neg (by omega)
  have hOn : ∀ j, O (8 * 4) j = B a (8 * 4 - 1 - j) := fun j => by rw [hO]; exact if_pos (by omega)
  have hO1 : ∀ i, i < 8 * 4 → O (i + 1) (8 * 4 - 1 - i) = B a (8 * (i / 8) + i % 8) := fun i hi => by
    rw [hO]
    show (if 8 * 4 - (i + 1) ≤ 8 * 4 - 1 - i then B a (8 * 4 - 1 - (8 * 4 - 1 - i)) else 0) = _
    rw [if_pos (by omega)]; congr 1; omega
  have hO2 : ∀ i, i < 8 * 4 → ∀ m, m ≠ 8 * 4 - 1 - i → O (i + 1) m = O i m := fun i hi m hm => by
    rw [hO]
    by_cases h : 8 * 4 - i ≤ m
    · exact (if_pos (by omega)).trans (if_pos h).symm
    · exact (if_neg (by omega)).trans (if_neg h).symm
  clear hO
  refine mk Tryz.func135 rfl rfl LN R0 (by decide +kernel) ?_
  intro A S hA hS
  unfold bodyOf Tryz.f135
  cbv
  refine .inv (α := Nat) (fun i => ⟨[.any, .own 0 0, .any, .i .i64 (8 * 4 : Nat), .osl false 1 0 (8 * 4) 1, .any, .any, .any, .any, .any, .any, .i .i64 (8 * 4 : Nat), .s .i64 (i : Nat), .any, .any, .any, .any, .any, .any, .any, .any, .any, .any, .any, .any, .any, .any, .any, .any, .any, .any, .any], [⟨true, true, ws4 lim a⟩, ⟨true, true, wb4 (O i)⟩]⟩) (fun i => i ≤ 8 * 4) (fun i => 8 * 4 - i) 0 ?_ (Nat.zero_le _) ?_
  · have h := fun j hj => (hO0 j hj).symm
    cbv
    repeat' (first | exact rfl | exact h _ (by decide) | exact trivial | constructor)
  intro i hi
  by_cases h : i < 8 * 4
  · have hlt : A.cmp .lss (i : Int) ((8 * 4 : Nat) : Int) = true := (i_lt hA).trans (decide_eq_true (by omega))
    obtain ⟨p, hp⟩ : ∃ p, p = 8 * 4 - 1 - i := ⟨_, rfl⟩
    have hix : A.bin .sub .i64 ((8 * 4 - 1 : Nat) : Int) (i : Int) = (p : Int) := e_sub hA rfl rfl (by omega) (by omega)
    have hpn : p < 8 * 4 := by omega
    have hquo : A.bin .quo .i64 (i : Int) 8 = ((i / 8 : Nat) : Int) := e_quo hA rfl rfl (by omega) (by omega) (by omega) (by omega)
    have hnext : A.bin .add .i64 (i : Int) 1 = ((i + 1 : Nat) : Int) := e_add hA rfl rfl (by omega) (by omega)
    have hq : i / 8 < 4 := by omega
    have hr8 : i % 8 < 8 := by omega
    have hrem : A.bin .mul .i64 8 (A.bin .rem .i64 (i : Int) 8) = ((8 * (i % 8) : Nat) : Int) := e_mul hA rfl (e_rem hA rfl rfl (z := ((i % 8 : Nat) : Int)) (by omega) (by omega)) (by omega) (by omega)
    have hok : A.okb .shr (A.bin .mul .i64 8 (A.bin .rem .i64 (i : Int) 8)) = true := by rw [hrem]; exact (a_okbS hA (by omega)).1
    have hget := ws_get4 hA lim a (i / 8) hq
    have hbw := byte_word hA hl a (i / 8) (i % 8) _ hr8 hrem
    have hput := wb_put4 hA (O i) (O (i + 1)) p hpn ((hB ▸ hbw).trans (by rw [hp, hO1 i h])) (by rw [hp]; exact hO2 i h)
    have hdec : 8 * 4 - (i + 1) < 8 * 4 - i := by omega
    have hle : i + 1 ≤ 8 * 4 := h
    obtain ⟨nx, hnx⟩ : ∃ nx, nx = i + 1 := ⟨_, rfl⟩
    rw [← hnx] at hnext hput hdec hle
    clear hO0 hOn hO1 hO2 hp hbw hr8 hrem
    generalize i / 8 = q at *
    cbv
    refine ABr.t hlt ?_
    cbv
    refine .sym q hquo hq ?_
    cbv
    refine .mk _ hget ?_
    cbv
    refine .mk hok ?_
    cbv
    refine .sym p hix hpn ?_
    cbv
    refine .mk _ hput ?_
    cbv
    refine ⟨nx, ?_, hle, hdec⟩
    cbv
    repeat' (first | exact hnext | exact trivial | exact rfl | constructor)
  · have hlt : A.cmp .lss (i : Int) ((8 * 4 : Nat) : Int) = false := (i_lt hA).trans (decide_eq_false (by omega))
    obtain rfl : i = 8 * 4 := by omega
    cbv
    refine ABr.f hlt ?_
    cbv
    exact ⟨hOn (8 * 4 - 1 - 31), hOn (8 * 4 - 1 - 30), hOn (8 * 4 - 1 - 29), hOn (8 * 4 - 1 - 28), hOn (8 * 4 - 1 - 27), hOn (8 * 4 - 1 - 26), hOn (8 * 4 - 1 - 25), hOn (8 * 4 - 1 - 24), hOn (8 * 4 - 1 - 23), hOn (8 * 4 - 1 - 22), hOn (8 * 4 - 1 - 21), hOn (8 * 4 - 1 - 20), hOn (8 * 4 - 1 - 19), hOn (8 * 4 - 1 - 18), hOn (8 * 4 - 1 - 17), hOn (8 * 4 - 1 - 16), hOn (8 * 4 - 1 - 15), hOn (8 * 4 - 1 - 14), hOn (8 * 4 - 1 - 13), hOn (8 * 4 - 1 - 12), hOn (8 * 4 - 1 - 11), hOn (8 * 4 - 1 - 10), hOn (8 * 4 - 1 - 9), hOn (8 * 4 - 1 - 8), hOn (8 * 4 - 1 - 7), hOn (8 * 4 - 1 - 6), hOn (8 * 4 - 1 - 5), hOn (8 * 4 - 1 - 4), hOn (8 * 4 - 1 - 3), hOn (8 * 4 - 1 - 2), hOn (8 * 4 - 1 - 1), hOn (8 * 4 - 1 - 0)⟩
end Go.Proofs.YtmholgclgamnnaaGreat
end
section
set_option linter.unusedVariables false
set_option linter.unusedSectionVars false
set_option linter.unusedSimpArgs false
namespace Go.Proofs.YtmholgclgamnnaaGreat
open Go Eng
set_option maxRecDepth 100000
set_option exponentiation.threshold 2000
set_option maxHeartbeats 4000000
/-- The first byte that is not 0. -/
def firstB (bs : Nat → Nat) : Nat → Nat → Int
  | 0, _ => -1
  | k + 1, i => if bs i ≠ 0 then (i : Int) else firstB bs k (i + 1)
def allz (bs : Nat → Nat) (n : Nat) : Bool := (List.range n).all fun i => bs i == 0
theorem firstB_neg (bs : Nat → Nat) : ∀ k i, (firstB bs k i < 0 ↔ ∀ j, i ≤ j → j < i + k → bs j = 0)
  | 0, i => by simp only [firstB]; exact ⟨fun _ j h1 h2 => by omega, fun _ => by decide⟩
  | k + 1, i => by
    rw [firstB]
    by_cases h : bs i = 0
    · rw [if_neg (fun e => e h), firstB_neg bs k (i + 1)]
      exact ⟨fun g j h1 h2 => by
        by_cases e : j = i
        · rw [e]; exact h
        · exact g j (by omega) (by omega), fun g j h1 h2 => g j (by omega) (by omega)⟩
    · rw [if_pos h]
      exact ⟨fun g => by omega, fun g => absurd (g i (Nat.le_refl _) (by omega)) h⟩
theorem firstB_allz (bs : Nat → Nat) (n : Nat) : decide (firstB bs n 0 ≥ 0) = !allz bs n := by
  have h := firstB_neg bs n 0
  unfold allz
  by_cases hz : firstB bs n 0 < 0
  · rw [decide_eq_false (by omega)]
    have := h.1 hz
    rw [List.all_eq_true.2 (fun i hi => by simp at hi; simp [this i (Nat.zero_le _) (by omega)])]
    rfl
  · rw [decide_eq_true (by omega)]
    cases hb : (List.range n).all fun i => bs i == 0
    · rfl
    · refine absurd (h.2 fun j _ hj => ?_) hz
      have := List.all_eq_true.1 hb j (by simp; omega)
      simpa using this
theorem nzS (x : Nat) : Sp 192 [.s .u8 (x : Int)] (.sb (decide (x ≠ 0))) := by
  obtain ⟨t, ht⟩ : ∃ t, t = decide (x ≠ 0) := ⟨_, rfl⟩
  rw [← ht]
  refine mk Tryz.func192 rfl rfl L0 R1 (by decide +kernel) fun A S hA hS => ?_
  have e : A.cmp .neq (x : Int) 0 = t := by
    rw [i_ne hA, ht]
    by_cases h : x = 0
    · subst h; rfl
    · rw [decide_eq_false (by omega), decide_eq_true h]; rfl
  unfold bodyOf Tryz.f192
  cbv
  exact e
theorem indexS {row : List AVal} {bs : Nat → Nat} {k : Nat} (hk : k ≤ 140737488355328) (hrow : IsRowB row bs k) : Sp 215 [.lst true k row, .fn (.func 192) [] []] (.s .i64 (firstB bs k 0)) := by
  obtain ⟨F, hF⟩ : ∃ F : Nat → Int, F = fun i => firstB bs (k - i) i := ⟨_, rfl⟩
  have hF0 : firstB bs k 0 = F 0 := by rw [hF]; rfl
  have hFs : ∀ i, i < k → F i = if bs i ≠ 0 then (i : Int) else F (i + 1) := fun i hi => by
    rw [hF]
    show firstB bs (k - i) i = if bs i ≠ 0 then (i : Int) else firstB bs (k - (i + 1)) (i + 1)
    rw [show k - i = (k - (i + 1)) + 1 by omega, firstB]
  have hFk : F k = -1 := by rw [hF]; show firstB bs (k - k) k = -1; rw [Nat.sub_self]; rfl
  have nz := nzS
  rw [hF0]
  clear hF hF0
  refine mk Tryz.func215 rfl rfl LN R1 (by decide +kernel) fun A S hA hS => ?_
  have hlen := a_len hA k
  unfold bodyOf Tryz.f215
  cbv
  refine .inv (α := Nat) (fun j => ⟨[.lst true k row, .fn (.func 192) [] [], .any, .any, .any, .any, .any, .s .i64 (A.len k), .s .i64 (j : Int), .any, .any, .any, .any, .any, .any, .any, .any, .any, .any], []⟩)
    (fun j => j ≤ k ∧ F j = F 0) (fun j => k - j) 0 ?_ ⟨Nat.zero_le _, rfl⟩ ?_
  · cbv
    try (repeat' (first | exact rfl | exact trivial | constructor))
  rintro j ⟨hj, hFj⟩
  dsimp only
  by_cases h : j < k
  · have e1 : A.cmp .lss (j : Int) (A.len k) = true := by rw [hlen, i_lt hA]; exact decide_eq_true (Int.ofNat_lt.2 h)
    have hr := hrow.2.1 j h
    have hs := hFs j h
    have e2 : A.bin .add .i64 (j : Int) 1 = ((j + 1 : Nat) : Int) := e_add hA rfl rfl (by omega) (by omega)
    have nzj := nz (bs j)
    generalize F 0 = F0 at *
    generalize F j = Fj at *
    generalize bs j = bj at *
    have hle : j + 1 ≤ k := h
    have hmu : k - (j + 1) < k - j := by omega
    by_cases hb : bj = 0
    · rw [if_neg (fun e => e hb)] at hs
      rw [decide_eq_false (fun e => e hb)] at nzj
      cbv
      refine ABr.t e1 ?_
      cbv
      refine .mk j rfl h ?_
      cbv
      refine .mk _ hr ?_
      cbv
      refine ACall.mk _ (cf hS nzj) ?_
      cbv
      refine ABr.f rfl ?_
      cbv
      refine ⟨j + 1, ?_, ⟨hle, by rw [← hs, hFj]⟩, hmu⟩
      cbv
      simp only [and_true, true_and]
      exact e2
    · rw [if_pos hb] at hs
      rw [decide_eq_true hb] at nzj
      have hfin : (j : Int) = F0 := by rw [← hFj, hs]
      cbv
      refine ABr.t e1 ?_
      cbv
      refine .mk j rfl h ?_
      cbv
      refine .mk _ hr ?_
      cbv
      refine ACall.mk _ (cf hS nzj) ?_
      cbv
      refine ABr.t rfl ?_
      cbv
      exact hfin
  · obtain rfl : j = k := by omega
    have e1 : A.cmp .lss (j : Int) (A.len j) = false := by rw [hlen, i_lt hA]; exact decide_eq_false (Int.lt_irrefl _)
    rw [← hFj, hFk]
    cbv
    refine ABr.f e1 ?_
    cbv
theorem noughtsS {row : List AVal} {bs : Nat → Nat} {k : Nat} (hk : k ≤ 140737488355328) (hrow : IsRowB row bs k) : Sp 141 [.lst true k row] (.sb (allz bs k)) := by
  have h1 : Sp 191 [.lst true k row, .fn (.func 192) [] []] (.sb (!allz bs k)) := by
    have h := indexS hk hrow
    rw [← firstB_allz]
    generalize firstB bs k 0 = x at *
    obtain ⟨t, ht⟩ : ∃ t, t = decide (x ≥ 0) := ⟨_, rfl⟩
    rw [← ht]
    refine mk Tryz.func191 rfl rfl L0 R1 (by decide +kernel) fun A S hA hS => ?_
    have e : A.cmp .geq x 0 = t := by rw [i_ge hA, ht]
    unfold bodyOf Tryz.f191
    cbv
    refine ACall.mk _ (cf hS h) ?_
    cbv
    exact e
  generalize allz bs k = t at *
  refine mk Tryz.func141 rfl rfl L0 R1 (by decide +kernel) fun A S hA hS => ?_
  have e := i_not hA (rfl : (!t) = !t)
  rw [Bool.not_not] at e
  generalize (!t) = s at *
  unfold bodyOf Tryz.f141
  cbv
  refine ACall.mk _ (cf hS h1) ?_
  cbv
  exact e
end Go.Proofs.YtmholgclgamnnaaGreat
end
section
set_option linter.unusedVariables false
set_option linter.unusedSectionVars false
set_option linter.unusedSimpArgs false
namespace Go.Proofs.YtmholgclgamnnaaGreat
open Go Eng
set_option maxRecDepth 100000
set_option exponentiation.threshold 2000
set_option maxHeartbeats 4000000
def RWr : Nat → Md := fun r => match r with | 0 => .all | 3 => .owl [6, 9] | _ => .own
theorem b0 {B : Nat → Nat → Int} (hB : B = byteN) (j : Nat) : B 0 j = 0 := by rw [hB]; show ((0 / 2 ^ (8 * j) % 256 : Nat) : Int) = 0; rw [Nat.zero_div]; rfl
/-- What a point's number counts where it is written. -/
def wr (inf : Bool) (x : Nat) : Nat := match inf with | true => 0 | false => x
theorem writeBn1S {H : H5} (hH : H = H5.real) {B : Nat → Nat → Int} (hB : B = byteN) (P : PtA) : Sp 61 [P1_4 H P] (.new false 64 1 (by4 B (wr P.inf P.x) ++ by4 B (wr P.inf P.y))) := by
  have hl := H5.hlim hH
  have hx := bytesS4 hl hB P.x
  have hy := bytesS4 hl hB P.y
  have z := b0 hB
  obtain ⟨x, y, inf⟩ := P
  dsimp only at *
  cases inf
  · refine mk Tryz.func61 rfl rfl L0 RWr (by decide +kernel) fun A S hA hS => ?_
    unfold bodyOf Tryz.f61
    cbv
    repeat (first
      | (refine ABr.t (by assumption) ?_; cbv)
      | (refine ABr.f (by assumption) ?_; cbv)
      | (refine ABr.t rfl ?_; cbv)
      | (refine ABr.f rfl ?_; cbv)
      | (refine ACall.mk _ (cf hS hx) ?_; cbv)
      | (refine ACall.mk _ (cf hS hy) ?_; cbv))
    try (repeat' (first | exact rfl | exact trivial | constructor))
  · refine mk Tryz.func61 rfl rfl L0 RWr (by decide +kernel) fun A S hA hS => ?_
    unfold bodyOf Tryz.f61
    cbv
    repeat (first
      | (refine ABr.t (by assumption) ?_; cbv)
      | (refine ABr.f (by assumption) ?_; cbv)
      | (refine ABr.t rfl ?_; cbv)
      | (refine ABr.f rfl ?_; cbv))
    exact ⟨(z 31).symm, (z 30).symm, (z 29).symm, (z 28).symm, (z 27).symm, (z 26).symm, (z 25).symm, (z 24).symm, (z 23).symm, (z 22).symm, (z 21).symm, (z 20).symm, (z 19).symm, (z 18).symm, (z 17).symm, (z 16).symm, (z 15).symm, (z 14).symm, (z 13).symm, (z 12).symm, (z 11).symm, (z 10).symm, (z 9).symm, (z 8).symm, (z 7).symm, (z 6).symm, (z 5).symm, (z 4).symm, (z 3).symm, (z 2).symm, (z 1).symm, (z 0).symm, (z 31).symm, (z 30).symm, (z 29).symm, (z 28).symm, (z 27).symm, (z 26).symm, (z 25).symm, (z 24).symm, (z 23).symm, (z 22).symm, (z 21).symm, (z 20).symm, (z 19).symm, (z 18).symm, (z 17).symm, (z 16).symm, (z 15).symm, (z 14).symm, (z 13).symm, (z 12).symm, (z 11).symm, (z 10).symm, (z 9).symm, (z 8).symm, (z 7).symm, (z 6).symm, (z 5).symm, (z 4).symm, (z 3).symm, (z 2).symm, (z 1).symm, (z 0).symm⟩
theorem rowB32 (bs : Nat → Nat) (hb : ∀ i, bs i < 256) (o : Nat) : IsRowB ((List.range 32).map fun j => .s .u8 (bs (o + j) : Nat)) (fun j => bs (o + j)) 32 :=
  ⟨by simp, fun i hi => by rw [Nat.mul_one]; exact lsub_rowC (fun j => .s .u8 (bs (o + j) : Nat)) 32 i hi, fun i => hb _⟩
theorem big32 {lim : Lim} (hl : lim = limR) (bs : Nat → Nat) (hb : ∀ i, bs i < 256) (o : Nat) : Sp 179 [.lst true 32 ((List.range 32).map fun j => .s .u8 (bs (o + j) : Nat))] (.tup [u4 lim (numB (fun j => bs (o + j)) 32), .i .i64 0]) :=
  bigS4 hl (rowB32 bs hb o) (Nat.le_refl _)
theorem four64 {H : H5} (hH : H = H5.real) (bs : Nat → Nat) (hb : ∀ i, bs i < 256) : Sp 148 [.lst false 64 [.s .u8 (bs 0 : Nat), .s .u8 (bs 1 : Nat), .s .u8 (bs 2 : Nat), .s .u8 (bs 3 : Nat), .s .u8 (bs 4 : Nat), .s .u8 (bs 5 : Nat), .s .u8 (bs 6 : Nat), .s .u8 (bs 7 : Nat), .s .u8 (bs 8 : Nat), .s .u8 (bs 9 : Nat), .s .u8 (bs 10 : Nat), .s .u8 (bs 11 : Nat), .s .u8 (bs 12 : Nat), .s .u8 (bs 13 : Nat), .s .u8 (bs 14 : Nat), .s .u8 (bs 15 : Nat), .s .u8 (bs 16 : Nat), .s .u8 (bs 17 : Nat), .s .u8 (bs 18 : Nat), .s .u8 (bs 19 : Nat), .s .u8 (bs 20 : Nat), .s .u8 (bs 21 : Nat), .s .u8 (bs 22 : Nat), .s .u8 (bs 23 : Nat), .s .u8 (bs 24 : Nat), .s .u8 (bs 25 : Nat), .s .u8 (bs 26 : Nat), .s .u8 (bs 27 : Nat), .s .u8 (bs 28 : Nat), .s .u8 (bs 29 : Nat), .s .u8 (bs 30 : Nat), .s .u8 (bs 31 : Nat), .s .u8 (bs 32 : Nat), .s .u8 (bs 33 : Nat), .s .u8 (bs 34 : Nat), .s .u8 (bs 35 : Nat), .s .u8 (bs 36 : Nat), .s .u8 (bs 37 : Nat), .s .u8 (bs 38 : Nat), .s .u8 (bs 39 : Nat), .s .u8 (bs 40 : Nat), .s .u8 (bs 41 : Nat), .s .u8 (bs 42 : Nat), .s .u8 (bs 43 : Nat), .s .u8 (bs 44 : Nat), .s .u8 (bs 45 : Nat), .s .u8 (bs 46 : Nat), .s .u8 (bs 47 : Nat), .s .u8 (bs 48 : Nat), .s .u8 (bs 49 : Nat), .s .u8 (bs 50 : Nat), .s .u8 (bs 51 : Nat), .s .u8 (bs 52 : Nat), .s .u8 (bs 53 : Nat), .s .u8 (bs 54 : Nat), .s .u8 (bs 55 : Nat), .s .u8 (bs 56 : Nat), .s .u8 (bs 57 : Nat), .s .u8 (bs 58 : Nat), .s .u8 (bs 59 : Nat), .s .u8 (bs 60 : Nat), .s .u8 (bs 61 : Nat), .s .u8 (bs 62 : Nat), .s .u8 (bs 63 : Nat)]] (.new false 2 4 [.s .u64 (H.lim (numB (fun j => bs (0 + j)) 32) 0), .s .u64 (H.lim (numB (fun j => bs (0 + j)) 32) 1), .s .u64 (H.lim (numB (fun j => bs (0 + j)) 32) 2), .s .u64 (H.lim (numB (fun j => bs (0 + j)) 32) 3), .s .u64 (H.lim (numB (fun j => bs (32 + j)) 32) 0), .s .u64 (H.lim (numB (fun j => bs (32 + j)) 32) 1), .s .u64 (H.lim (numB (fun j => bs (32 + j)) 32) 2), .s .u64 (H.lim (numB (fun j => bs (32 + j)) 32) 3)]) := by
  have g0 : Sp 179 [.lst true 32 [.s .u8 (bs 0 : Nat), .s .u8 (bs 1 : Nat), .s .u8 (bs 2 : Nat), .s .u8 (bs 3 : Nat), .s .u8 (bs 4 : Nat), .s .u8 (bs 5 : Nat), .s .u8 (bs 6 : Nat), .s .u8 (bs 7 : Nat), .s .u8 (bs 8 : Nat), .s .u8 (bs 9 : Nat), .s .u8 (bs 10 : Nat), .s .u8 (bs 11 : Nat), .s .u8 (bs 12 : Nat), .s .u8 (bs 13 : Nat), .s .u8 (bs 14 : Nat), .s .u8 (bs 15 : Nat), .s .u8 (bs 16 : Nat), .s .u8 (bs 17 : Nat), .s .u8 (bs 18 : Nat), .s .u8 (bs 19 : Nat), .s .u8 (bs 20 : Nat), .s .u8 (bs 21 : Nat), .s .u8 (bs 22 : Nat), .s .u8 (bs 23 : Nat), .s .u8 (bs 24 : Nat), .s .u8 (bs 25 : Nat), .s .u8 (bs 26 : Nat), .s .u8 (bs 27 : Nat), .s .u8 (bs 28 : Nat), .s .u8 (bs 29 : Nat), .s .u8 (bs 30 : Nat), .s .u8 (bs 31 : Nat)]] _ := big32 (H5.hlim hH) bs hb 0
  generalize numB (fun j => bs (0 + j)) 32 = q0 at *
  have g1 : Sp 179 [.lst true 32 [.s .u8 (bs 32 : Nat), .s .u8 (bs 33 : Nat), .s .u8 (bs 34 : Nat), .s .u8 (bs 35 : Nat), .s .u8 (bs 36 : Nat), .s .u8 (bs 37 : Nat), .s .u8 (bs 38 : Nat), .s .u8 (bs 39 : Nat), .s .u8 (bs 40 : Nat), .s .u8 (bs 41 : Nat), .s .u8 (bs 42 : Nat), .s .u8 (bs 43 : Nat), .s .u8 (bs 44 : Nat), .s .u8 (bs 45 : Nat), .s .u8 (bs 46 : Nat), .s .u8 (bs 47 : Nat), .s .u8 (bs 48 : Nat), .s .u8 (bs 49 : Nat), .s .u8 (bs 50 : Nat), .s .u8 (bs 51 : Nat), .s .u8 (bs 52 : Nat), .s .u8 (bs 53 : Nat), .s .u8 (bs 54 : Nat), .s .u8 (bs 55 : Nat), .s .u8 (bs 56 : Nat), .s .u8 (bs 57 : Nat), .s .u8 (bs 58 : Nat), .s .u8 (bs 59 : Nat), .s .u8 (bs 60 : Nat), .s .u8 (bs 61 : Nat), .s .u8 (bs 62 : Nat), .s .u8 (bs 63 : Nat)]] _ := big32 (H5.hlim hH) bs hb 32
  generalize numB (fun j => bs (32 + j)) 32 = q1 at *
  refine mk Tryz.func148 rfl rfl L0 R0 (by decide +kernel) fun A S hA hS => ?_
  unfold bodyOf Tryz.f148
  cbv
  refine ACall.mk _ (cg hS g0 (by cbv)) ?_
  cbv
  refine ACall.mk _ (cg hS g1 (by cbv)) ?_
  cbv
/-- The program's reading. -/
def readP {p : Nat} [NeZero p] (b : Fin p) (bs : Nat → Nat) : PtA × Nat :=
  if allz bs 64 = true then (⟨0, 0, true⟩, 0) else if good1 b ⟨numB (fun j => bs (0 + j)) 32, numB (fun j => bs (32 + j)) 32, false⟩ ≠ 0 then (⟨0, 0, false⟩, good1 b ⟨numB (fun j => bs (0 + j)) 32, numB (fun j => bs (32 + j)) 32, false⟩)
  else (⟨numB (fun j => bs (0 + j)) 32, numB (fun j => bs (32 + j)) 32, false⟩, 0)
def RRd : Nat → Md := fun r => match r with | _ => .mid
theorem readBn1S {H : H5} (hH : H = H5.real) {c : Cu bnP} (hc : c = bnC) (bs : Nat → Nat) (hb : ∀ i, bs i < 256) : Sp 67 [.lst false 64 [.s .u8 (bs 0 : Nat), .s .u8 (bs 1 : Nat), .s .u8 (bs 2 : Nat), .s .u8 (bs 3 : Nat), .s .u8 (bs 4 : Nat), .s .u8 (bs 5 : Nat), .s .u8 (bs 6 : Nat), .s .u8 (bs 7 : Nat), .s .u8 (bs 8 : Nat), .s .u8 (bs 9 : Nat), .s .u8 (bs 10 : Nat), .s .u8 (bs 11 : Nat), .s .u8 (bs 12 : Nat), .s .u8 (bs 13 : Nat), .s .u8 (bs 14 : Nat), .s .u8 (bs 15 : Nat), .s .u8 (bs 16 : Nat), .s .u8 (bs 17 : Nat), .s .u8 (bs 18 : Nat), .s .u8 (bs 19 : Nat), .s .u8 (bs 20 : Nat), .s .u8 (bs 21 : Nat), .s .u8 (bs 22 : Nat), .s .u8 (bs 23 : Nat), .s .u8 (bs 24 : Nat), .s .u8 (bs 25 : Nat), .s .u8 (bs 26 : Nat), .s .u8 (bs 27 : Nat), .s .u8 (bs 28 : Nat), .s .u8 (bs 29 : Nat), .s .u8 (bs 30 : Nat), .s .u8 (bs 31 : Nat), .s .u8 (bs 32 : Nat), .s .u8 (bs 33 : Nat), .s .u8 (bs 34 : Nat), .s .u8 (bs 35 : Nat), .s .u8 (bs 36 : Nat), .s .u8 (bs 37 : Nat), .s .u8 (bs 38 : Nat), .s .u8 (bs 39 : Nat), .s .u8 (bs 40 : Nat), .s .u8 (bs 41 : Nat), .s .u8 (bs 42 : Nat), .s .u8 (bs 43 : Nat), .s .u8 (bs 44 : Nat), .s .u8 (bs 45 : Nat), .s .u8 (bs 46 : Nat), .s .u8 (bs 47 : Nat), .s .u8 (bs 48 : Nat), .s .u8 (bs 49 : Nat), .s .u8 (bs 50 : Nat), .s .u8 (bs 51 : Nat), .s .u8 (bs 52 : Nat), .s .u8 (bs 53 : Nat), .s .u8 (bs 54 : Nat), .s .u8 (bs 55 : Nat), .s .u8 (bs 56 : Nat), .s .u8 (bs 57 : Nat), .s .u8 (bs 58 : Nat), .s .u8 (bs 59 : Nat), .s .u8 (bs 60 : Nat), .s .u8 (bs 61 : Nat), .s .u8 (bs 62 : Nat), .s .u8 (bs 63 : Nat)]] (.tup [P1_4 H (readP c.b1 bs).1, .s .i64 ((readP c.b1 bs).2 : Nat)]) := by
  have l0 := lim04 hH
  have hn : Sp 141 [.lst true 64 [.s .u8 (bs 0 : Nat), .s .u8 (bs 1 : Nat), .s .u8 (bs 2 : Nat), .s .u8 (bs 3 : Nat), .s .u8 (bs 4 : Nat), .s .u8 (bs 5 : Nat), .s .u8 (bs 6 : Nat), .s .u8 (bs 7 : Nat), .s .u8 (bs 8 : Nat), .s .u8 (bs 9 : Nat), .s .u8 (bs 10 : Nat), .s .u8 (bs 11 : Nat), .s .u8 (bs 12 : Nat), .s .u8 (bs 13 : Nat), .s .u8 (bs 14 : Nat), .s .u8 (bs 15 : Nat), .s .u8 (bs 16 : Nat), .s .u8 (bs 17 : Nat), .s .u8 (bs 18 : Nat), .s .u8 (bs 19 : Nat), .s .u8 (bs 20 : Nat), .s .u8 (bs 21 : Nat), .s .u8 (bs 22 : Nat), .s .u8 (bs 23 : Nat), .s .u8 (bs 24 : Nat), .s .u8 (bs 25 : Nat), .s .u8 (bs 26 : Nat), .s .u8 (bs 27 : Nat), .s .u8 (bs 28 : Nat), .s .u8 (bs 29 : Nat), .s .u8 (bs 30 : Nat), .s .u8 (bs 31 : Nat), .s .u8 (bs 32 : Nat), .s .u8 (bs 33 : Nat), .s .u8 (bs 34 : Nat), .s .u8 (bs 35 : Nat), .s .u8 (bs 36 : Nat), .s .u8 (bs 37 : Nat), .s .u8 (bs 38 : Nat), .s .u8 (bs 39 : Nat), .s .u8 (bs 40 : Nat), .s .u8 (bs 41 : Nat), .s .u8 (bs 42 : Nat), .s .u8 (bs 43 : Nat), .s .u8 (bs 44 : Nat), .s .u8 (bs 45 : Nat), .s .u8 (bs 46 : Nat), .s .u8 (bs 47 : Nat), .s .u8 (bs 48 : Nat), .s .u8 (bs 49 : Nat), .s .u8 (bs 50 : Nat), .s .u8 (bs 51 : Nat), .s .u8 (bs 52 : Nat), .s .u8 (bs 53 : Nat), .s .u8 (bs 54 : Nat), .s .u8 (bs 55 : Nat), .s .u8 (bs 56 : Nat), .s .u8 (bs 57 : Nat), .s .u8 (bs 58 : Nat), .s .u8 (bs 59 : Nat), .s .u8 (bs 60 : Nat), .s .u8 (bs 61 : Nat), .s .u8 (bs 62 : Nat), .s .u8 (bs 63 : Nat)]] (.sb (allz bs 64)) := noughtsS (row := (List.range 64).map fun j => .s .u8 (bs j : Nat)) (by decide) ⟨by simp, fun i hi => by rw [Nat.mul_one]; exact lsub_rowC (fun j => .s .u8 (bs j : Nat)) 64 i hi, hb⟩
  have h4 := four64 hH bs hb
  have vlt : ∀ o, numB (fun j => bs (o + j)) 32 < 2 ^ 256 := fun o => Vb_lt 32 fun j _ => hb _
  have hB := BnS hH hc
  have g1 := good1S4 hH bnPr c ⟨numB (fun j => bs (0 + j)) 32, numB (fun j => bs (32 + j)) 32, false⟩ (vlt 0) (vlt 32)
  have ne := fun A hA x => i_ne (A := A) hA (x := x) (y := 0)
  unfold readP
  generalize numB (fun j => bs (0 + j)) 32 = X at *
  generalize numB (fun j => bs (32 + j)) 32 = Y at *
  by_cases hz : allz bs 64 = true
  · rw [if_pos hz]
    rw [hz] at hn
    clear g1 h4 hB
    refine mk Tryz.func67 rfl rfl L0 RRd (by decide +kernel) fun A S hA hS => ?_
    unfold bodyOf Tryz.f67
    cbv
    refine ACall.mk _ (cg hS hn (by cbv)) ?_
    cbv
    repeat (first
      | (refine ABr.t (by assumption) ?_; cbv)
      | (refine ABr.f (by assumption) ?_; cbv)
      | (refine ABr.t rfl ?_; cbv)
      | (refine ABr.f rfl ?_; cbv))
    repeat' (first | exact (l0 _).symm | exact rfl | exact trivial | constructor)
  · rw [if_neg hz]
    rw [Bool.eq_false_iff.2 hz] at hn
    by_cases h1 : good1 c.b1 ⟨X, Y, false⟩ = 0
    · rw [if_neg (fun h => h h1)]
      rw [h1] at g1
      clear h1
      refine mk Tryz.func67 rfl rfl L0 RRd (by decide +kernel) fun A S hA hS => ?_
      have e0 : A.cmp .neq ((0 : Nat) : Int) 0 = false := ne A hA _
      unfold bodyOf Tryz.f67
      cbv
      refine ACall.mk _ (cg hS hn (by cbv)) ?_
      cbv
      repeat (first
        | (refine ABr.t (by assumption) ?_; cbv)
        | (refine ABr.f (by assumption) ?_; cbv)
        | (refine ABr.t rfl ?_; cbv)
        | (refine ABr.f rfl ?_; cbv)
        | (refine ACall.mk _ (cf hS h4) ?_; cbv)
        | (refine ACall.mk _ (cf hS hB) ?_; cbv))
      refine ACall.mk _ (cg hS g1 (by cbv)) ?_
      cbv
      repeat (first
        | (refine ABr.t (by assumption) ?_; cbv)
        | (refine ABr.f (by assumption) ?_; cbv)
        | (refine ABr.t rfl ?_; cbv)
        | (refine ABr.f rfl ?_; cbv))
    · rw [if_pos h1]
      have h1' : ((good1 c.b1 ⟨X, Y, false⟩ : Nat) : Int) ≠ 0 := by omega
      dsimp only
      generalize ((good1 c.b1 ⟨X, Y, false⟩ : Nat) : Int) = e at *
      refine mk Tryz.func67 rfl rfl L0 RRd (by decide +kernel) fun A S hA hS => ?_
      have e0 : A.cmp .neq e 0 = true := by rw [ne A hA, decide_eq_false h1']; rfl
      unfold bodyOf Tryz.f67
      cbv
      refine ACall.mk _ (cg hS hn (by cbv)) ?_
      cbv
      repeat (first
        | (refine ABr.t (by assumption) ?_; cbv)
        | (refine ABr.f (by assumption) ?_; cbv)
        | (refine ABr.t rfl ?_; cbv)
        | (refine ABr.f rfl ?_; cbv)
        | (refine ACall.mk _ (cf hS h4) ?_; cbv)
        | (refine ACall.mk _ (cf hS hB) ?_; cbv))
      refine ACall.mk _ (cg hS g1 (by cbv)) ?_
      cbv
      repeat (first
        | (refine ABr.t (by assumption) ?_; cbv)
        | (refine ABr.f (by assumption) ?_; cbv)
        | (refine ABr.t rfl ?_; cbv)
        | (refine ABr.f rfl ?_; cbv))
      repeat' (first | exact (l0 _).symm | exact rfl | exact trivial | constructor)
end Go.Proofs.YtmholgclgamnnaaGreat
end
section
set_option linter.unusedVariables false
set_option linter.unusedSectionVars false
set_option linter.unusedSimpArgs false
namespace Go.Proofs.YtmholgclgamnnaaGreat
open Go Eng
set_option maxRecDepth 100000
set_option exponentiation.threshold 2000
set_option maxHeartbeats 4000000
def bs1 (i : Nat) : Nat := if i = 63 then 1 else 0
theorem readP_one : (readP (fo bnP 3) bs1).2 = 71 := by decide +kernel
theorem awakeS : Sp 12 [] (.b true) := by
  obtain ⟨H, hH⟩ : ∃ H, H = H5.real := ⟨_, rfl⟩
  obtain ⟨B, hB⟩ : ∃ B, B = byteN := ⟨_, rfl⟩
  obtain ⟨c, hc⟩ : ∃ c, c = bnC := ⟨_, rfl⟩
  obtain ⟨d, hd⟩ : ∃ d, d = blsC := ⟨_, rfl⟩
  have c1 := BnS hH hc
  have c2 := BlsS hH hd
  have c3 := base1S4 (H := H) c
  have h1c : c.one = fo bnP 1 := by rw [hc]; rfl
  have hb1 : c.b1 = fo bnP 3 := by rw [hc]; rfl
  have hbase : (⟨c.x1, c.y1, false⟩ : PtA) = ⟨1, 2, false⟩ := by rw [hc]; rfl
  rw [hbase] at c3
  obtain ⟨G, hG⟩ : ∃ G : PtA, G = ⟨1, 2, false⟩ := ⟨_, rfl⟩
  obtain ⟨P, hP⟩ : ∃ P : PtA, P = ⟨1368015179489954701390400359078579693043519447331113978918064868415326638035, 9918110051302171585080402603319702774565515993150576347155970296011118125764, false⟩ := ⟨_, rfl⟩
  have c4 := mulS1_4 hH bnPr h1c G (by rw [hG]; decide) (by rw [hG]; decide) 2 (by decide)
  have bt : mulP (fo bnP 3) G 2 = (P, 0) := by rw [hG, hP]; exact bn_two
  rw [hb1, bt] at c4
  rw [← hG] at c3
  have w2 : u4 H.lim 2 = .agg [.s .u64 2, .s .u64 0, .s .u64 0, .s .u64 0] := by rw [hH]; rfl
  rw [w2] at c4
  have c5 := writeBn1S hH hB P
  have b1 : B (wr P.inf P.x) 30 = 6 := by rw [hB, hP]; rfl
  have b2 : B (wr P.inf P.x) 29 = 0x44 := by rw [hB, hP]; rfl
  have b3 : B (wr P.inf P.y) 0 = 0xc4 := by rw [hB, hP]; rfl
  have c6 := good1S4 hH bnPr c P (by rw [hP]; decide) (by rw [hP]; decide)
  have bg : good1 (fo bnP 3) P = 0 := by rw [hP]; exact bn_two_good
  rw [hb1, bg] at c6
  have hi : P.inf = false := by rw [hP]
  have c7 := readBn1S hH hc bs1 (fun i => by unfold bs1; split <;> decide)
  rw [hb1, readP_one] at c7
  generalize (readP (fo bnP 3) bs1).1 = Q at *
  have c7 : Sp 67 [.lst false 64 [.s .u8 0, .s .u8 0, .s .u8 0, .s .u8 0, .s .u8 0, .s .u8 0, .s .u8 0, .s .u8 0, .s .u8 0, .s .u8 0, .s .u8 0, .s .u8 0, .s .u8 0, .s .u8 0, .s .u8 0, .s .u8 0, .s .u8 0, .s .u8 0, .s .u8 0, .s .u8 0, .s .u8 0, .s .u8 0, .s .u8 0, .s .u8 0, .s .u8 0, .s .u8 0, .s .u8 0, .s .u8 0, .s .u8 0, .s .u8 0, .s .u8 0, .s .u8 0, .s .u8 0, .s .u8 0, .s .u8 0, .s .u8 0, .s .u8 0, .s .u8 0, .s .u8 0, .s .u8 0, .s .u8 0, .s .u8 0, .s .u8 0, .s .u8 0, .s .u8 0, .s .u8 0, .s .u8 0, .s .u8 0, .s .u8 0, .s .u8 0, .s .u8 0, .s .u8 0, .s .u8 0, .s .u8 0, .s .u8 0, .s .u8 0, .s .u8 0, .s .u8 0, .s .u8 0, .s .u8 0, .s .u8 0, .s .u8 0, .s .u8 0, .s .u8 1]] (.tup [P1_4 H Q, .s .i64 71]) := c7
  generalize wr P.inf P.x = wx at *
  generalize wr P.inf P.y = wy at *
  clear hc hd bt hP hG bg h1c hb1 hbase
  refine mk Tryz.func12 rfl rfl L0 R0 (by decide +kernel) fun A S hA hS => ?_
  have e0 : A.cmp .eql ((0 : Nat) : Int) 0 = true := i_eq hA
  have e1 : A.cmp .eql (B wx 30) 6 = true := by rw [b1]; exact i_eq hA
  have e2 : A.cmp .eql (B wx 29) 68 = true := by rw [b2]; exact i_eq hA
  have e3 : A.cmp .eql (B wy 0) 196 = true := by rw [b3]; exact i_eq hA
  have e4 : A.cmp .eql (71 : Int) 71 = true := i_eq hA
  have e5 := i_not hA hi
  unfold bodyOf Tryz.f12
  cbv
  repeat (first
    | (refine ABr.t (by assumption) ?_; cbv)
    | (refine ABr.f (by assumption) ?_; cbv)
    | (refine ABr.t rfl ?_; cbv)
    | (refine ABr.f rfl ?_; cbv)
    | (refine ACall.mk _ (cf hS c1) ?_; cbv)
    | (refine ACall.mk _ (cf hS c2) ?_; cbv)
    | (refine ACall.mk _ (cf hS c3) ?_; cbv)
    | (refine ACall.mk _ (cg hS c4 ?_) ?_; (focus (cbv; done)); cbv)
    | (refine ACall.mk _ (cf hS c5) ?_; cbv)
    | (refine ACall.mk _ (cf hS c6) ?_; cbv)
    | (refine ACall.mk _ (cg hS c7 ?_) ?_; (focus (cbv; done)); cbv))
  exact e5
end Go.Proofs.YtmholgclgamnnaaGreat
end
section
set_option linter.unusedVariables false
set_option linter.unusedSectionVars false
set_option linter.unusedSimpArgs false
namespace Go.Proofs.YtmholgclgamnnaaGreat
open Go Eng
set_option maxRecDepth 100000
set_option exponentiation.threshold 2000
set_option maxHeartbeats 4000000
def rr (t : AVal) (X Y : AVal) : AVal := .agg [X, Y, t]
end Go.Proofs.YtmholgclgamnnaaGreat
end
section
set_option linter.unusedSectionVars false
set_option linter.unusedVariables false
set_option linter.unusedSimpArgs false
namespace Gp
open Cv
def l3 : E := .m (.m w0 w0) w0
def l4 : E := .m (.m w0 w0) (.m w0 w0)
section
variable {α : Type} [DecidableEq α] {O : Ops α} (F : Fd O)
include F
end
section
variable {α : Type} [DecidableEq α] {O : Ops α} (F : Fd O) (L : Laws O) {b : α} (N : No2 O b) (hA : ∀ P Q : Pt α, onC O b P → onC O b Q → down O (plus O (up O P) (up O Q)) = sumR O P Q)
include F L N hA
end
end Gp
end
