import Derived.Test.YtlmlganfjnokiaaBO
import Derived.Test.YtlmlganfjnokiaaJ
set_option linter.unusedVariables false
set_option linter.unusedSimpArgs false
namespace Go.Proofs.Ytlmlganfjnokiaa
open Go Eng
set_option maxRecDepth 100000
set_option exponentiation.threshold 2000
set_option maxHeartbeats 8000000
/-- A number's byte. -/
def byteN (a p : Nat) : Int := ((a / 2 ^ (8 * p) % 256 : Nat) : Int)
theorem byte_word {A : Ar} (hA : A = Ar.real) {lim : Lim} (hl : lim = limR) (a q r : Nat) (s : Int) (hr : r < 8) (hs : s = (8 * r : Nat)) : A.wrap .u8 (A.bin .shr .u64 (lim a q) s) = byteN a (8 * q + r) := by
  subst hs
  rw [hA, hl]
  show IntKind.u8.wrap (rbin .shr .u64 (Int.ofNat (a / 2 ^ (64 * q) % 2 ^ 64)) (Int.ofNat (8 * r))) = _
  rw [u_shr _ _ (by omega), wrap_u8]
  show ((a / 2 ^ (64 * q) % 2 ^ 64 / 2 ^ (8 * r) : Nat) : Int) % 256 = ((a / 2 ^ (8 * (8 * q + r)) % 256 : Nat) : Int)
  have e : a / 2 ^ (64 * q) % 2 ^ 64 / 2 ^ (8 * r) % 256 = a / 2 ^ (8 * (8 * q + r)) % 256 := by
    rw [show 8 * (8 * q + r) = 64 * q + 8 * r by omega, Nat.pow_add, ← Nat.div_div_eq_div_mul]
    generalize a / 2 ^ (64 * q) = x
    rw [show (2 : Nat) ^ 64 = 2 ^ (8 * r) * (256 * 2 ^ (56 - 8 * r)) by rw [show (256 : Nat) = 2 ^ 8 from rfl, ← Nat.pow_add, ← Nat.pow_add]; congr 1; omega, Nat.mod_mul_right_div_self, Nat.mod_mul_right_mod]
  omega
theorem lput_one : ∀ (l : List AVal) (j : Nat) (y : AVal), j < l.length → lput l j [y] = some (l.set j y)
  | [], j, y, h => by simp at h
  | x :: l, 0, y, _ => by
    cases l <;> rfl
  | x :: l, j + 1, y, h => by
    have := lput_one l j y (by simpa using h)
    rw [lput, this]; rfl
theorem lsub_row (f : Nat → AVal) (n j : Nat) (h : j < n) : lsub ((List.range n).map f) j 1 = some [f j] := by
  have : ∀ (l : List AVal) (i : Nat) (x : AVal), l[i]? = some x → lsub l i 1 = some [x] := by
    intro l
    induction l with
    | nil => intro i x h; simp at h
    | cons y l ih =>
      intro i x h
      cases i with
      | zero =>
        simp at h
        subst h
        cases l <;> rfl
      | succ i => rw [lsub]; exact ih i x (by simpa using h)
  exact this _ _ _ (by rw [List.getElem?_map, List.getElem?_range h]; rfl)
theorem lput_row (f g : Nat → AVal) (n j : Nat) (h : j < n) (hg : ∀ m, m ≠ j → g m = f m) : lput ((List.range n).map f) j [g j] = some ((List.range n).map g) := by
  rw [lput_one _ _ _ (by simpa using h)]
  congr 1
  refine List.ext_getElem (by simp) fun i h1 h2 => ?_
  rw [List.getElem_set]
  split
  · rename_i e; subst e; simp
  · rename_i e; simp [hg i (fun e' => e e'.symm)]
abbrev by4 (B : Nat → Nat → Int) (a : Nat) : List AVal := [.s .u8 (B a 31), .s .u8 (B a 30), .s .u8 (B a 29), .s .u8 (B a 28), .s .u8 (B a 27), .s .u8 (B a 26), .s .u8 (B a 25), .s .u8 (B a 24), .s .u8 (B a 23), .s .u8 (B a 22), .s .u8 (B a 21), .s .u8 (B a 20), .s .u8 (B a 19), .s .u8 (B a 18), .s .u8 (B a 17), .s .u8 (B a 16), .s .u8 (B a 15), .s .u8 (B a 14), .s .u8 (B a 13), .s .u8 (B a 12), .s .u8 (B a 11), .s .u8 (B a 10), .s .u8 (B a 9), .s .u8 (B a 8), .s .u8 (B a 7), .s .u8 (B a 6), .s .u8 (B a 5), .s .u8 (B a 4), .s .u8 (B a 3), .s .u8 (B a 2), .s .u8 (B a 1), .s .u8 (B a 0)]
/-- Bytes in a row, told by a sequence. -/
def wb4 (o : Nat → Int) : List AVal := [.s .u8 (o (8 * 4 - 1 - 31)), .s .u8 (o (8 * 4 - 1 - 30)), .s .u8 (o (8 * 4 - 1 - 29)), .s .u8 (o (8 * 4 - 1 - 28)), .s .u8 (o (8 * 4 - 1 - 27)), .s .u8 (o (8 * 4 - 1 - 26)), .s .u8 (o (8 * 4 - 1 - 25)), .s .u8 (o (8 * 4 - 1 - 24)), .s .u8 (o (8 * 4 - 1 - 23)), .s .u8 (o (8 * 4 - 1 - 22)), .s .u8 (o (8 * 4 - 1 - 21)), .s .u8 (o (8 * 4 - 1 - 20)), .s .u8 (o (8 * 4 - 1 - 19)), .s .u8 (o (8 * 4 - 1 - 18)), .s .u8 (o (8 * 4 - 1 - 17)), .s .u8 (o (8 * 4 - 1 - 16)), .s .u8 (o (8 * 4 - 1 - 15)), .s .u8 (o (8 * 4 - 1 - 14)), .s .u8 (o (8 * 4 - 1 - 13)), .s .u8 (o (8 * 4 - 1 - 12)), .s .u8 (o (8 * 4 - 1 - 11)), .s .u8 (o (8 * 4 - 1 - 10)), .s .u8 (o (8 * 4 - 1 - 9)), .s .u8 (o (8 * 4 - 1 - 8)), .s .u8 (o (8 * 4 - 1 - 7)), .s .u8 (o (8 * 4 - 1 - 6)), .s .u8 (o (8 * 4 - 1 - 5)), .s .u8 (o (8 * 4 - 1 - 4)), .s .u8 (o (8 * 4 - 1 - 3)), .s .u8 (o (8 * 4 - 1 - 2)), .s .u8 (o (8 * 4 - 1 - 1)), .s .u8 (o (8 * 4 - 1 - 0))]
theorem wb_eq4 (o : Nat → Int) : wb4 o = (List.range (8 * 4)).map fun j => .s .u8 (o j) := rfl
theorem wb_put4 {A : Ar} (hA : A = Ar.real) (o o2 : Nat → Int) (j : Nat) (hj : j < 8 * 4) {x : Int} (hx : x = o2 j) (h : ∀ m, m ≠ j → o2 m = o m) : lput (wb4 o) (A.offs 0 j 1) [.s .u8 x] = some (wb4 o2) := by
  subst hA
  subst hx
  rw [wb_eq4, wb_eq4, show Ar.real.offs 0 j 1 = j from (by show 0 + j * 1 = j; omega)]
  exact lput_row (fun j => .s .u8 (o j)) (fun j => .s .u8 (o2 j)) _ j hj fun m hm => by rw [h m hm]
abbrev by6 (B : Nat → Nat → Int) (a : Nat) : List AVal := [.s .u8 (B a 47), .s .u8 (B a 46), .s .u8 (B a 45), .s .u8 (B a 44), .s .u8 (B a 43), .s .u8 (B a 42), .s .u8 (B a 41), .s .u8 (B a 40), .s .u8 (B a 39), .s .u8 (B a 38), .s .u8 (B a 37), .s .u8 (B a 36), .s .u8 (B a 35), .s .u8 (B a 34), .s .u8 (B a 33), .s .u8 (B a 32), .s .u8 (B a 31), .s .u8 (B a 30), .s .u8 (B a 29), .s .u8 (B a 28), .s .u8 (B a 27), .s .u8 (B a 26), .s .u8 (B a 25), .s .u8 (B a 24), .s .u8 (B a 23), .s .u8 (B a 22), .s .u8 (B a 21), .s .u8 (B a 20), .s .u8 (B a 19), .s .u8 (B a 18), .s .u8 (B a 17), .s .u8 (B a 16), .s .u8 (B a 15), .s .u8 (B a 14), .s .u8 (B a 13), .s .u8 (B a 12), .s .u8 (B a 11), .s .u8 (B a 10), .s .u8 (B a 9), .s .u8 (B a 8), .s .u8 (B a 7), .s .u8 (B a 6), .s .u8 (B a 5), .s .u8 (B a 4), .s .u8 (B a 3), .s .u8 (B a 2), .s .u8 (B a 1), .s .u8 (B a 0)]
/-- Bytes in a row, told by a sequence. -/
def wb6 (o : Nat → Int) : List AVal := [.s .u8 (o (8 * 6 - 1 - 47)), .s .u8 (o (8 * 6 - 1 - 46)), .s .u8 (o (8 * 6 - 1 - 45)), .s .u8 (o (8 * 6 - 1 - 44)), .s .u8 (o (8 * 6 - 1 - 43)), .s .u8 (o (8 * 6 - 1 - 42)), .s .u8 (o (8 * 6 - 1 - 41)), .s .u8 (o (8 * 6 - 1 - 40)), .s .u8 (o (8 * 6 - 1 - 39)), .s .u8 (o (8 * 6 - 1 - 38)), .s .u8 (o (8 * 6 - 1 - 37)), .s .u8 (o (8 * 6 - 1 - 36)), .s .u8 (o (8 * 6 - 1 - 35)), .s .u8 (o (8 * 6 - 1 - 34)), .s .u8 (o (8 * 6 - 1 - 33)), .s .u8 (o (8 * 6 - 1 - 32)), .s .u8 (o (8 * 6 - 1 - 31)), .s .u8 (o (8 * 6 - 1 - 30)), .s .u8 (o (8 * 6 - 1 - 29)), .s .u8 (o (8 * 6 - 1 - 28)), .s .u8 (o (8 * 6 - 1 - 27)), .s .u8 (o (8 * 6 - 1 - 26)), .s .u8 (o (8 * 6 - 1 - 25)), .s .u8 (o (8 * 6 - 1 - 24)), .s .u8 (o (8 * 6 - 1 - 23)), .s .u8 (o (8 * 6 - 1 - 22)), .s .u8 (o (8 * 6 - 1 - 21)), .s .u8 (o (8 * 6 - 1 - 20)), .s .u8 (o (8 * 6 - 1 - 19)), .s .u8 (o (8 * 6 - 1 - 18)), .s .u8 (o (8 * 6 - 1 - 17)), .s .u8 (o (8 * 6 - 1 - 16)), .s .u8 (o (8 * 6 - 1 - 15)), .s .u8 (o (8 * 6 - 1 - 14)), .s .u8 (o (8 * 6 - 1 - 13)), .s .u8 (o (8 * 6 - 1 - 12)), .s .u8 (o (8 * 6 - 1 - 11)), .s .u8 (o (8 * 6 - 1 - 10)), .s .u8 (o (8 * 6 - 1 - 9)), .s .u8 (o (8 * 6 - 1 - 8)), .s .u8 (o (8 * 6 - 1 - 7)), .s .u8 (o (8 * 6 - 1 - 6)), .s .u8 (o (8 * 6 - 1 - 5)), .s .u8 (o (8 * 6 - 1 - 4)), .s .u8 (o (8 * 6 - 1 - 3)), .s .u8 (o (8 * 6 - 1 - 2)), .s .u8 (o (8 * 6 - 1 - 1)), .s .u8 (o (8 * 6 - 1 - 0))]
theorem wb_eq6 (o : Nat → Int) : wb6 o = (List.range (8 * 6)).map fun j => .s .u8 (o j) := rfl
theorem wb_put6 {A : Ar} (hA : A = Ar.real) (o o2 : Nat → Int) (j : Nat) (hj : j < 8 * 6) {x : Int} (hx : x = o2 j) (h : ∀ m, m ≠ j → o2 m = o m) : lput (wb6 o) (A.offs 0 j 1) [.s .u8 x] = some (wb6 o2) := by
  subst hA
  subst hx
  rw [wb_eq6, wb_eq6, show Ar.real.offs 0 j 1 = j from (by show 0 + j * 1 = j; omega)]
  exact lput_row (fun j => .s .u8 (o j)) (fun j => .s .u8 (o2 j)) _ j hj fun m hm => by rw [h m hm]
theorem bytesS4 {lim : Lim} (hl : lim = limR) {B : Nat → Nat → Int} (hB : B = byteN) (a : Nat) : Sp 64 [u4 lim a] (.new false (8 * 4) 1 (by4 B a)) := by
  obtain ⟨O, hO⟩ : ∃ O : Nat → Nat → Int, O = fun i j => if 8 * 4 - i ≤ j then B a (8 * 4 - 1 - j) else 0 := ⟨_, rfl⟩
  have hO0 : ∀ j, j < 8 * 4 → O 0 j = 0 := fun j hj => by rw [hO]; exact if_neg (by omega)
  have hOn : ∀ j, O (8 * 4) j = B a (8 * 4 - 1 - j) := fun j => by rw [hO]; exact if_pos (by omega)
  have hO1 : ∀ i, i < 8 * 4 → O (i + 1) (8 * 4 - 1 - i) = B a (8 * (i / 8) + i % 8) := fun i hi => by
    rw [hO]
    show (if 8 * 4 - (i + 1) ≤ 8 * 4 - 1 - i then B a (8 * 4 - 1 - (8 * 4 - 1 - i)) else 0) = _
    rw [if_pos (by omega)]; congr 1; omega
  have hO2 : ∀ i, i < 8 * 4 → ∀ m, m ≠ 8 * 4 - 1 - i → O (i + 1) m = O i m := fun i hi m hm => by
    rw [hO]
    by_cases h : 8 * 4 - i ≤ m
    · exact (if_pos (by omega)).trans (if_pos h).symm
    · exact (if_neg (by omega)).trans (if_neg h).symm
  clear hO
  refine mk Try.func64 rfl rfl LN R0 (by decide +kernel) ?_
  intro A S hA hS
  unfold bodyOf Try.f64
  cbv
  refine .inv (α := Nat) (fun i => ⟨[.any, .own 0 0, .any, .i .i64 (8 * 4 : Nat), .osl false 1 0 (8 * 4) 1, .any, .any, .any, .any, .any, .any, .i .i64 (8 * 4 : Nat), .s .i64 (i : Nat), .any, .any, .any, .any, .any, .any, .any, .any, .any, .any, .any, .any, .any, .any, .any, .any, .any, .any, .any], [⟨true, true, ws4 lim a⟩, ⟨true, true, wb4 (O i)⟩]⟩) (fun i => i ≤ 8 * 4) (fun i => 8 * 4 - i) 0 ?_ (Nat.zero_le _) ?_
  · have h := fun j hj => (hO0 j hj).symm
    cbv
    repeat' (first | exact rfl | exact h _ (by decide) | exact trivial | constructor)
  intro i hi
  by_cases h : i < 8 * 4
  · have hlt : A.cmp .lss (i : Int) ((8 * 4 : Nat) : Int) = true := (i_lt hA).trans (decide_eq_true (by omega))
    obtain ⟨p, hp⟩ : ∃ p, p = 8 * 4 - 1 - i := ⟨_, rfl⟩
    have hix : A.bin .sub .i64 ((8 * 4 - 1 : Nat) : Int) (i : Int) = (p : Int) := e_sub hA rfl rfl (by omega) (by omega)
    have hpn : p < 8 * 4 := by omega
    have hquo : A.bin .quo .i64 (i : Int) 8 = ((i / 8 : Nat) : Int) := e_quo hA rfl rfl (by omega) (by omega) (by omega) (by omega)
    have hnext : A.bin .add .i64 (i : Int) 1 = ((i + 1 : Nat) : Int) := e_add hA rfl rfl (by omega) (by omega)
    have hq : i / 8 < 4 := by omega
    have hr8 : i % 8 < 8 := by omega
    have hrem : A.bin .mul .i64 8 (A.bin .rem .i64 (i : Int) 8) = ((8 * (i % 8) : Nat) : Int) := e_mul hA rfl (e_rem hA rfl rfl (z := ((i % 8 : Nat) : Int)) (by omega) (by omega)) (by omega) (by omega)
    have hok : A.okb .shr (A.bin .mul .i64 8 (A.bin .rem .i64 (i : Int) 8)) = true := by rw [hrem]; exact (a_okbS hA (by omega)).1
    have hget := ws_get4 hA lim a (i / 8) hq
    have hbw := byte_word hA hl a (i / 8) (i % 8) _ hr8 hrem
    have hput := wb_put4 hA (O i) (O (i + 1)) p hpn ((hB ▸ hbw).trans (by rw [hp, hO1 i h])) (by rw [hp]; exact hO2 i h)
    have hdec : 8 * 4 - (i + 1) < 8 * 4 - i := by omega
    have hle : i + 1 ≤ 8 * 4 := h
    obtain ⟨nx, hnx⟩ : ∃ nx, nx = i + 1 := ⟨_, rfl⟩
    rw [← hnx] at hnext hput hdec hle
    clear hO0 hOn hO1 hO2 hp hbw hr8 hrem
    generalize i / 8 = q at *
    cbv
    refine ABr.t hlt ?_
    cbv
    refine .sym q hquo hq ?_
    cbv
    refine .mk _ hget ?_
    cbv
    refine .mk hok ?_
    cbv
    refine .sym p hix hpn ?_
    cbv
    refine .mk _ hput ?_
    cbv
    refine ⟨nx, ?_, hle, hdec⟩
    cbv
    repeat' (first | exact hnext | exact trivial | exact rfl | constructor)
  · have hlt : A.cmp .lss (i : Int) ((8 * 4 : Nat) : Int) = false := (i_lt hA).trans (decide_eq_false (by omega))
    obtain rfl : i = 8 * 4 := by omega
    cbv
    refine ABr.f hlt ?_
    cbv
    exact ⟨hOn (8 * 4 - 1 - 31), hOn (8 * 4 - 1 - 30), hOn (8 * 4 - 1 - 29), hOn (8 * 4 - 1 - 28), hOn (8 * 4 - 1 - 27), hOn (8 * 4 - 1 - 26), hOn (8 * 4 - 1 - 25), hOn (8 * 4 - 1 - 24), hOn (8 * 4 - 1 - 23), hOn (8 * 4 - 1 - 22), hOn (8 * 4 - 1 - 21), hOn (8 * 4 - 1 - 20), hOn (8 * 4 - 1 - 19), hOn (8 * 4 - 1 - 18), hOn (8 * 4 - 1 - 17), hOn (8 * 4 - 1 - 16), hOn (8 * 4 - 1 - 15), hOn (8 * 4 - 1 - 14), hOn (8 * 4 - 1 - 13), hOn (8 * 4 - 1 - 12), hOn (8 * 4 - 1 - 11), hOn (8 * 4 - 1 - 10), hOn (8 * 4 - 1 - 9), hOn (8 * 4 - 1 - 8), hOn (8 * 4 - 1 - 7), hOn (8 * 4 - 1 - 6), hOn (8 * 4 - 1 - 5), hOn (8 * 4 - 1 - 4), hOn (8 * 4 - 1 - 3), hOn (8 * 4 - 1 - 2), hOn (8 * 4 - 1 - 1), hOn (8 * 4 - 1 - 0)⟩
theorem rBytesS4 {lim : Lim} (hl : lim = limR) {B : Nat → Nat → Int} (hB : B = byteN) (a : Nat) : Sp 65 [.lst false 4 (ws4 lim a)] (.new false (8 * 4) 1 (by4 B a)) := by
  obtain ⟨O, hO⟩ : ∃ O : Nat → Nat → Int, O = fun i j => if 8 * 4 - i ≤ j then B a (8 * 4 - 1 - j) else 0 := ⟨_, rfl⟩
  have hO0 : ∀ j, j < 8 * 4 → O 0 j = 0 := fun j hj => by rw [hO]; exact if_neg (by omega)
  have hOn : ∀ j, O (8 * 4) j = B a (8 * 4 - 1 - j) := fun j => by rw [hO]; exact if_pos (by omega)
  have hO1 : ∀ i, i < 8 * 4 → O (i + 1) (8 * 4 - 1 - i) = B a (8 * (i / 8) + i % 8) := fun i hi => by
    rw [hO]
    show (if 8 * 4 - (i + 1) ≤ 8 * 4 - 1 - i then B a (8 * 4 - 1 - (8 * 4 - 1 - i)) else 0) = _
    rw [if_pos (by omega)]; congr 1; omega
  have hO2 : ∀ i, i < 8 * 4 → ∀ m, m ≠ 8 * 4 - 1 - i → O (i + 1) m = O i m := fun i hi m hm => by
    rw [hO]
    by_cases h : 8 * 4 - i ≤ m
    · exact (if_pos (by omega)).trans (if_pos h).symm
    · exact (if_neg (by omega)).trans (if_neg h).symm
  clear hO
  refine mk Try.func65 rfl rfl LN R0 (by decide +kernel) ?_
  intro A S hA hS
  unfold bodyOf Try.f65
  cbv
  refine .inv (α := Nat) (fun i => ⟨[.lst false 4 (ws4 lim a), .any, .any, .i .i64 (8 * 4 : Nat), .osl false 0 0 (8 * 4) 1, .any, .any, .any, .any, .any, .any, .any, .i .i64 (8 * 4 : Nat), .s .i64 (i : Nat), .any, .any, .any, .any, .any, .any, .any, .any, .any, .any, .any, .any, .any, .any, .any, .any, .any, .any, .any, .any, .any], [⟨true, true, wb4 (O i)⟩]⟩) (fun i => i ≤ 8 * 4) (fun i => 8 * 4 - i) 0 ?_ (Nat.zero_le _) ?_
  · have h := fun j hj => (hO0 j hj).symm
    cbv
    repeat' (first | exact rfl | exact h _ (by decide) | exact trivial | constructor)
  intro i hi
  by_cases h : i < 8 * 4
  · have hlt : A.cmp .lss (i : Int) ((8 * 4 : Nat) : Int) = true := (i_lt hA).trans (decide_eq_true (by omega))
    obtain ⟨p, hp⟩ : ∃ p, p = 8 * 4 - 1 - i := ⟨_, rfl⟩
    have hix : A.bin .sub .i64 ((8 * 4 - 1 : Nat) : Int) (i : Int) = (p : Int) := e_sub hA rfl rfl (by omega) (by omega)
    have hpn : p < 8 * 4 := by omega
    have hquo : A.bin .quo .i64 (i : Int) 8 = ((i / 8 : Nat) : Int) := e_quo hA rfl rfl (by omega) (by omega) (by omega) (by omega)
    have hnext : A.bin .add .i64 (i : Int) 1 = ((i + 1 : Nat) : Int) := e_add hA rfl rfl (by omega) (by omega)
    have hq : i / 8 < 4 := by omega
    have hr8 : i % 8 < 8 := by omega
    have hrem : A.wrap .u64 (A.bin .mul .i64 8 (A.bin .rem .i64 (i : Int) 8)) = ((8 * (i % 8) : Nat) : Int) := wrap_small hA (e_mul hA rfl (e_rem hA rfl rfl (z := ((i % 8 : Nat) : Int)) (by omega) (by omega)) (by omega) (by omega)) (by omega)
    have hok : A.okb .shr (A.wrap .u64 (A.bin .mul .i64 8 (A.bin .rem .i64 (i : Int) 8))) = true := by rw [hrem]; exact (a_okbS hA (by omega)).1
    have hget := (rowx4 lim a).2 (i / 8) hq
    have hbw := byte_word hA hl a (i / 8) (i % 8) _ hr8 hrem
    have hput := wb_put4 hA (O i) (O (i + 1)) p hpn ((hB ▸ hbw).trans (by rw [hp, hO1 i h])) (by rw [hp]; exact hO2 i h)
    have hdec : 8 * 4 - (i + 1) < 8 * 4 - i := by omega
    have hle : i + 1 ≤ 8 * 4 := h
    obtain ⟨nx, hnx⟩ : ∃ nx, nx = i + 1 := ⟨_, rfl⟩
    rw [← hnx] at hnext hput hdec hle
    clear hO0 hOn hO1 hO2 hp hbw hr8 hrem
    generalize i / 8 = q at *
    cbv
    refine ABr.t hlt ?_
    cbv
    refine .sym q hquo hq ?_
    cbv
    refine .mk _ hget ?_
    cbv
    refine .mk hok ?_
    cbv
    refine .sym p hix hpn ?_
    cbv
    refine .mk _ hput ?_
    cbv
    refine ⟨nx, ?_, hle, hdec⟩
    cbv
    repeat' (first | exact hnext | exact trivial | exact rfl | constructor)
  · have hlt : A.cmp .lss (i : Int) ((8 * 4 : Nat) : Int) = false := (i_lt hA).trans (decide_eq_false (by omega))
    obtain rfl : i = 8 * 4 := by omega
    cbv
    refine ABr.f hlt ?_
    cbv
    exact ⟨hOn (8 * 4 - 1 - 31), hOn (8 * 4 - 1 - 30), hOn (8 * 4 - 1 - 29), hOn (8 * 4 - 1 - 28), hOn (8 * 4 - 1 - 27), hOn (8 * 4 - 1 - 26), hOn (8 * 4 - 1 - 25), hOn (8 * 4 - 1 - 24), hOn (8 * 4 - 1 - 23), hOn (8 * 4 - 1 - 22), hOn (8 * 4 - 1 - 21), hOn (8 * 4 - 1 - 20), hOn (8 * 4 - 1 - 19), hOn (8 * 4 - 1 - 18), hOn (8 * 4 - 1 - 17), hOn (8 * 4 - 1 - 16), hOn (8 * 4 - 1 - 15), hOn (8 * 4 - 1 - 14), hOn (8 * 4 - 1 - 13), hOn (8 * 4 - 1 - 12), hOn (8 * 4 - 1 - 11), hOn (8 * 4 - 1 - 10), hOn (8 * 4 - 1 - 9), hOn (8 * 4 - 1 - 8), hOn (8 * 4 - 1 - 7), hOn (8 * 4 - 1 - 6), hOn (8 * 4 - 1 - 5), hOn (8 * 4 - 1 - 4), hOn (8 * 4 - 1 - 3), hOn (8 * 4 - 1 - 2), hOn (8 * 4 - 1 - 1), hOn (8 * 4 - 1 - 0)⟩
theorem bytesS6 {lim : Lim} (hl : lim = limR) {B : Nat → Nat → Int} (hB : B = byteN) (a : Nat) : Sp 66 [u6 lim a] (.new false (8 * 6) 1 (by6 B a)) := by
  obtain ⟨O, hO⟩ : ∃ O : Nat → Nat → Int, O = fun i j => if 8 * 6 - i ≤ j then B a (8 * 6 - 1 - j) else 0 := ⟨_, rfl⟩
  have hO0 : ∀ j, j < 8 * 6 → O 0 j = 0 := fun j hj => by rw [hO]; exact if_neg (by omega)
  have hOn : ∀ j, O (8 * 6) j = B a (8 * 6 - 1 - j) := fun j => by rw [hO]; exact if_pos (by omega)
  have hO1 : ∀ i, i < 8 * 6 → O (i + 1) (8 * 6 - 1 - i) = B a (8 * (i / 8) + i % 8) := fun i hi => by
    rw [hO]
    show (if 8 * 6 - (i + 1) ≤ 8 * 6 - 1 - i then B a (8 * 6 - 1 - (8 * 6 - 1 - i)) else 0) = _
    rw [if_pos (by omega)]; congr 1; omega
  have hO2 : ∀ i, i < 8 * 6 → ∀ m, m ≠ 8 * 6 - 1 - i → O (i + 1) m = O i m := fun i hi m hm => by
    rw [hO]
    by_cases h : 8 * 6 - i ≤ m
    · exact (if_pos (by omega)).trans (if_pos h).symm
    · exact (if_neg (by omega)).trans (if_neg h).symm
  clear hO
  refine mk Try.func66 rfl rfl LN R0 (by decide +kernel) ?_
  intro A S hA hS
  unfold bodyOf Try.f66
  cbv
  refine .inv (α := Nat) (fun i => ⟨[.any, .own 0 0, .any, .i .i64 (8 * 6 : Nat), .osl false 1 0 (8 * 6) 1, .any, .any, .any, .any, .any, .any, .i .i64 (8 * 6 : Nat), .s .i64 (i : Nat), .any, .any, .any, .any, .any, .any, .any, .any, .any, .any, .any, .any, .any, .any, .any, .any, .any, .any, .any], [⟨true, true, ws6 lim a⟩, ⟨true, true, wb6 (O i)⟩]⟩) (fun i => i ≤ 8 * 6) (fun i => 8 * 6 - i) 0 ?_ (Nat.zero_le _) ?_
  · have h := fun j hj => (hO0 j hj).symm
    cbv
    repeat' (first | exact rfl | exact h _ (by decide) | exact trivial | constructor)
  intro i hi
  by_cases h : i < 8 * 6
  · have hlt : A.cmp .lss (i : Int) ((8 * 6 : Nat) : Int) = true := (i_lt hA).trans (decide_eq_true (by omega))
    obtain ⟨p, hp⟩ : ∃ p, p = 8 * 6 - 1 - i := ⟨_, rfl⟩
    have hix : A.bin .sub .i64 ((8 * 6 - 1 : Nat) : Int) (i : Int) = (p : Int) := e_sub hA rfl rfl (by omega) (by omega)
    have hpn : p < 8 * 6 := by omega
    have hquo : A.bin .quo .i64 (i : Int) 8 = ((i / 8 : Nat) : Int) := e_quo hA rfl rfl (by omega) (by omega) (by omega) (by omega)
    have hnext : A.bin .add .i64 (i : Int) 1 = ((i + 1 : Nat) : Int) := e_add hA rfl rfl (by omega) (by omega)
    have hq : i / 8 < 6 := by omega
    have hr8 : i % 8 < 8 := by omega
    have hrem : A.bin .mul .i64 8 (A.bin .rem .i64 (i : Int) 8) = ((8 * (i % 8) : Nat) : Int) := e_mul hA rfl (e_rem hA rfl rfl (z := ((i % 8 : Nat) : Int)) (by omega) (by omega)) (by omega) (by omega)
    have hok : A.okb .shr (A.bin .mul .i64 8 (A.bin .rem .i64 (i : Int) 8)) = true := by rw [hrem]; exact (a_okbS hA (by omega)).1
    have hget := ws_get6 hA lim a (i / 8) hq
    have hbw := byte_word hA hl a (i / 8) (i % 8) _ hr8 hrem
    have hput := wb_put6 hA (O i) (O (i + 1)) p hpn ((hB ▸ hbw).trans (by rw [hp, hO1 i h])) (by rw [hp]; exact hO2 i h)
    have hdec : 8 * 6 - (i + 1) < 8 * 6 - i := by omega
    have hle : i + 1 ≤ 8 * 6 := h
    obtain ⟨nx, hnx⟩ : ∃ nx, nx = i + 1 := ⟨_, rfl⟩
    rw [← hnx] at hnext hput hdec hle
    clear hO0 hOn hO1 hO2 hp hbw hr8 hrem
    generalize i / 8 = q at *
    cbv
    refine ABr.t hlt ?_
    cbv
    refine .sym q hquo hq ?_
    cbv
    refine .mk _ hget ?_
    cbv
    refine .mk hok ?_
    cbv
    refine .sym p hix hpn ?_
    cbv
    refine .mk _ hput ?_
    cbv
    refine ⟨nx, ?_, hle, hdec⟩
    cbv
    repeat' (first | exact hnext | exact trivial | exact rfl | constructor)
  · have hlt : A.cmp .lss (i : Int) ((8 * 6 : Nat) : Int) = false := (i_lt hA).trans (decide_eq_false (by omega))
    obtain rfl : i = 8 * 6 := by omega
    cbv
    refine ABr.f hlt ?_
    cbv
    exact ⟨hOn (8 * 6 - 1 - 47), hOn (8 * 6 - 1 - 46), hOn (8 * 6 - 1 - 45), hOn (8 * 6 - 1 - 44), hOn (8 * 6 - 1 - 43), hOn (8 * 6 - 1 - 42), hOn (8 * 6 - 1 - 41), hOn (8 * 6 - 1 - 40), hOn (8 * 6 - 1 - 39), hOn (8 * 6 - 1 - 38), hOn (8 * 6 - 1 - 37), hOn (8 * 6 - 1 - 36), hOn (8 * 6 - 1 - 35), hOn (8 * 6 - 1 - 34), hOn (8 * 6 - 1 - 33), hOn (8 * 6 - 1 - 32), hOn (8 * 6 - 1 - 31), hOn (8 * 6 - 1 - 30), hOn (8 * 6 - 1 - 29), hOn (8 * 6 - 1 - 28), hOn (8 * 6 - 1 - 27), hOn (8 * 6 - 1 - 26), hOn (8 * 6 - 1 - 25), hOn (8 * 6 - 1 - 24), hOn (8 * 6 - 1 - 23), hOn (8 * 6 - 1 - 22), hOn (8 * 6 - 1 - 21), hOn (8 * 6 - 1 - 20), hOn (8 * 6 - 1 - 19), hOn (8 * 6 - 1 - 18), hOn (8 * 6 - 1 - 17), hOn (8 * 6 - 1 - 16), hOn (8 * 6 - 1 - 15), hOn (8 * 6 - 1 - 14), hOn (8 * 6 - 1 - 13), hOn (8 * 6 - 1 - 12), hOn (8 * 6 - 1 - 11), hOn (8 * 6 - 1 - 10), hOn (8 * 6 - 1 - 9), hOn (8 * 6 - 1 - 8), hOn (8 * 6 - 1 - 7), hOn (8 * 6 - 1 - 6), hOn (8 * 6 - 1 - 5), hOn (8 * 6 - 1 - 4), hOn (8 * 6 - 1 - 3), hOn (8 * 6 - 1 - 2), hOn (8 * 6 - 1 - 1), hOn (8 * 6 - 1 - 0)⟩
theorem rBytesS6 {lim : Lim} (hl : lim = limR) {B : Nat → Nat → Int} (hB : B = byteN) (a : Nat) : Sp 65 [.lst false 6 (ws6 lim a)] (.new false (8 * 6) 1 (by6 B a)) := by
  obtain ⟨O, hO⟩ : ∃ O : Nat → Nat → Int, O = fun i j => if 8 * 6 - i ≤ j then B a (8 * 6 - 1 - j) else 0 := ⟨_, rfl⟩
  have hO0 : ∀ j, j < 8 * 6 → O 0 j = 0 := fun j hj => by rw [hO]; exact if_neg (by omega)
  have hOn : ∀ j, O (8 * 6) j = B a (8 * 6 - 1 - j) := fun j => by rw [hO]; exact if_pos (by omega)
  have hO1 : ∀ i, i < 8 * 6 → O (i + 1) (8 * 6 - 1 - i) = B a (8 * (i / 8) + i % 8) := fun i hi => by
    rw [hO]
    show (if 8 * 6 - (i + 1) ≤ 8 * 6 - 1 - i then B a (8 * 6 - 1 - (8 * 6 - 1 - i)) else 0) = _
    rw [if_pos (by omega)]; congr 1; omega
  have hO2 : ∀ i, i < 8 * 6 → ∀ m, m ≠ 8 * 6 - 1 - i → O (i + 1) m = O i m := fun i hi m hm => by
    rw [hO]
    by_cases h : 8 * 6 - i ≤ m
    · exact (if_pos (by omega)).trans (if_pos h).symm
    · exact (if_neg (by omega)).trans (if_neg h).symm
  clear hO
  refine mk Try.func65 rfl rfl LN R0 (by decide +kernel) ?_
  intro A S hA hS
  unfold bodyOf Try.f65
  cbv
  refine .inv (α := Nat) (fun i => ⟨[.lst false 6 (ws6 lim a), .any, .any, .i .i64 (8 * 6 : Nat), .osl false 0 0 (8 * 6) 1, .any, .any, .any, .any, .any, .any, .any, .i .i64 (8 * 6 : Nat), .s .i64 (i : Nat), .any, .any, .any, .any, .any, .any, .any, .any, .any, .any, .any, .any, .any, .any, .any, .any, .any, .any, .any, .any, .any], [⟨true, true, wb6 (O i)⟩]⟩) (fun i => i ≤ 8 * 6) (fun i => 8 * 6 - i) 0 ?_ (Nat.zero_le _) ?_
  · have h := fun j hj => (hO0 j hj).symm
    cbv
    repeat' (first | exact rfl | exact h _ (by decide) | exact trivial | constructor)
  intro i hi
  by_cases h : i < 8 * 6
  · have hlt : A.cmp .lss (i : Int) ((8 * 6 : Nat) : Int) = true := (i_lt hA).trans (decide_eq_true (by omega))
    obtain ⟨p, hp⟩ : ∃ p, p = 8 * 6 - 1 - i := ⟨_, rfl⟩
    have hix : A.bin .sub .i64 ((8 * 6 - 1 : Nat) : Int) (i : Int) = (p : Int) := e_sub hA rfl rfl (by omega) (by omega)
    have hpn : p < 8 * 6 := by omega
    have hquo : A.bin .quo .i64 (i : Int) 8 = ((i / 8 : Nat) : Int) := e_quo hA rfl rfl (by omega) (by omega) (by omega) (by omega)
    have hnext : A.bin .add .i64 (i : Int) 1 = ((i + 1 : Nat) : Int) := e_add hA rfl rfl (by omega) (by omega)
    have hq : i / 8 < 6 := by omega
    have hr8 : i % 8 < 8 := by omega
    have hrem : A.wrap .u64 (A.bin .mul .i64 8 (A.bin .rem .i64 (i : Int) 8)) = ((8 * (i % 8) : Nat) : Int) := wrap_small hA (e_mul hA rfl (e_rem hA rfl rfl (z := ((i % 8 : Nat) : Int)) (by omega) (by omega)) (by omega) (by omega)) (by omega)
    have hok : A.okb .shr (A.wrap .u64 (A.bin .mul .i64 8 (A.bin .rem .i64 (i : Int) 8))) = true := by rw [hrem]; exact (a_okbS hA (by omega)).1
    have hget := (rowx6 lim a).2 (i / 8) hq
    have hbw := byte_word hA hl a (i / 8) (i % 8) _ hr8 hrem
    have hput := wb_put6 hA (O i) (O (i + 1)) p hpn ((hB ▸ hbw).trans (by rw [hp, hO1 i h])) (by rw [hp]; exact hO2 i h)
    have hdec : 8 * 6 - (i + 1) < 8 * 6 - i := by omega
    have hle : i + 1 ≤ 8 * 6 := h
    obtain ⟨nx, hnx⟩ : ∃ nx, nx = i + 1 := ⟨_, rfl⟩
    rw [← hnx] at hnext hput hdec hle
    clear hO0 hOn hO1 hO2 hp hbw hr8 hrem
    generalize i / 8 = q at *
    cbv
    refine ABr.t hlt ?_
    cbv
    refine .sym q hquo hq ?_
    cbv
    refine .mk _ hget ?_
    cbv
    refine .mk hok ?_
    cbv
    refine .sym p hix hpn ?_
    cbv
    refine .mk _ hput ?_
    cbv
    refine ⟨nx, ?_, hle, hdec⟩
    cbv
    repeat' (first | exact hnext | exact trivial | exact rfl | constructor)
  · have hlt : A.cmp .lss (i : Int) ((8 * 6 : Nat) : Int) = false := (i_lt hA).trans (decide_eq_false (by omega))
    obtain rfl : i = 8 * 6 := by omega
    cbv
    refine ABr.f hlt ?_
    cbv
    exact ⟨hOn (8 * 6 - 1 - 47), hOn (8 * 6 - 1 - 46), hOn (8 * 6 - 1 - 45), hOn (8 * 6 - 1 - 44), hOn (8 * 6 - 1 - 43), hOn (8 * 6 - 1 - 42), hOn (8 * 6 - 1 - 41), hOn (8 * 6 - 1 - 40), hOn (8 * 6 - 1 - 39), hOn (8 * 6 - 1 - 38), hOn (8 * 6 - 1 - 37), hOn (8 * 6 - 1 - 36), hOn (8 * 6 - 1 - 35), hOn (8 * 6 - 1 - 34), hOn (8 * 6 - 1 - 33), hOn (8 * 6 - 1 - 32), hOn (8 * 6 - 1 - 31), hOn (8 * 6 - 1 - 30), hOn (8 * 6 - 1 - 29), hOn (8 * 6 - 1 - 28), hOn (8 * 6 - 1 - 27), hOn (8 * 6 - 1 - 26), hOn (8 * 6 - 1 - 25), hOn (8 * 6 - 1 - 24), hOn (8 * 6 - 1 - 23), hOn (8 * 6 - 1 - 22), hOn (8 * 6 - 1 - 21), hOn (8 * 6 - 1 - 20), hOn (8 * 6 - 1 - 19), hOn (8 * 6 - 1 - 18), hOn (8 * 6 - 1 - 17), hOn (8 * 6 - 1 - 16), hOn (8 * 6 - 1 - 15), hOn (8 * 6 - 1 - 14), hOn (8 * 6 - 1 - 13), hOn (8 * 6 - 1 - 12), hOn (8 * 6 - 1 - 11), hOn (8 * 6 - 1 - 10), hOn (8 * 6 - 1 - 9), hOn (8 * 6 - 1 - 8), hOn (8 * 6 - 1 - 7), hOn (8 * 6 - 1 - 6), hOn (8 * 6 - 1 - 5), hOn (8 * 6 - 1 - 4), hOn (8 * 6 - 1 - 3), hOn (8 * 6 - 1 - 2), hOn (8 * 6 - 1 - 1), hOn (8 * 6 - 1 - 0)⟩
theorem eqs_str {A : Ar} (hA : A = Ar.real) (s : ByteArray) : A.eqs [(.v (.string s), .v (.string s))] = true := by
  rw [eqs_real hA]
  show (leafEq (.v (.string s), .v (.string s)) && true) = true
  have : (s == s) = true := by first | exact beq_self_eq_true s | (obtain ⟨d⟩ := s; exact beq_self_eq_true d) | (exact decide_eq_true rfl)
  show ((s == s) && true) = true
  rw [this]; rfl
theorem eqs_bool {A : Ar} (hA : A = Ar.real) (s : Bool) : A.eqs [(.sb s, .sb s)] = true := by
  rw [eqs_real hA]; simp [leafEq]
end Go.Proofs.Ytlmlganfjnokiaa
