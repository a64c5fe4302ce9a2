import Derived.Test.YtkhipnhdbaahcaaQAGA
set_option linter.unusedVariables false
set_option linter.unusedSimpArgs false
set_option linter.unusedSectionVars false
set_option maxRecDepth 100000
section
namespace Gp
abbrev Mon := Nat → Nat
abbrev Pl := List (Bool × Mon)
def ngP : Pl → Pl
 | [] => []
 | t :: p => (!t.1, t.2) :: ngP p
def mulT (t : Bool × Mon) : Pl → Pl
 | [] => []
 | u :: q => (t.1 == u.1, fun i => t.2 i + u.2 i) :: mulT t q
def mulP : Pl → Pl → Pl
 | [], _ => []
 | t :: p, q => mulT t q ++ mulP p q
def PO : Op Pl := ⟨fun p q => p ++ q, fun p q => p ++ ngP q, mulP, [], [(true, fun _ => 0)]⟩
def vr (i : Nat) : Pl := [(true, fun j => if j = i then 1 else 0)]
section
variable {α : Type} (O : Op α)
def sg (s : Bool) (r : α) : α := match s with | true => r | false => O.sub O.zero r
def pw (r : α) : Nat → α
 | 0 => O.one
 | n + 1 => O.mul r (pw r n)
def mv (ρ : Nat → α) (m : Mon) : Nat → α
 | 0 => O.one
 | n + 1 => O.mul (mv ρ m n) (pw O (ρ n) (m n))
def pv (n : Nat) (ρ : Nat → α) : Pl → α
 | [] => O.zero
 | t :: p => O.add (sg O t.1 (mv O ρ t.2 n)) (pv n ρ p)
variable {O} (L : CR O)
include L
theorem pv_app (n : Nat) (ρ : Nat → α) (p q : Pl) : pv O n ρ (p ++ q) = O.add (pv O n ρ p) (pv O n ρ q) := by
 induction p with
 | nil => exact (L.zero_add _).symm
 | cons t p ih => simp only [List.cons_append, pv, ih, L.add_assoc]
theorem sg_not (s : Bool) (r : α) : sg O (!s) r = O.sub O.zero (sg O s r) := by
 cases s
 . exact (L.neg_neg r).symm
 . rfl
theorem sub_zero0 : O.sub O.zero O.zero = O.zero := L.sub_self _
theorem pv_neg (n : Nat) (ρ : Nat → α) (p : Pl) : pv O n ρ (ngP p) = O.sub O.zero (pv O n ρ p) := by
 induction p with
 | nil => exact (sub_zero0 L).symm
 | cons t p ih => simp only [ngP, pv, ih, sg_not L, L.neg_add]
theorem pw_add (r : α) (a b : Nat) : pw O r (a + b) = O.mul (pw O r a) (pw O r b) := by
 induction a with
 | zero => rw [Nat.zero_add]; exact (L.one_mul _).symm
 | succ a ih => rw [Nat.succ_add]; simp only [pw, ih, L.mul_assoc]
theorem mv_add (ρ : Nat → α) (m m' : Mon) (n : Nat) : mv O ρ (fun i => m i + m' i) n = O.mul (mv O ρ m n) (mv O ρ m' n) := by
 induction n with
 | zero => exact (L.one_mul _).symm
 | succ n ih => simp only [mv, ih, pw_add L, L.mul4]
theorem sg_mul (s t : Bool) (a b : α) : O.mul (sg O s a) (sg O t b) = sg O (s == t) (O.mul a b) := by
 cases s <;> cases t <;> simp only [sg, L.neg_mul, L.mul_neg, L.neg_neg] <;> rfl
theorem pv_mulT (n : Nat) (ρ : Nat → α) (t : Bool × Mon) (q : Pl) : pv O n ρ (mulT t q) = O.mul (sg O t.1 (mv O ρ t.2 n)) (pv O n ρ q) := by
 induction q with
 | nil => exact (L.mul_zero _).symm
 | cons u q ih => simp only [mulT, pv, ih, mv_add L, L.mul_add, sg_mul L]
theorem pv_mul (n : Nat) (ρ : Nat → α) (p q : Pl) : pv O n ρ (mulP p q) = O.mul (pv O n ρ p) (pv O n ρ q) := by
 induction p with
 | nil => exact (L.zero_mul _).symm
 | cons t p ih => simp only [mulP, pv_app L, pv_mulT L, pv, ih, L.add_mul]
theorem mv_zero (ρ : Nat → α) (m : Mon) (n : Nat) (h : ∀ i, i < n → m i = 0) : mv O ρ m n = O.one := by
 induction n with
 | zero => rfl
 | succ n ih => simp only [mv, ih (fun i hi => h i (by omega)), h n (by omega), pw, L.one_mul]
theorem pv_hom (n : Nat) (ρ : Nat → α) : Hom PO O (pv O n ρ) where
 add := pv_app L n ρ
 sub p q := by
   show pv O n ρ (p ++ ngP q) = _
   rw [pv_app L, pv_neg L, ← L.sub_eq]
 mul := pv_mul L n ρ
 zero := rfl
 one := by
   show O.add (mv O ρ (fun _ => 0) n) O.zero = O.one
   rw [mv_zero L ρ _ n (fun _ _ => rfl), L.add_zero]
theorem pv_vr (n : Nat) (ρ : Nat → α) (i : Nat) (hi : i < n) : pv O n ρ (vr i) = ρ i := by
 show O.add (mv O ρ (fun j => if j = i then 1 else 0) n) O.zero = _
 rw [L.add_zero]
 induction n with
 | zero => omega
 | succ n ih =>
   simp only [mv]
   by_cases h : n = i
   . subst h
     rw [if_pos rfl, mv_zero L ρ _ n (fun j hj => if_neg (by omega)), L.one_mul]
     show O.mul (ρ n) O.one = _
     rw [L.mul_comm, L.one_mul]
   . rw [if_neg h, ih (by omega)]
     show O.mul (ρ i) O.one = _
     rw [L.mul_comm, L.one_mul]
end
def zO : Op Int := ⟨(· + ·), (· - ·), (· * ·), 0, 1⟩
theorem zL : CR zO where
 add_comm := Int.add_comm
 add_assoc := Int.add_assoc
 zero_add := Int.zero_add
 sub_add := Int.sub_add_cancel
 mul_comm := Int.mul_comm
 mul_assoc := Int.mul_assoc
 one_mul := Int.one_mul
 mul_add := Int.mul_add
def kv (K : Int) : List (Bool × Nat) → Int
 | [] => 0
 | t :: l => sg zO t.1 (K ^ t.2) + kv K l
def kc (j : Nat) : List (Bool × Nat) → Int
 | [] => 0
 | t :: l => (if t.2 = j then sg zO t.1 1 else 0) + kc j l
def dn : List (Bool × Nat) → List (Bool × Nat)
 | [] => []
 | (s, 0) :: l => dn l
 | (s, c + 1) :: l => (s, c) :: dn l
theorem kv_dn (K : Int) (l : List (Bool × Nat)) : kv K l = kc 0 l + K * kv K (dn l) := by
 induction l with
 | nil => simp [kv, kc, dn]
 | cons t l ih =>
   obtain ⟨s, c⟩ := t
   cases c with
   | zero => cases s <;> simp only [kv, kc, dn, sg, zO, Int.pow_zero, if_true, ih] <;> omega
   | succ c =>
     have e : K ^ (c + 1) = K * K ^ c := by rw [Int.pow_succ, Int.mul_comm]
     cases s
     . simp only [kv, kc, dn, sg, zO, ih, e, Int.mul_add, Int.mul_sub]
       rw [if_neg (by omega)]
       omega
     . simp only [kv, kc, dn, sg, ih, e, Int.mul_add]
       rw [if_neg (by omega)]
       omega
theorem kc_dn (j : Nat) (l : List (Bool × Nat)) : kc (j + 1) l = kc j (dn l) := by
 induction l with
 | nil => rfl
 | cons t l ih =>
   obtain ⟨s, c⟩ := t
   cases c with
   | zero => simp only [kc, dn, ih]; rw [if_neg (by omega)]; omega
   | succ c => simp only [kc, dn, ih, Nat.add_right_cancel_iff]
theorem dn_len (l : List (Bool × Nat)) : (dn l).length ≤ l.length := by
 induction l with
 | nil => exact Nat.le_refl _
 | cons t l ih =>
   obtain ⟨s, c⟩ := t
   cases c <;> simp only [dn, List.length_cons] <;> omega
theorem kc_len (j : Nat) (l : List (Bool × Nat)) : -(l.length : Int) ≤ kc j l ∧ kc j l ≤ l.length := by
 induction l with
 | nil => exact ⟨Int.le_refl _, Int.le_refl _⟩
 | cons t l ih =>
   obtain ⟨s, c⟩ := t
   simp only [kc, List.length_cons]
   by_cases h : c = j
   . rw [if_pos h]; cases s <;> simp only [sg, zO] <;> omega
   . rw [if_neg h]; omega
theorem dn_mem {l : List (Bool × Nat)} {n : Nat} (h : ∀ t, t ∈ l → t.2 < n + 1) : ∀ t, t ∈ dn l → t.2 < n := by
 induction l with
 | nil => intro t ht; cases ht
 | cons u l ih =>
   obtain ⟨s, c⟩ := u
   have h0 := h (s, c) (List.mem_cons_self ..)
   have hl := ih fun t ht => h t (List.mem_cons_of_mem _ ht)
   cases c with
   | zero => exact hl
   | succ c =>
     intro t ht
     rcases List.mem_cons.1 ht with rfl | ht
     . simp only at h0 ⊢; omega
     . exact hl t ht
theorem kron (K : Nat) : ∀ (n : Nat) (l : List (Bool × Nat)), (∀ t, t ∈ l → t.2 < n) → l.length < K → kv K l = 0 → ∀ j, kc j l = 0 := by
 intro n
 induction n with
 | zero =>
   intro l hl _ _ j
   cases l with
   | nil => rfl
   | cons t l => exact absurd (hl t (List.mem_cons_self ..)) (by omega)
 | succ n ih =>
   intro l hl hK h0 j
   rw [kv_dn] at h0
   have hb := kc_len 0 l
   have hz : kc 0 l = 0 := by
     have hd : (K : Int) ∣ kc 0 l := ⟨-(kv K (dn l)), by rw [Int.mul_neg]; omega⟩
     apply Classical.byContradiction
     intro hne
     have h1 : K ∣ (kc 0 l).natAbs := Int.natAbs_dvd_natAbs.2 hd
     have := Nat.le_of_dvd (by omega) h1
     omega
   have hd0 : kv K (dn l) = 0 := by
     rw [hz, Int.zero_add] at h0
     rcases Int.mul_eq_zero.1 h0 with h | h
     . omega
     . exact h
   have := dn_len l
   have hr := ih (dn l) (dn_mem hl) (by omega) hd0
   cases j with
   | zero => exact hz
   | succ j => rw [kc_dn]; exact hr j
theorem kc_sign (j : Nat) (s : Bool) (l : List (Bool × Nat)) (h : ∀ t, t ∈ l → t.2 = j → t.1 = s) : 0 ≤ sg zO s (kc j l) := by
 induction l with
 | nil => cases s <;> exact Int.le_refl _
 | cons t l ih =>
   have ih := ih fun t ht => h t (List.mem_cons_of_mem _ ht)
   simp only [kc]
   by_cases hj : t.2 = j
   . rw [if_pos hj, h t (List.mem_cons_self ..) hj]
     cases s <;> simp only [sg, zO] at ih ⊢ <;> omega
   . rw [if_neg hj, Int.zero_add]; exact ih
theorem kc_app (j : Nat) (p q : List (Bool × Nat)) : kc j (p ++ q) = kc j p + kc j q := by
 induction p with
 | nil => simp [kc]
 | cons t p ih => simp only [List.cons_append, kc, ih]; omega
section
variable {α : Type} {O : Op α} (L : CR O)
include L
theorem pair_off (n : Nat) (ρ : Nat → α) (cd : Mon → Nat) : ∀ (k : Nat) (l : Pl), l.length ≤ k → (∀ t u, t ∈ l → u ∈ l → cd t.2 = cd u.2 → mv O ρ t.2 n = mv O ρ u.2 n) →
   (∀ j, kc j (l.map fun t => (t.1, cd t.2)) = 0) → pv O n ρ l = O.zero := by
 intro k
 induction k with
 | zero =>
   intro l hl _ _
   cases l with
   | nil => rfl
   | cons t l => exact absurd hl (by simp)
 | succ k ih =>
   intro l hl hv hz
   cases l with
   | nil => rfl
   | cons t l =>
     have h0 := hz (cd t.2)
     have hex : ∃ u, u ∈ l ∧ cd u.2 = cd t.2 ∧ u.1 = !t.1 := by
       apply Classical.byContradiction
       intro hno
       have hs := kc_sign (cd t.2) t.1 (l.map fun t => (t.1, cd t.2)) (by
         intro u hu hc
         obtain ⟨w, hw, rfl⟩ := List.mem_map.1 hu
         apply Classical.byContradiction
         intro hne
         exact hno ⟨w, hw, hc, by cases h1 : w.1 <;> cases h2 : t.1 <;> simp_all⟩)
       simp only [List.map_cons, kc, if_true] at h0
       revert hs h0
       cases t.1 <;> simp only [sg, zO] <;> omega
     obtain ⟨u, hu, hc, hs⟩ := hex
     obtain ⟨p, q, rfl⟩ := List.append_of_mem hu
     have hr := ih (p ++ q) (by simp only [List.length_cons, List.length_append] at hl ⊢; omega)
       (fun a b ha hb => hv a b (by simp only [List.mem_cons, List.mem_append] at ha ⊢; rcases ha with h | h <;> simp [h]) (by simp only [List.mem_cons, List.mem_append] at hb ⊢; rcases hb with h | h <;> simp [h]))
       (fun j => by
         have := hz j
         simp only [List.map_cons, List.map_append, kc, kc_app] at this ⊢
         rw [hc, hs] at this
         by_cases hj : cd t.2 = j
         . rw [if_pos hj, if_pos hj] at this
           revert this
           cases t.1 <;> simp only [sg, zO, Bool.not_true, Bool.not_false] <;> omega
         . rw [if_neg hj, if_neg hj] at this
           omega)
     have hval := hv t u (List.mem_cons_self ..) (by simp) hc.symm
     simp only [pv, pv_app L] at hr ⊢
     rw [hs, sg_not L, ← hval]
     generalize sg O t.1 (mv O ρ t.2 n) = x
     generalize pv O n ρ p = y at *
     generalize pv O n ρ q = z at *
     have e : O.add x (O.add y (O.add (O.sub O.zero x) z)) = O.add (O.add (O.sub O.zero x) x) (O.add y z) := by
       rw [← L.add_assoc x y, L.add4, L.add_comm x]
     rw [e, L.sub_add, L.zero_add, hr]
end
end Gp
end
section
namespace Gp
def strd (δ : Nat → Nat) : Nat → Nat
 | 0 => 1
 | i + 1 => strd δ i * (δ i + 1)
def code (s : Nat → Nat) (m : Mon) : Nat → Nat
 | 0 => 0
 | n + 1 => code s m n + s n * m n
theorem code_lt (δ : Nat → Nat) (m : Mon) : ∀ n, (∀ i, i < n → m i ≤ δ i) → code (strd δ) m n < strd δ n := by
 intro n
 induction n with
 | zero => intro _; exact Nat.zero_lt_one
 | succ n ih =>
   intro h
   have h1 := ih fun i hi => h i (by omega)
   have h2 : strd δ n * m n ≤ strd δ n * δ n := Nat.mul_le_mul_left _ (h n (by omega))
   simp only [code, strd, Nat.mul_add, Nat.mul_one]
   omega
theorem code_inj (δ : Nat → Nat) (m m' : Mon) : ∀ n, (∀ i, i < n → m i ≤ δ i) → (∀ i, i < n → m' i ≤ δ i) → code (strd δ) m n = code (strd δ) m' n → ∀ i, i < n → m i = m' i := by
 intro n
 induction n with
 | zero => intro _ _ _ i hi; omega
 | succ n ih =>
   intro h h' hc i hi
   have b1 := code_lt δ m n fun i hi => h i (by omega)
   have b2 := code_lt δ m' n fun i hi => h' i (by omega)
   simp only [code] at hc
   have e1 : m n = m' n := by
     have this : (code (strd δ) m n + strd δ n * m n) / strd δ n = (code (strd δ) m' n + strd δ n * m' n) / strd δ n := by rw [hc]
     rwa [Nat.add_mul_div_left _ _ (by omega), Nat.add_mul_div_left _ _ (by omega), Nat.div_eq_of_lt b1, Nat.div_eq_of_lt b2, Nat.zero_add, Nat.zero_add] at this
   rw [e1] at hc
   by_cases hin : i = n
   . rw [hin]; exact e1
   . exact ih (fun i hi => h i (by omega)) (fun i hi => h' i (by omega)) (by omega) i (by omega)
theorem pw_z (r : Int) (n : Nat) : pw zO r n = r ^ n := by
 induction n with
 | zero => exact (Int.pow_zero r).symm
 | succ n ih => rw [pw, ih, Int.pow_succ, Int.mul_comm]; rfl
theorem mv_code (K : Int) (s : Nat → Nat) (m : Mon) (n : Nat) : mv zO (fun i => K ^ s i) m n = K ^ code s m n := by
 induction n with
 | zero => exact (Int.pow_zero K).symm
 | succ n ih =>
   rw [mv, ih, pw_z, code, Int.pow_add, Int.pow_mul]
   rfl
theorem mv_congr {α : Type} (O : Op α) (ρ : Nat → α) (m m' : Mon) : ∀ n, (∀ i, i < n → m i = m' i) → mv O ρ m n = mv O ρ m' n := by
 intro n
 induction n with
 | zero => intro _; rfl
 | succ n ih => intro h; rw [mv, mv, ih (fun i hi => h i (by omega)), h n (by omega)]
theorem pv_kv (K : Int) (s : Nat → Nat) (n : Nat) (p : Pl) : kv K (p.map fun t => (t.1, code s t.2 n)) = pv zO n (fun i => K ^ s i) p := by
 induction p with
 | nil => rfl
 | cons t p ih => simp only [List.map_cons, kv, pv, ih, mv_code]; rfl
theorem kill {α : Type} {O : Op α} (L : CR O) (n : Nat) (δ : Nat → Nat) (K : Nat) (p : Pl) (hδ : ∀ t, t ∈ p → ∀ i, i < n → t.2 i ≤ δ i) (hK : p.length < K) (h0 : pv zO n (fun i => (K : Int) ^ strd δ i) p = 0) (ρ : Nat → α) :
   pv O n ρ p = O.zero := by
 refine pair_off L n ρ (fun m => code (strd δ) m n) p.length p (Nat.le_refl _) (fun t u ht hu hc => mv_congr O ρ _ _ n (code_inj δ _ _ n (hδ t ht) (hδ u hu) hc)) ?_
 rw [← pv_kv] at h0
 exact kron K (strd δ n) _ (fun t ht => by obtain ⟨u, hu, rfl⟩ := List.mem_map.1 ht; exact code_lt δ _ n (hδ u hu)) (by rw [List.length_map]; exact hK) h0
def cE (i : Nat) : E := .a (.m (.m (.v i) (.v i)) (.v i)) (.v 3)
section
variable {α : Type} (O : Op α) (x : Nat → α)
abbrev Q1 := quad O ((cE 0).ev O x)
abbrev Q2 := quad (Q1 O x) ((cE 1).ev O x, O.zero)
abbrev Q3 := quad (Q2 O x) (((cE 2).ev O x, O.zero), (O.zero, O.zero))
def gen (i : Nat) : ((α × α) × (α × α)) × ((α × α) × (α × α)) :=
 if i < 12 then (((x i, O.zero), (O.zero, O.zero)), ((O.zero, O.zero), (O.zero, O.zero)))
 else if i = 12 then (((O.zero, O.one), (O.zero, O.zero)), ((O.zero, O.zero), (O.zero, O.zero)))
 else if i = 13 then (((O.zero, O.zero), (O.one, O.zero)), ((O.zero, O.zero), (O.zero, O.zero)))
 else if i = 14 then (((O.zero, O.zero), (O.zero, O.zero)), ((O.one, O.zero), (O.zero, O.zero)))
 else (((O.zero, O.zero), (O.zero, O.zero)), ((O.zero, O.zero), (O.zero, O.zero)))
end
def wt (i j : Nat) : Int := if j < 12 then (if j = i then 2 else 0) else if j < 15 then (if j = 12 + i then 3 else if i = 3 then 1 else 0) else 0
def nw (j : Nat) : Nat := if j < 12 then 1 else if j < 15 then 2 else 0
def Dg (i : Nat) (p : Pl) (d : Int) : Prop := ∀ t, t ∈ p → 2 * (t.2 i : Int) ≤ d
theorem ngP_mem {t : Bool × Mon} {p : Pl} (h : t ∈ ngP p) : ∃ u, u ∈ p ∧ t.2 = u.2 := by
 induction p with
 | nil => cases h
 | cons u p ih =>
   rcases List.mem_cons.1 h with rfl | h
   . exact ⟨u, List.mem_cons_self .., rfl⟩
   . obtain ⟨w, hw, e⟩ := ih h; exact ⟨w, List.mem_cons_of_mem _ hw, e⟩
theorem mulT_mem {t u : Bool × Mon} {p : Pl} (h : t ∈ mulT u p) : ∃ w, w ∈ p ∧ t.2 = fun i => u.2 i + w.2 i := by
 induction p with
 | nil => cases h
 | cons w p ih =>
   rcases List.mem_cons.1 h with rfl | h
   . exact ⟨w, List.mem_cons_self .., rfl⟩
   . obtain ⟨w, hw, e⟩ := ih h; exact ⟨w, List.mem_cons_of_mem _ hw, e⟩
theorem mulP_mem {t : Bool × Mon} {p q : Pl} (h : t ∈ mulP p q) : ∃ u w, u ∈ p ∧ w ∈ q ∧ t.2 = fun i => u.2 i + w.2 i := by
 induction p with
 | nil => cases h
 | cons u p ih =>
   rcases List.mem_append.1 h with h | h
   . obtain ⟨w, hw, e⟩ := mulT_mem h; exact ⟨u, w, List.mem_cons_self .., hw, e⟩
   . obtain ⟨a, w, ha, hw, e⟩ := ih h; exact ⟨a, w, List.mem_cons_of_mem _ ha, hw, e⟩
theorem Dg.gr (i : Nat) : Gr PO (Dg i) where
 add a b d ha hb t ht := by
   rcases List.mem_append.1 ht with h | h
   . exact ha t h
   . exact hb t h
 sub a b d ha hb t ht := by
   rcases List.mem_append.1 ht with h | h
   . exact ha t h
   . obtain ⟨u, hu, e⟩ := ngP_mem h; rw [e]; exact hb u hu
 mul a b d e ha hb t ht := by
   obtain ⟨u, w, hu, hw, e⟩ := mulP_mem ht
   have := ha u hu
   have := hb w hw
   rw [e]
   simp only
   omega
 zero d t ht := by cases ht
 one t ht := by
   rcases List.mem_cons.1 ht with rfl | h
   . simp
   . cases h
 mono a d e ha hd t ht := Int.le_trans (ha t ht) hd
theorem Dg.vr (i j : Nat) : Dg i (vr j) (if j = i then 2 else 0) := by
 intro t ht
 rcases List.mem_cons.1 ht with rfl | h
 . simp only
   by_cases h : j = i
   . rw [if_pos h, if_pos h.symm]; decide
   . rw [if_neg h, if_neg (fun e => h e.symm)]; decide
 . cases h
theorem Nm.len : Nm PO List.length where
 add a b := by show (a ++ b).length ≤ _; rw [List.length_append]; exact Nat.le_refl _
 sub a b := by
   show (a ++ ngP b).length ≤ _
   have : (ngP b).length = b.length := by induction b with | nil => rfl | cons t b ih => simp only [ngP, List.length_cons, ih]
   rw [List.length_append, this]
   exact Nat.le_refl _
 mul a b := by
   show (mulP a b).length ≤ _
   have h1 : ∀ (t : Bool × Mon) (q : Pl), (mulT t q).length = q.length := by intro t q; induction q with | nil => rfl | cons u q ih => simp only [mulT, List.length_cons, ih]
   have : (mulP a b).length = a.length * b.length := by
     induction a with
     | nil => simp [mulP]
     | cons t a ih => simp only [mulP, List.length_append, h1, ih, List.length_cons, Nat.add_mul]; omega
   rw [this]
   exact Nat.le_refl _
 zero := rfl
 one := Nat.le_refl _
theorem Dg.f (i j : Nat) (hj : j < 3) : Dg i ((cE j).ev PO Gp.vr) (2 * wt i (12 + j)) := by
 have h := (Dg.gr i).ev (Dg.vr i) (cE j)
 refine (Dg.gr i).mono _ _ _ h ?_
 simp only [cE, E.dg, wt]
 rw [if_neg (show ¬ 12 + j < 12 by omega), if_pos (show 12 + j < 15 by omega)]
 refine Int.max_le.2 ⟨?_, ?_⟩
 all_goals repeat' split
 all_goals omega
def zr8 {α : Type} (z : α) : ((α × α) × (α × α)) × ((α × α) × (α × α)) := (((z, z), (z, z)), ((z, z), (z, z)))
def kg (δ : Nat → Nat) (K : Nat) (i : Nat) : Int := (K : Int) ^ strd δ i
theorem vanish {α : Type} {O : Op α} (L : CR O) (e : E) (δ : Nat → Nat) (K : Nat) (hd : ∀ i, i < 12 → e.dg (wt i) ≤ 2 * (δ i : Int) + 1) (hn : e.nm nw < K)
   (hz : e.ev (Q3 zO (kg δ K)) (gen zO (kg δ K)) = zr8 0) (l : List α) (hl : l.length ≤ 15)
   (h1 : O.mul (l.getD 12 O.zero) (l.getD 12 O.zero) = (cE 0).ev O (fun i => l.getD i O.zero)) (h2 : O.mul (l.getD 13 O.zero) (l.getD 13 O.zero) = (cE 1).ev O (fun i => l.getD i O.zero))
   (h3 : O.mul (l.getD 14 O.zero) (l.getD 14 O.zero) = (cE 2).ev O (fun i => l.getD i O.zero)) : e.ev O (fun i => l.getD i O.zero) = O.zero := by
 obtain ⟨ρ, hρ⟩ : ∃ ρ : Nat → α, ρ = fun i => l.getD i O.zero := ⟨_, rfl⟩
 rw [← hρ]
 rw [← hρ] at h1 h2 h3
 have q1 : l.getD 12 O.zero = ρ 12 := by rw [hρ]
 have q2 : l.getD 13 O.zero = ρ 13 := by rw [hρ]
 have q3 : l.getD 14 O.zero = ρ 14 := by rw [hρ]
 have q4 : ∀ i, 15 ≤ i → ρ i = O.zero := fun i hi => by
   rw [hρ]
   show l.getD i O.zero = _
   rw [List.getD_eq_getElem?_getD, List.getElem?_eq_none (by omega)]; rfl
 rw [q1] at h1
 rw [q2] at h2
 rw [q3] at h3
 clear q1 q2 q3 hρ hl
 have c0 := pv_hom L 12 ρ
 have fv : ∀ j, j < 3 → pv O 12 ρ ((cE j).ev PO vr) = (cE j).ev O ρ := fun j hj => by
   rw [c0.ev]
   simp only [cE, E.ev, pv_vr L 12 ρ j (by omega), pv_vr L 12 ρ 3 (by omega)]
 have c1 := c0.quad L ((cE 0).ev PO vr) (ρ 12) (by rw [fv 0 (by omega)]; exact h1)
 have c2 := c1.quad L ((cE 1).ev PO vr, PO.zero) (ρ 13) (by
   show _ = O.add _ (O.mul _ O.zero)
   rw [L.mul_zero, L.add_zero, fv 1 (by omega)]; exact h2)
 have c3 := c2.quad L (((cE 2).ev PO vr, PO.zero), (PO.zero, PO.zero)) (ρ 14) (by
   show _ = O.add (O.add _ (O.mul _ O.zero)) (O.mul _ (O.add O.zero (O.mul _ O.zero)))
   simp only [L.mul_zero, L.add_zero]
   rw [fv 2 (by omega)]; exact h3)
 have k0 := pv_hom zL 12 (kg δ K)
 have fz : ∀ j, j < 3 → pv zO 12 (kg δ K) ((cE j).ev PO vr) = (cE j).ev zO (kg δ K) := fun j hj => by
   rw [k0.ev]
   simp only [cE, E.ev, pv_vr zL 12 (kg δ K) j (by omega), pv_vr zL 12 (kg δ K) 3 (by omega)]
 have k1 := k0.map ((cE 0).ev PO vr)
 rw [fz 0 (by omega)] at k1
 have k2 := k1.map ((cE 1).ev PO vr, PO.zero)
 rw [fz 1 (by omega)] at k2
 have k3 := k2.map (((cE 2).ev PO vr, PO.zero), (PO.zero, PO.zero))
 rw [fz 2 (by omega)] at k3
 have g3 := fun i => (((Dg.gr i).quad _ _ (Dg.f i 0 (by omega))).quad ((cE 1).ev PO vr, PO.zero) (wt i (12 + 1)) ⟨Dg.f i 1 (by omega), (Dg.gr i).zero _⟩).quad (((cE 2).ev PO vr, PO.zero), (PO.zero, PO.zero)) (wt i (12 + 2))
   ⟨⟨Dg.f i 2 (by omega), (Dg.gr i).zero _⟩, (Dg.gr i).zero _, (Dg.gr i).zero _⟩
 have n3 := ((Nm.len.quad ((cE 0).ev PO vr) (by decide)).quad ((cE 1).ev PO vr, PO.zero) (by decide)).quad (((cE 2).ev PO vr, PO.zero), (PO.zero, PO.zero)) (by decide)
 obtain ⟨X, hX⟩ : ∃ X, X = e.ev (Q3 PO vr) (gen PO vr) := ⟨_, rfl⟩
 have hv := c3.ev (gen PO vr) e
 have hk := k3.ev (gen PO vr) e
 have hg := fun i => (g3 i).ev (ρ := gen PO vr) (w := wt i) (fun j => by
   have z := (Dg.gr i).zero
   unfold gen
   split
   . refine ⟨⟨⟨?_, z _⟩, z _, z _⟩, ⟨z _, z _⟩, z _, z _⟩
     rename_i h
     unfold wt
     rw [if_pos h]
     exact Dg.vr i j
   split
   . rename_i h; subst h
     refine ⟨⟨⟨z _, ?_⟩, z _, z _⟩, ⟨z _, z _⟩, z _, z _⟩
     exact (Dg.gr i).mono _ _ _ (Dg.gr i).one (by simp)
   split
   . rename_i h; subst h
     refine ⟨⟨⟨z _, z _⟩, ?_, z _⟩, ⟨z _, z _⟩, z _, z _⟩
     exact (Dg.gr i).mono _ _ _ (Dg.gr i).one (by simp)
   split
   . rename_i h; subst h
     refine ⟨⟨⟨z _, z _⟩, z _, z _⟩, ⟨?_, z _⟩, z _, z _⟩
     exact (Dg.gr i).mono _ _ _ (Dg.gr i).one (by simp)
   . exact ⟨⟨⟨z _, z _⟩, z _, z _⟩, ⟨z _, z _⟩, z _, z _⟩) e
 have hm := n3.ev (ρ := gen PO vr) (w := nw) (fun j => by
   unfold gen nw
   split
   . exact Nat.le_refl 1
   split
   . rename_i h; subst h; decide
   split
   . rename_i h; subst h; decide
   split
   . rename_i h; subst h; decide
   . exact Nat.zero_le _) e
 have r1 : (fun i => (fun x => O.add (O.add (O.add (pv O 12 ρ x.1.1.1) (O.mul (ρ 12) (pv O 12 ρ x.1.1.2))) (O.mul (ρ 13) (O.add (pv O 12 ρ x.1.2.1) (O.mul (ρ 12) (pv O 12 ρ x.1.2.2)))))
     (O.mul (ρ 14) (O.add (O.add (pv O 12 ρ x.2.1.1) (O.mul (ρ 12) (pv O 12 ρ x.2.1.2))) (O.mul (ρ 13) (O.add (pv O 12 ρ x.2.2.1) (O.mul (ρ 12) (pv O 12 ρ x.2.2.2))))))) (gen PO vr i)) = ρ := by
   funext i
   have z : pv O 12 ρ PO.zero = O.zero := c0.zero
   have o : pv O 12 ρ PO.one = O.one := c0.one
   have mo : ∀ a, O.mul a O.one = a := fun a => by rw [L.mul_comm, L.one_mul]
   unfold gen
   split
   . rename_i h
     simp only [z, pv_vr L 12 ρ i h, L.mul_zero, L.add_zero]
   split
   . rename_i h; subst h
     simp only [z, o, mo, L.mul_zero, L.add_zero, L.zero_add]
   split
   . rename_i h; subst h
     simp only [z, o, mo, L.mul_zero, L.add_zero, L.zero_add]
   split
   . rename_i h; subst h
     simp only [z, o, mo, L.mul_zero, L.add_zero, L.zero_add]
   . rw [q4 i (by omega)]
     simp only [z, L.mul_zero, L.add_zero]
 have r2 : (fun i => (fun x : ((Pl × Pl) × (Pl × Pl)) × ((Pl × Pl) × (Pl × Pl)) => (((pv zO 12 (kg δ K) x.1.1.1, pv zO 12 (kg δ K) x.1.1.2), (pv zO 12 (kg δ K) x.1.2.1, pv zO 12 (kg δ K) x.1.2.2)),
     ((pv zO 12 (kg δ K) x.2.1.1, pv zO 12 (kg δ K) x.2.1.2), (pv zO 12 (kg δ K) x.2.2.1, pv zO 12 (kg δ K) x.2.2.2)))) (gen PO vr i)) = gen zO (kg δ K) := by
   funext i
   have z : pv zO 12 (kg δ K) PO.zero = zO.zero := k0.zero
   have o : pv zO 12 (kg δ K) PO.one = zO.one := k0.one
   unfold gen
   split
   . rename_i h
     simp only [z, pv_vr zL 12 (kg δ K) i h]
   split
   . simp only [z, o]
   split
   . simp only [z, o]
   split
   . simp only [z, o]
   . simp only [z]
 replace hv := hv.trans (congrArg (fun r => e.ev O r) r1)
 replace hk := hk.trans ((congrArg (fun r => e.ev (Q3 zO (kg δ K)) r) r2).trans hz)
 rw [← hv]
 change (((pv zO 12 (kg δ K) (e.ev (Q3 PO vr) (gen PO vr)).1.1.1, _), (_, _)), ((_, _), (_, _))) = _ at hk
 rw [← hX] at hk hm hg ⊢
 simp only [zr8, Prod.mk.injEq] at hk
 obtain ⟨⟨⟨a1, a2⟩, a3, a4⟩, ⟨a5, a6⟩, a7, a8⟩ := hk
 have wp : ∀ i j, 0 ≤ wt i j := fun i j => by unfold wt; repeat' split
                                              all_goals decide
 have fin : ∀ p : Pl, p.length < K → (∀ i, i < 12 → Dg i p (e.dg (wt i))) → pv zO 12 (kg δ K) p = 0 → pv O 12 ρ p = O.zero := by
   intro p hp hb h0
   refine kill L 12 δ K p (fun t ht i hi => ?_) hp h0 ρ
   have := hb i hi t ht
   have := hd i hi
   omega
 have up : ∀ i (p : Pl) d w, 0 ≤ w → Dg i p (d - w) → Dg i p d := fun i p d w hw h => (Dg.gr i).mono _ _ _ h (by omega)
 have b1 := fin X.1.1.1 (by omega) (fun i _ => (hg i).1.1.1) a1
 have b2 := fin X.1.1.2 (by omega) (fun i _ => up _ _ _ _ (wp _ _) (hg i).1.1.2) a2
 have b3 := fin X.1.2.1 (by omega) (fun i _ => up _ _ _ _ (wp _ _) (hg i).1.2.1) a3
 have b4 := fin X.1.2.2 (by omega) (fun i _ => up _ _ _ _ (wp _ _) (up _ _ _ _ (wp _ _) (hg i).1.2.2)) a4
 have b5 := fin X.2.1.1 (by omega) (fun i _ => up _ _ _ _ (wp _ _) (hg i).2.1.1) a5
 have b6 := fin X.2.1.2 (by omega) (fun i _ => up _ _ _ _ (wp _ _) (up _ _ _ _ (wp _ _) (hg i).2.1.2)) a6
 have b7 := fin X.2.2.1 (by omega) (fun i _ => up _ _ _ _ (wp _ _) (up _ _ _ _ (wp _ _) (hg i).2.2.1)) a7
 have b8 := fin X.2.2.2 (by omega) (fun i _ => up _ _ _ _ (wp _ _) (up _ _ _ _ (wp _ _) (up _ _ _ _ (wp _ _) (hg i).2.2.2))) a8
 simp only [b1, b2, b3, b4, b5, b6, b7, b8, L.mul_zero, L.add_zero]
end Gp
end
section
namespace Gp
def E.dl (e : E) (i : Nat) : Nat := (e.dg (wt i)).toNat / 2
def E.kk (e : E) : Nat := e.nm nw + 1
def E.chk (e : E) : Bool := decide (e.ev (Q3 zO (kg e.dl e.kk)) (gen zO (kg e.dl e.kk)) = zr8 0)
def vals {α : Type} (O : Op α) (x1 y1 x2 y2 x3 y3 b : α) (i : Nat) : α := [x1, x2, x3, b, O.zero, O.zero, O.zero, O.zero, O.zero, O.zero, O.zero, O.zero, y1, y2, y3].getD i O.zero
def val0 {α : Type} (O : Op α) (a0 a1 a2 a3 a4 a5 a6 a7 : α) (i : Nat) : α := [O.zero, O.zero, O.zero, O.zero, a0, a1, a2, a3, a4, a5, a6, a7].getD i O.zero
section
variable {α : Type} {O : Op α} (L : CR O)
include L
theorem van {e : E} (h : e.chk = true) {x1 y1 x2 y2 x3 y3 b : α} (h1 : O.mul y1 y1 = O.add (O.mul (O.mul x1 x1) x1) b) (h2 : O.mul y2 y2 = O.add (O.mul (O.mul x2 x2) x2) b) (h3 : O.mul y3 y3 = O.add (O.mul (O.mul x3 x3) x3) b) :
   e.ev O (vals O x1 y1 x2 y2 x3 y3 b) = O.zero :=
 vanish L e e.dl e.kk (fun i _ => by unfold E.dl; omega) (Nat.lt_succ_self _) (of_decide_eq_true h) [x1, x2, x3, b, O.zero, O.zero, O.zero, O.zero, O.zero, O.zero, O.zero, O.zero, y1, y2, y3] (Nat.le_refl 15) h1 h2 h3
theorem van0 {e : E} (h : e.chk = true) (a0 a1 a2 a3 a4 a5 a6 a7 : α) : e.ev O (val0 O a0 a1 a2 a3 a4 a5 a6 a7) = O.zero := by
 have h0 : O.mul O.zero O.zero = O.add (O.mul (O.mul O.zero O.zero) O.zero) O.zero := by simp only [L.mul_zero, L.zero_add]
 exact vanish L e e.dl e.kk (fun i _ => by unfold E.dl; omega) (Nat.lt_succ_self _) (of_decide_eq_true h) [O.zero, O.zero, O.zero, O.zero, a0, a1, a2, a3, a4, a5, a6, a7] (show 12 ≤ 15 by decide) h0 h0 h0
end
structure T3 (α : Type) where
 x : α
 y : α
 z : α
section
variable {α : Type} (O : Op α)
def thr (b : α) : α := O.add (O.add b b) b
def rc (b : α) (p q : T3 α) : T3 α :=
 let b3 := thr O b
 let xy := O.add (O.mul p.x q.y) (O.mul q.x p.y)
 let yz := O.add (O.mul p.y q.z) (O.mul q.y p.z)
 let xz := O.add (O.mul p.x q.z) (O.mul q.x p.z)
 let yy := O.mul p.y q.y
 let zz := O.mul b3 (O.mul p.z q.z)
 let xx := O.mul p.x q.x
 ⟨O.sub (O.mul xy (O.sub yy zz)) (O.mul b3 (O.mul yz xz)), O.add (O.mul (O.add yy zz) (O.sub yy zz)) (O.mul (thr O b3) (O.mul xx xz)), O.add (O.mul yz (O.add yy zz)) (O.mul (thr O xx) xy)⟩
end
def eO : Op E := ⟨.a, .s, .m, .s .o .o, .o⟩
abbrev x1 := E.v 0
abbrev x2 := E.v 1
abbrev x3 := E.v 2
abbrev bb := E.v 3
abbrev y1 := E.v 12
abbrev y2 := E.v 13
abbrev y3 := E.v 14
def eA : T3 E := rc eO bb (rc eO bb ⟨x1, y1, .o⟩ ⟨x2, y2, .o⟩) ⟨x3, y3, .o⟩
def eB : T3 E := rc eO bb ⟨x1, y1, .o⟩ (rc eO bb ⟨x2, y2, .o⟩ ⟨x3, y3, .o⟩)
theorem chk_xz : (E.s (.m eA.x eB.z) (.m eB.x eA.z)).chk = true := by decide +kernel
theorem chk_yz : (E.s (.m eA.y eB.z) (.m eB.y eA.z)).chk = true := by decide +kernel
def nn (y1 y2 : E) : E := .s y2 y1
def dd : E := .s x2 x1
def eU (y1 y2 : E) : E := .s (.m (nn y1 y2) (nn y1 y2)) (.m (.a x1 x2) (.m dd dd))
def eV (y1 y2 : E) : E := .s (.m (nn y1 y2) (.s (.m x1 (.m dd dd)) (eU y1 y2))) (.m y1 (.m dd (.m dd dd)))
def eS : T3 E := rc eO bb ⟨x1, y1, .o⟩ ⟨x2, y2, .o⟩
def neg (e : E) : E := .s (.s .o .o) e
theorem chk_c1 : (E.s (.m eS.x (.m dd dd)) (.m eS.z (eU y1 y2))).chk = true := by decide +kernel
theorem chk_c2 : (E.s (.m eS.y (.m dd (.m dd dd))) (.m eS.z (eV y1 y2))).chk = true := by decide +kernel
theorem chk_c3 : (E.s eS.z (eV y1 (neg y2))).chk = true := by decide +kernel
theorem chk_c4 : (E.s (.m (eV y1 y2) (eV y1 y2)) (.a (.m (.m (eU y1 y2) (eU y1 y2)) (eU y1 y2)) (.m bb (.m (.m dd (.m dd dd)) (.m dd (.m dd dd)))))).chk = true := by decide +kernel
def tt : E := .a y1 y1
def ee : E := .a (.a (.m x1 x1) (.m x1 x1)) (.m x1 x1)
def eU2 : E := .s (.m ee ee) (.m (.a x1 x1) (.m tt tt))
def eV2 : E := .s (.m ee (.s (.m x1 (.m tt tt)) eU2)) (.m y1 (.m tt (.m tt tt)))
def eD : T3 E := rc eO bb ⟨x1, y1, .o⟩ ⟨x1, y1, .o⟩
def eN : T3 E := rc eO bb ⟨x1, y1, .o⟩ ⟨x1, neg y1, .o⟩
theorem chk_t1 : (E.s (.m eD.x (.m tt tt)) (.m eD.z eU2)).chk = true := by decide +kernel
theorem chk_t2 : (E.s (.m eD.y (.m tt (.m tt tt))) (.m eD.z eV2)).chk = true := by decide +kernel
theorem chk_t3 : (E.s eD.z (.m tt (.m tt tt))).chk = true := by decide +kernel
theorem chk_t4 : (E.s (.m eV2 eV2) (.a (.m (.m eU2 eU2) eU2) (.m bb (.m (.m tt (.m tt tt)) (.m tt (.m tt tt)))))).chk = true := by decide +kernel
theorem chk_n1 : eN.x.chk = true := by decide +kernel
theorem chk_n2 : eN.z.chk = true := by decide +kernel
theorem chk_n3 : (E.s eN.y eV2).chk = true := by decide +kernel
end Gp
end
section
namespace Cv
structure Ops (α : Type) where
 add : α → α → α
 sub : α → α → α
 mul : α → α → α
 inv : α → α
 zero : α
 one : α
structure Laws {α : Type} (O : Ops α) : Prop where
 mul_one : ∀ a, O.mul a O.one = a
 one_mul : ∀ a, O.mul O.one a = a
 mul_zero : ∀ a, O.mul a O.zero = O.zero
 zero_mul : ∀ a, O.mul O.zero a = O.zero
 add_zero : O.add O.zero O.zero = O.zero
 assoc : ∀ a b c, O.mul (O.mul a b) c = O.mul a (O.mul b c)
 sub_zero : ∀ a b, O.sub a b = O.zero ↔ a = b
 ne : O.one ≠ O.zero
structure Jac (α : Type) where
 x : α
 y : α
 z : α
variable {α : Type} [DecidableEq α] (O : Ops α)
def dbl (p : Jac α) : Jac α :=
 let a := O.mul p.x p.x
 let b := O.mul p.y p.y
 let s := O.mul p.x b
 let s := O.add s s
 let s := O.add s s
 let e := O.add (O.add a a) a
 let c := O.mul b b
 let c := O.add c c
 let c := O.add c c
 let c := O.add c c
 let x := O.sub (O.mul e e) (O.add s s)
 let z := O.mul p.y p.z
 ⟨x, O.sub (O.mul e (O.sub s x)) c, O.add z z⟩
def inf : Jac α := ⟨O.zero, O.zero, O.zero⟩
def plus (p q : Jac α) : Jac α :=
 if p.z = O.zero then q else if q.z = O.zero then p else
 let pz := O.mul p.z p.z
 let qz := O.mul q.z q.z
 let u := O.mul p.x qz
 let v := O.mul q.x pz
 let s := O.mul (O.mul p.y qz) q.z
 let t := O.mul (O.mul q.y pz) p.z
 if u = v then (if s = t then dbl O p else inf O) else
 let h := O.sub v u
 let r := O.sub t s
 let hh := O.mul h h
 let hhh := O.mul hh h
 let w := O.mul u hh
 let x := O.sub (O.sub (O.mul r r) hhh) (O.add w w)
 ⟨x, O.sub (O.mul r (O.sub w x)) (O.mul s hhh), O.mul (O.mul p.z q.z) h⟩
def dblR (p : Jac α) : Jac α := if p.z = O.zero ∨ p.y = O.zero then ⟨p.x, p.y, O.zero⟩ else dbl O p
def plusR (p : Jac α) (qx qy : α) : Jac α :=
 if p.z = O.zero then ⟨qx, qy, O.one⟩ else
 let zz := O.mul p.z p.z
 let h := O.sub (O.mul qx zz) p.x
 let r := O.sub (O.mul qy (O.mul zz p.z)) p.y
 if h = O.zero then (if r = O.zero then dblR O p else ⟨p.x, p.y, O.zero⟩) else
 let hh := O.mul h h
 let hhh := O.mul hh h
 let v := O.mul p.x hh
 let x := O.sub (O.sub (O.mul r r) hhh) (O.add v v)
 ⟨x, O.sub (O.mul r (O.sub v x)) (O.mul p.y hhh), O.mul p.z h⟩
def tm (p : Jac α) (k n : Nat) : Nat → Jac α
 | 0 => inf O
 | i + 1 => if k / 2 ^ (n - 1 - i) % 2 = 1 then plus O (dbl O (tm p k n i)) p else dbl O (tm p k n i)
def stepR (z : Jac α) : Jac α := if z.z = O.zero then z else dblR O z
def tr (x y : α) (k n : Nat) : Nat → Jac α
 | 0 => ⟨x, y, O.zero⟩
 | i + 1 => if k / 2 ^ (n - 1 - i) % 2 = 1 then plusR O (stepR O (tr x y k n i)) x y else stepR O (tr x y k n i)
def alike (p q : Jac α) : Prop := (p.z = O.zero ∧ q.z = O.zero) ∨ (p = q ∧ q.z ≠ O.zero)
variable {O}
theorem dbl_inf (L : Laws O) {p : Jac α} (h : p.z = O.zero ∨ p.y = O.zero) : (dbl O p).z = O.zero := by
 show O.add (O.mul p.y p.z) (O.mul p.y p.z) = O.zero
 rcases h with h | h
 . rw [h, L.mul_zero, L.add_zero]
 . rw [h, L.zero_mul, L.add_zero]
end Cv
namespace Cv
variable {α : Type} [DecidableEq α] (O : Ops α)
abbrev Pt (α : Type) := Option (α × α)
def up : Pt α → Jac α
 | none => inf O
 | some (x, y) => ⟨x, y, O.one⟩
def down (p : Jac α) : Pt α := if p.z = O.zero then none else
 some (O.mul p.x (O.mul (O.inv p.z) (O.inv p.z)), O.mul (O.mul p.y (O.mul (O.inv p.z) (O.inv p.z))) (O.inv p.z))
def slope (x1 y1 s x2 : α) : Pt α :=
 let x := O.sub (O.sub (O.mul s s) x1) x2
 some (x, O.sub (O.mul s (O.sub x1 x)) y1)
def sumR : Pt α → Pt α → Pt α
 | none, q => q
 | p, none => p
 | some (x1, y1), some (x2, y2) => if x1 = x2 then (if O.add y1 y2 = O.zero then none else
     slope O x1 y1 (O.mul (O.add (O.add (O.mul x1 x1) (O.mul x1 x1)) (O.mul x1 x1)) (O.inv (O.add y1 y1))) x2)
   else slope O x1 y1 (O.mul (O.sub y2 y1) (O.inv (O.sub x2 x1))) x2
def onC (b : α) : Pt α → Prop
 | none => True
 | some (x, y) => O.mul y y = O.add (O.mul (O.mul x x) x) b
section F1
variable {p : Nat} [NeZero p]
def ops1 (inv : Fin p → Fin p) : Ops (Fin p) := ⟨(· + ·), (· - ·), (· * ·), inv, 0, 1⟩
theorem laws1 (inv : Fin p → Fin p) (hp : (1 : Fin p) ≠ 0) : Laws (ops1 inv) where
 mul_one a := by show a * 1 = a; grind
 one_mul a := by show 1 * a = a; grind
 mul_zero a := by show a * 0 = 0; grind
 zero_mul a := by show 0 * a = 0; grind
 add_zero := by show (0 : Fin p) + 0 = 0; grind
 assoc a b c := by show a * b * c = a * (b * c); grind
 sub_zero a b := by show a - b = 0 ↔ a = b; constructor <;> intro h <;> grind
 ne := hp
theorem add1 (inv : Fin p → Fin p) (hp : (1 : Fin p) ≠ 0) (hinv : ∀ a : Fin p, a ≠ 0 → a * inv a = 1) (b : Fin p) : ∀ P Q : Pt (Fin p), onC (ops1 inv) b P → onC (ops1 inv) b Q → down (ops1 inv) (plus (ops1 inv) (up (ops1 inv) P) (up (ops1 inv) Q)) = sumR (ops1 inv) P Q := by
 have h1 : inv 1 = 1 := by have := hinv 1 hp; grind
 have dd : ∀ Q : Pt (Fin p), down (ops1 inv) (up (ops1 inv) Q) = Q := by
   rintro (_ | ⟨x, y⟩)
   . rfl
   . show (if (1 : Fin p) = 0 then none else some (x * (inv 1 * inv 1), y * (inv 1 * inv 1) * inv 1)) = _
     rw [if_neg hp, h1]
     simp only [Option.some.injEq, Prod.mk.injEq]
     constructor <;> grind
 rintro (_ | ⟨x1, y1⟩) (_ | ⟨x2, y2⟩) hP hQ
 . exact dd none
 . exact dd (some (x2, y2))
 . show down _ (if (1 : Fin p) = 0 then inf (ops1 inv) else if (0 : Fin p) = 0 then ⟨x1, y1, 1⟩ else _) = _
   rw [if_neg hp, if_pos rfl]
   exact dd (some (x1, y1))
 . have hP : y1 * y1 = x1 * x1 * x1 + b := hP
   have hQ : y2 * y2 = x2 * x2 * x2 + b := hQ
   simp only [plus, up, ops1, dbl, inf, down, sumR, slope, hp, if_false]
   by_cases hx : x1 = x2
   . subst hx
     by_cases hy : y1 = y2
     . subst hy
       by_cases hz : y1 + y1 = 0
       . have : y1 * 1 + y1 * 1 = 0 := by grind
         simp [hz, this]
       . have hz1 : ¬ y1 * 1 + y1 * 1 = 0 := by grind
         have e : y1 * 1 + y1 * 1 = y1 + y1 := by grind
         have hi := hinv (y1 + y1) hz
         simp only [hz1, hz, if_true, if_false, e, Option.some.injEq, Prod.mk.injEq, and_self]
         generalize inv (y1 + y1) = i at *
         constructor <;> grind
     . have hz : y1 + y2 = 0 := by
         apply Classical.byContradiction
         intro hz
         have h2 := hinv _ hz
         have h3 := hinv (y1 - y2) (by grind)
         generalize inv (y1 + y2) = i at *
         generalize inv (y1 - y2) = j at *
         have : (y1 + y2) * (y1 - y2) = 0 := by grind
         grind
       have h2 : ¬ y1 * (1 * 1) * 1 = y2 * (1 * 1) * 1 := by grind
       simp [hz, h2]
   . have h2 : ¬ x1 * (1 * 1) = x2 * (1 * 1) := by grind
     have hd : x2 - x1 ≠ 0 := by grind
     have e : 1 * 1 * (x2 * (1 * 1) - x1 * (1 * 1)) = x2 - x1 := by grind
     have hi := hinv _ hd
     simp only [hx, h2, hd, e, if_false, Option.some.injEq, Prod.mk.injEq]
     generalize inv (x2 - x1) = i at *
     constructor <;> grind
end F1
end Cv
namespace Cv
structure F2 (p : Nat) where
 a : Fin p
 b : Fin p
 deriving DecidableEq
section
variable {p : Nat} [NeZero p]
end
end Cv
end
section
namespace Gp
open Cv
def opOf {α : Type} (O : Ops α) : Op α := ⟨O.add, O.sub, O.mul, O.zero, O.one⟩
structure Fd {α : Type} (O : Ops α) : Prop where
 cr : CR (opOf O)
 inv : ∀ a, a ≠ O.zero → O.mul a (O.inv a) = O.one
 ne : O.one ≠ O.zero
 two : O.add O.one O.one ≠ O.zero
section
variable {α : Type} [DecidableEq α] {O : Ops α} (F : Fd O)
include F
theorem Fd.mul_zero (a : α) : O.mul a O.zero = O.zero := F.cr.mul_zero a
theorem Fd.zero_mul (a : α) : O.mul O.zero a = O.zero := F.cr.zero_mul a
theorem Fd.mul_comm (a b : α) : O.mul a b = O.mul b a := F.cr.mul_comm a b
theorem Fd.mul_assoc (a b c : α) : O.mul (O.mul a b) c = O.mul a (O.mul b c) := F.cr.mul_assoc a b c
theorem Fd.one_mul (a : α) : O.mul O.one a = a := F.cr.one_mul a
theorem Fd.mul_one (a : α) : O.mul a O.one = a := by rw [F.mul_comm, F.one_mul]
theorem Fd.add_zero (a : α) : O.add a O.zero = a := F.cr.add_zero a
theorem Fd.zero_add (a : α) : O.add O.zero a = a := F.cr.zero_add a
theorem Fd.add_comm (a b : α) : O.add a b = O.add b a := F.cr.add_comm a b
theorem Fd.sub_self (a : α) : O.sub a a = O.zero := F.cr.sub_self a
theorem Fd.eq_of_sub {a b : α} (h : O.sub a b = O.zero) : a = b := F.cr.eq_of_sub h
theorem Fd.sub_of_eq {a b : α} (h : a = b) : O.sub a b = O.zero := by rw [h, F.sub_self]
theorem Fd.sub_zero (a : α) : O.sub a O.zero = a := by
 have := F.cr.sub_add a O.zero
 exact (F.cr.add_zero _).symm.trans this
theorem Fd.dom {a b : α} (h : O.mul a b = O.zero) : a = O.zero ∨ b = O.zero := by
 by_cases ha : a = O.zero
 . exact .inl ha
 . refine .inr ?_
   have := congrArg (O.mul (O.inv a)) h
   rwa [F.mul_zero, ← F.mul_assoc, F.mul_comm _ a, F.inv a ha, F.one_mul] at this
theorem Fd.mne {a b : α} (ha : a ≠ O.zero) (hb : b ≠ O.zero) : O.mul a b ≠ O.zero := fun h => (F.dom h).elim ha hb
theorem Fd.cancel {a b c : α} (hc : c ≠ O.zero) (h : O.mul a c = O.mul b c) : a = b := by
 have := congrArg (fun z => O.mul z (O.inv c)) h
 simpa only [F.mul_assoc, F.inv c hc, F.mul_one] using this
theorem Fd.twice_ne {a : α} (h : a ≠ O.zero) : O.add a a ≠ O.zero := by
 have e : O.add a a = O.mul (O.add O.one O.one) a := by
   have h1 : O.mul O.one a = a := F.one_mul a
   refine Eq.symm ((F.cr.add_mul O.one O.one a).trans ?_)
   show O.add (O.mul O.one a) (O.mul O.one a) = _
   rw [h1]
 rw [e]
 exact F.mne F.two h
theorem Fd.neg_sq (a : α) : O.mul (O.sub O.zero a) (O.sub O.zero a) = O.mul a a := by
 have h1 := F.cr.neg_mul a (O.sub O.zero a)
 have h2 := F.cr.mul_neg a a
 have h3 := F.cr.neg_neg (O.mul a a)
 exact h1.trans ((congrArg (O.sub O.zero) h2).trans h3)
theorem Fd.neg_eq {a b : α} (h : O.add a b = O.zero) : b = O.sub O.zero a := by
 have h1 := F.cr.sub_add O.zero a
 refine F.cr.add_cancel (c := a) ?_
 exact (F.add_comm b a).trans (h.trans h1.symm)
theorem Fd.add_neg (a : α) : O.add a (O.sub O.zero a) = O.zero := (F.add_comm _ _).trans (F.cr.sub_add O.zero a)
end
abbrev w0 := E.v 4
abbrev w1 := E.v 5
abbrev w2 := E.v 6
abbrev w3 := E.v 7
abbrev w4 := E.v 8
abbrev w5 := E.v 9
abbrev w6 := E.v 10
abbrev w7 := E.v 11
theorem chk_l1 : (E.s (.m (.s (.s (.m w0 w0) w2) w3) (.m w1 w1)) (.s (.m (.m w0 w1) (.m w0 w1)) (.m (.a w2 w3) (.m w1 w1)))).chk = true := by decide +kernel
theorem chk_l2 : (E.s (.m (.s (.m w0 (.s w2 w3)) w4) (.m w1 (.m w1 w1))) (.s (.m (.m w0 w1) (.s (.m w2 (.m w1 w1)) (.m w3 (.m w1 w1)))) (.m w4 (.m w1 (.m w1 w1))))).chk = true := by decide +kernel
theorem chk_l3 : (E.s (.s (.m (.m w0 (.m w2 (.m w2 w2))) (.m w0 (.m w2 (.m w2 w2)))) (.a (.m (.m (.m w1 (.m w2 w2)) (.m w1 (.m w2 w2))) (.m w1 (.m w2 w2))) (.m w3 (.m (.m w2 (.m w2 w2)) (.m w2 (.m w2 w2))))))
   (.m (.s (.m w0 w0) (.a (.m (.m w1 w1) w1) w3)) (.m (.m w2 (.m w2 w2)) (.m w2 (.m w2 w2))))).chk = true := by decide +kernel
section
variable {α : Type} [DecidableEq α] {O : Ops α} (F : Fd O)
include F
theorem line {d n s x1 y1 x2 : α} (hs : O.mul s d = n) (hd : d ≠ O.zero) :
   O.mul (O.sub (O.sub (O.mul s s) x1) x2) (O.mul d d) = O.sub (O.mul n n) (O.mul (O.add x1 x2) (O.mul d d)) ∧
   O.mul (O.sub (O.mul s (O.sub x1 (O.sub (O.sub (O.mul s s) x1) x2))) y1) (O.mul d (O.mul d d)) =
     O.sub (O.mul n (O.sub (O.mul x1 (O.mul d d)) (O.mul (O.sub (O.sub (O.mul s s) x1) x2) (O.mul d d)))) (O.mul y1 (O.mul d (O.mul d d))) := by
 constructor
 . have := F.eq_of_sub (van0 F.cr chk_l1 s d x1 x2 O.zero O.zero O.zero O.zero)
   rw [← hs]; exact this
 . have := F.eq_of_sub (van0 F.cr chk_l2 s d x1 (O.sub (O.sub (O.mul s s) x1) x2) y1 O.zero O.zero O.zero)
   rw [← hs]; exact this
theorem back {d x y b : α} (hd : d ≠ O.zero) (h : O.mul (O.mul y (O.mul d (O.mul d d))) (O.mul y (O.mul d (O.mul d d))) =
   O.add (O.mul (O.mul (O.mul x (O.mul d d)) (O.mul x (O.mul d d))) (O.mul x (O.mul d d))) (O.mul b (O.mul (O.mul d (O.mul d d)) (O.mul d (O.mul d d))))) :
   O.mul y y = O.add (O.mul (O.mul x x) x) b := by
 have h1 := F.eq_of_sub (van0 F.cr chk_l3 y x d b O.zero O.zero O.zero O.zero)
 have h2 := F.sub_of_eq h
 have h3 : O.mul (O.sub (O.mul y y) (O.add (O.mul (O.mul x x) x) b)) (O.mul (O.mul d (O.mul d d)) (O.mul d (O.mul d d))) = O.zero := h1.symm.trans h2
 rcases F.dom h3 with h4 | h4
 . exact F.eq_of_sub h4
 . exact absurd h4 (F.mne (F.mne hd (F.mne hd hd)) (F.mne hd (F.mne hd hd)))
variable {b : α}
theorem chord {x1 y1 x2 y2 s : α} (h1 : O.mul y1 y1 = O.add (O.mul (O.mul x1 x1) x1) b) (h2 : O.mul y2 y2 = O.add (O.mul (O.mul x2 x2) x2) b) (hx : O.sub x2 x1 ≠ O.zero) (hs : O.mul s (O.sub x2 x1) = O.sub y2 y1)
   (X Y : α) (hX : X = O.sub (O.sub (O.mul s s) x1) x2) (hY : Y = O.sub (O.mul s (O.sub x1 X)) y1) (R : T3 α) (hR : R = rc (opOf O) b ⟨x1, y1, O.one⟩ ⟨x2, y2, O.one⟩) :
   O.mul Y Y = O.add (O.mul (O.mul X X) X) b ∧ R.x = O.mul R.z X ∧ R.y = O.mul R.z Y ∧
     (eV Gp.y1 Gp.y2).ev (opOf O) (vals (opOf O) x1 y1 x2 y2 x1 y1 b) = O.mul Y (O.mul (O.sub x2 x1) (O.mul (O.sub x2 x1) (O.sub x2 x1))) := by
 obtain ⟨l1, l2⟩ := line F (x1 := x1) (y1 := y1) (x2 := x2) hs hx
 rw [← hX] at l1 l2
 rw [← hY, l1] at l2
 have c1 := F.eq_of_sub (van F.cr chk_c1 h1 h2 h1)
 have c2 := F.eq_of_sub (van F.cr chk_c2 h1 h2 h1)
 have c4 := F.eq_of_sub (van F.cr chk_c4 h1 h2 h1)
 have eU : (eU Gp.y1 Gp.y2).ev (opOf O) (vals (opOf O) x1 y1 x2 y2 x1 y1 b) = O.mul X (O.mul (O.sub x2 x1) (O.sub x2 x1)) := l1.symm
 have eV : (eV Gp.y1 Gp.y2).ev (opOf O) (vals (opOf O) x1 y1 x2 y2 x1 y1 b) = O.mul Y (O.mul (O.sub x2 x1) (O.mul (O.sub x2 x1) (O.sub x2 x1))) := l2.symm
 refine ⟨?_, ?_, ?_, eV⟩
 . refine back F (d := O.sub x2 x1) hx ?_
   rw [← eU, ← eV]
   exact c4
 . subst hR
   refine F.cancel (c := O.mul (O.sub x2 x1) (O.sub x2 x1)) (F.mne hx hx) ?_
   rw [F.mul_assoc _ X, ← eU]
   exact c1
 . subst hR
   refine F.cancel (c := O.mul (O.sub x2 x1) (O.mul (O.sub x2 x1) (O.sub x2 x1))) (F.mne hx (F.mne hx hx)) ?_
   rw [F.mul_assoc _ Y, ← eV]
   exact c2
theorem tang {x1 y1 s : α} (h1 : O.mul y1 y1 = O.add (O.mul (O.mul x1 x1) x1) b) (hy : O.add y1 y1 ≠ O.zero) (hs : O.mul s (O.add y1 y1) = O.add (O.add (O.mul x1 x1) (O.mul x1 x1)) (O.mul x1 x1))
   (X Y : α) (hX : X = O.sub (O.sub (O.mul s s) x1) x1) (hY : Y = O.sub (O.mul s (O.sub x1 X)) y1) (R : T3 α) (hR : R = rc (opOf O) b ⟨x1, y1, O.one⟩ ⟨x1, y1, O.one⟩) :
   O.mul Y Y = O.add (O.mul (O.mul X X) X) b ∧ R.x = O.mul R.z X ∧ R.y = O.mul R.z Y ∧ R.z ≠ O.zero ∧
     eV2.ev (opOf O) (vals (opOf O) x1 y1 x1 y1 x1 y1 b) = O.mul Y (O.mul (O.add y1 y1) (O.mul (O.add y1 y1) (O.add y1 y1))) := by
 obtain ⟨l1, l2⟩ := line F (x1 := x1) (y1 := y1) (x2 := x1) hs hy
 rw [← hX] at l1 l2
 rw [← hY, l1] at l2
 have c1 := F.eq_of_sub (van F.cr chk_t1 h1 h1 h1)
 have c2 := F.eq_of_sub (van F.cr chk_t2 h1 h1 h1)
 have c3 := F.eq_of_sub (van F.cr chk_t3 h1 h1 h1)
 have c4 := F.eq_of_sub (van F.cr chk_t4 h1 h1 h1)
 have eU : eU2.ev (opOf O) (vals (opOf O) x1 y1 x1 y1 x1 y1 b) = O.mul X (O.mul (O.add y1 y1) (O.add y1 y1)) := l1.symm
 have eV : eV2.ev (opOf O) (vals (opOf O) x1 y1 x1 y1 x1 y1 b) = O.mul Y (O.mul (O.add y1 y1) (O.mul (O.add y1 y1) (O.add y1 y1))) := l2.symm
 refine ⟨?_, ?_, ?_, ?_, eV⟩
 . refine back F (d := O.add y1 y1) hy ?_
   rw [← eU, ← eV]
   exact c4
 . subst hR
   refine F.cancel (c := O.mul (O.add y1 y1) (O.add y1 y1)) (F.mne hy hy) ?_
   rw [F.mul_assoc _ X, ← eU]
   exact c1
 . subst hR
   refine F.cancel (c := O.mul (O.add y1 y1) (O.mul (O.add y1 y1) (O.add y1 y1))) (F.mne hy (F.mne hy hy)) ?_
   rw [F.mul_assoc _ Y, ← eV]
   exact c2
 . subst hR
   intro h
   exact F.mne hy (F.mne hy hy) (c3.symm.trans h)
end
end Gp
end
section
namespace Gp
open Cv
def sc {α : Type} (O : Op α) (l : α) (p : T3 α) : T3 α := ⟨O.mul l p.x, O.mul l p.y, O.mul l p.z⟩
def hP : T3 E := ⟨w1, w2, w3⟩
def hQ : T3 E := ⟨w4, w5, w6⟩
theorem chk_h1 : (E.s (rc eO w7 (sc eO w0 hP) hQ).x (.m (.m w0 w0) (rc eO w7 hP hQ).x)).chk = true := by decide +kernel
theorem chk_h2 : (E.s (rc eO w7 (sc eO w0 hP) hQ).y (.m (.m w0 w0) (rc eO w7 hP hQ).y)).chk = true := by decide +kernel
theorem chk_h3 : (E.s (rc eO w7 (sc eO w0 hP) hQ).z (.m (.m w0 w0) (rc eO w7 hP hQ).z)).chk = true := by decide +kernel
theorem chk_s1 : (E.s (rc eO w7 hP hQ).x (rc eO w7 hQ hP).x).chk = true := by decide +kernel
theorem chk_s2 : (E.s (rc eO w7 hP hQ).y (rc eO w7 hQ hP).y).chk = true := by decide +kernel
theorem chk_s3 : (E.s (rc eO w7 hP hQ).z (rc eO w7 hQ hP).z).chk = true := by decide +kernel
section
variable {α : Type} [DecidableEq α] {O : Ops α} (F : Fd O)
include F
theorem rc_l (l b : α) (p q : T3 α) : rc (opOf O) b (sc (opOf O) l p) q = sc (opOf O) (O.mul l l) (rc (opOf O) b p q) := by
 obtain ⟨px, py, pz⟩ := p
 obtain ⟨qx, qy, qz⟩ := q
 have h1 := F.eq_of_sub (van0 F.cr chk_h1 l px py pz qx qy qz b)
 have h2 := F.eq_of_sub (van0 F.cr chk_h2 l px py pz qx qy qz b)
 have h3 := F.eq_of_sub (van0 F.cr chk_h3 l px py pz qx qy qz b)
 exact (T3.mk.injEq ..).mpr ⟨h1, h2, h3⟩
theorem rc_c (b : α) (p q : T3 α) : rc (opOf O) b p q = rc (opOf O) b q p := by
 obtain ⟨px, py, pz⟩ := p
 obtain ⟨qx, qy, qz⟩ := q
 have h1 := F.eq_of_sub (van0 F.cr chk_s1 O.zero px py pz qx qy qz b)
 have h2 := F.eq_of_sub (van0 F.cr chk_s2 O.zero px py pz qx qy qz b)
 have h3 := F.eq_of_sub (van0 F.cr chk_s3 O.zero px py pz qx qy qz b)
 exact (T3.mk.injEq ..).mpr ⟨h1, h2, h3⟩
theorem rc_r (l b : α) (p q : T3 α) : rc (opOf O) b p (sc (opOf O) l q) = sc (opOf O) (O.mul l l) (rc (opOf O) b p q) := by
 rw [rc_c F, rc_l F, rc_c F]
theorem sc_sc (l m : α) (p : T3 α) : sc (opOf O) l (sc (opOf O) m p) = sc (opOf O) (O.mul l m) p := by
 simp only [sc, opOf, F.mul_assoc]
end
def pj {α : Type} (O : Ops α) : Pt α → T3 α
 | none => ⟨O.zero, O.one, O.zero⟩
 | some (x, y) => ⟨x, y, O.one⟩
def No2 {α : Type} (O : Ops α) (b : α) : Prop := ∀ x, O.add (O.mul (O.mul x x) x) b ≠ O.zero
def ngp {α : Type} (O : Ops α) : Pt α → Pt α
 | none => none
 | some (x, y) => some (x, O.sub O.zero y)
section
variable {α : Type} [DecidableEq α] {O : Ops α} (F : Fd O) {b : α} (N : No2 O b)
include F
theorem onC_ng {P : Pt α} (h : onC O b P) : onC O b (ngp O P) := by
 obtain _ | ⟨x, y⟩ := P
 . exact trivial
 . show O.mul (O.sub O.zero y) (O.sub O.zero y) = _
   rw [F.neg_sq]; exact h
include N
theorem y_ne {x y : α} (h : onC O b (some (x, y))) : y ≠ O.zero := fun e => by
 subst e
 have h : O.mul O.zero O.zero = _ := h
 rw [F.mul_zero] at h
 exact N x h.symm
theorem sum_ok : ∀ P Q : Pt α, onC O b P → onC O b Q → onC O b (sumR O P Q) ∧ ∃ l, l ≠ O.zero ∧ rc (opOf O) b (pj O P) (pj O Q) = sc (opOf O) l (pj O (sumR O P Q)) := by
 have inf1 : ∀ x y, rc (opOf O) b ⟨O.zero, O.one, O.zero⟩ ⟨x, y, O.one⟩ = ⟨O.mul y x, O.mul y y, O.mul y O.one⟩ := by
   intro x y
   simp only [rc, opOf, thr, F.mul_zero, F.zero_mul, F.mul_one, F.one_mul, F.add_zero, F.zero_add, F.sub_zero, F.mul_comm x y]
 rintro (_ | ⟨x1, y1⟩) (_ | ⟨x2, y2⟩) hP hQ
 . refine ⟨trivial, O.one, F.ne, ?_⟩
   simp only [rc, opOf, thr, pj, sc, sumR, F.mul_zero, F.zero_mul, F.mul_one, F.one_mul, F.add_zero, F.zero_add, F.sub_zero]
 . exact ⟨hQ, y2, y_ne F N hQ, inf1 x2 y2⟩
 . exact ⟨hP, y1, y_ne F N hP, (rc_c F b _ _).trans (inf1 x1 y1)⟩
 . have h1 : O.mul y1 y1 = O.add (O.mul (O.mul x1 x1) x1) b := hP
   have h2 : O.mul y2 y2 = O.add (O.mul (O.mul x2 x2) x2) b := hQ
   have hy1 := y_ne F N hP
   by_cases hx : x1 = x2
   . subst hx
     have hd := F.twice_ne hy1
     have hs : O.mul (O.mul (O.add (O.add (O.mul x1 x1) (O.mul x1 x1)) (O.mul x1 x1)) (O.inv (O.add y1 y1))) (O.add y1 y1) = O.add (O.add (O.mul x1 x1) (O.mul x1 x1)) (O.mul x1 x1) := by
       rw [F.mul_assoc, F.mul_comm (O.inv _), F.inv _ hd, F.mul_one]
     obtain ⟨t1, t2, t3, t4, t5⟩ := tang F h1 hd hs _ _ rfl rfl _ rfl
     by_cases hy : O.add y1 y2 = O.zero
     . have e := F.neg_eq hy
       subst e
       refine ⟨by simp only [sumR, if_true, hy]; exact trivial, (rc (opOf O) b ⟨x1, y1, O.one⟩ ⟨x1, O.sub O.zero y1, O.one⟩).y, ?_, ?_⟩
       . intro h0
         have c3 : O.sub (rc (opOf O) b ⟨x1, y1, O.one⟩ ⟨x1, O.sub (O.sub O.one O.one) y1, O.one⟩).y _ = O.zero := van F.cr chk_n3 h1 h1 h1
         rw [F.sub_self] at c3
         have c4 := F.eq_of_sub c3
         rw [h0] at c4
         have c5 := c4.trans t5
         rcases F.dom c5.symm with h | h
         . rw [h, F.mul_zero] at t1
           exact N _ t1.symm
         . exact F.mne hd (F.mne hd hd) h
       . have n1 : (rc (opOf O) b ⟨x1, y1, O.one⟩ ⟨x1, O.sub (O.sub O.one O.one) y1, O.one⟩).x = O.zero := van F.cr chk_n1 h1 h1 h1
         have n2 : (rc (opOf O) b ⟨x1, y1, O.one⟩ ⟨x1, O.sub (O.sub O.one O.one) y1, O.one⟩).z = O.zero := van F.cr chk_n2 h1 h1 h1
         rw [F.sub_self] at n1 n2
         simp only [sumR, if_true, hy, pj, sc]
         show _ = T3.mk (O.mul _ O.zero) (O.mul _ O.one) (O.mul _ O.zero)
         rw [F.mul_zero, F.mul_one]
         generalize rc (opOf O) b ⟨x1, y1, O.one⟩ ⟨x1, O.sub O.zero y1, O.one⟩ = r at *
         obtain ⟨rx, ry, rz⟩ := r
         exact (T3.mk.injEq ..).mpr ⟨n1, rfl, n2⟩
     . have hyy : y1 = y2 := by
         have e : O.mul (O.sub y1 y2) (O.add y1 y2) = O.zero := by
           have h3 : (E.s (.m (.s w0 w1) (.a w0 w1)) (.s (.m w0 w0) (.m w1 w1))).chk = true := by decide +kernel
           have h4 := F.eq_of_sub (van0 F.cr h3 y1 y2 O.zero O.zero O.zero O.zero O.zero O.zero)
           exact h4.trans (F.sub_of_eq (h1.trans h2.symm))
         rcases F.dom e with h | h
         . exact F.eq_of_sub h
         . exact absurd h hy
       subst hyy
       simp only [sumR, if_true, hy, if_false, slope]
       refine ⟨t1, _, t4, ?_⟩
       show rc (opOf O) b ⟨x1, y1, O.one⟩ ⟨x1, y1, O.one⟩ = T3.mk (O.mul _ _) (O.mul _ _) (O.mul _ O.one)
       rw [F.mul_one]
       generalize rc (opOf O) b ⟨x1, y1, O.one⟩ ⟨x1, y1, O.one⟩ = r at *
       obtain ⟨rx, ry, rz⟩ := r
       exact (T3.mk.injEq ..).mpr ⟨t2, t3, rfl⟩
   . have hd : O.sub x2 x1 ≠ O.zero := fun h => hx (F.eq_of_sub h).symm
     have hs : ∀ n, O.mul (O.mul n (O.inv (O.sub x2 x1))) (O.sub x2 x1) = n := fun n => by
       rw [F.mul_assoc, F.mul_comm (O.inv _), F.inv _ hd, F.mul_one]
     have h2' : O.mul (O.sub O.zero y2) (O.sub O.zero y2) = O.add (O.mul (O.mul x2 x2) x2) b := by rw [F.neg_sq]; exact h2
     obtain ⟨t1, t2, t3, t4⟩ := chord F h1 h2 hd (hs _) _ _ rfl rfl _ rfl
     obtain ⟨u1, u2, u3, u4⟩ := chord F h1 h2' hd (hs _) _ _ rfl rfl _ rfl
     have c3 : O.sub (rc (opOf O) b ⟨x1, y1, O.one⟩ ⟨x2, y2, O.one⟩).z ((eV Gp.y1 Gp.y2).ev (opOf O) (vals (opOf O) x1 y1 x2 (O.sub (O.sub O.one O.one) y2) x1 y1 b)) = O.zero := van F.cr chk_c3 h1 h2 h1
     rw [F.sub_self] at c3
     have c4 := (F.eq_of_sub c3).trans u4
     have hz : (rc (opOf O) b ⟨x1, y1, O.one⟩ ⟨x2, y2, O.one⟩).z ≠ O.zero := by
       intro h
       rw [h] at c4
       rcases F.dom c4.symm with h | h
       . rw [h, F.mul_zero] at u1
         exact N _ u1.symm
       . exact F.mne hd (F.mne hd hd) h
     simp only [sumR, hx, if_false, slope]
     refine ⟨t1, _, hz, ?_⟩
     show rc (opOf O) b ⟨x1, y1, O.one⟩ ⟨x2, y2, O.one⟩ = T3.mk (O.mul _ _) (O.mul _ _) (O.mul _ O.one)
     rw [F.mul_one]
     generalize rc (opOf O) b ⟨x1, y1, O.one⟩ ⟨x2, y2, O.one⟩ = r at *
     obtain ⟨rx, ry, rz⟩ := r
     exact (T3.mk.injEq ..).mpr ⟨t2, t3, rfl⟩
theorem sum_on {P Q : Pt α} (hP : onC O b P) (hQ : onC O b Q) : onC O b (sumR O P Q) := (sum_ok F N P Q hP hQ).1
omit N in
theorem same_pt {P Q : Pt α} {k l : α} (hk : k ≠ O.zero) (hl : l ≠ O.zero) (h1 : O.mul (O.mul k (pj O P).x) (O.mul l (pj O Q).z) = O.mul (O.mul l (pj O Q).x) (O.mul k (pj O P).z))
   (h2 : O.mul (O.mul k (pj O P).y) (O.mul l (pj O Q).z) = O.mul (O.mul l (pj O Q).y) (O.mul k (pj O P).z)) : P = Q := by
 have fac : ∀ u v w z : α, O.mul (O.mul k u) (O.mul l v) = O.mul (O.mul l w) (O.mul k z) → O.mul u v = O.mul w z := by
   intro u v w z h
   have e1 : O.mul (O.mul k u) (O.mul l v) = O.mul (O.mul k l) (O.mul u v) := F.cr.mul4 k u l v
   have e2 : O.mul (O.mul l w) (O.mul k z) = O.mul (O.mul l k) (O.mul w z) := F.cr.mul4 l w k z
   rw [e1, e2, F.mul_comm l k, F.mul_comm _ (O.mul u v), F.mul_comm _ (O.mul w z)] at h
   exact F.cancel (F.mne hk hl) h
 replace h1 := fac _ _ _ _ h1
 replace h2 := fac _ _ _ _ h2
 obtain _ | ⟨x1, y1⟩ := P <;> obtain _ | ⟨x2, y2⟩ := Q
 . rfl
 . simp only [pj, F.mul_one, F.mul_zero] at h2
   exact absurd h2 F.ne
 . simp only [pj, F.mul_one, F.mul_zero] at h2
   exact absurd h2.symm F.ne
 . simp only [pj, F.mul_one] at h1 h2
   rw [h1, h2]
theorem sum_comm {P Q : Pt α} (hP : onC O b P) (hQ : onC O b Q) : sumR O P Q = sumR O Q P := by
 obtain ⟨_, k, hk, e1⟩ := sum_ok F N P Q hP hQ
 obtain ⟨_, l, hl, e2⟩ := sum_ok F N Q P hQ hP
 rw [rc_c F, e2] at e1
 have hx := congrArg T3.x e1
 have hy := congrArg T3.y e1
 have hz := congrArg T3.z e1
 refine same_pt F hk hl ?_ ?_
 . have hx : O.mul l _ = O.mul k _ := hx
   have hz : O.mul l _ = O.mul k _ := hz
   rw [← hx, ← hz]
 . have hy : O.mul l _ = O.mul k _ := hy
   have hz : O.mul l _ = O.mul k _ := hz
   rw [← hy, ← hz]
theorem sum_assoc {P Q R : Pt α} (hP : onC O b P) (hQ : onC O b Q) (hR : onC O b R) : sumR O (sumR O P Q) R = sumR O P (sumR O Q R) := by
 have nl : ∀ S : Pt α, sumR O none S = S := fun S => by cases S <;> rfl
 have nr : ∀ S : Pt α, sumR O S none = S := fun S => by cases S <;> rfl
 obtain _ | ⟨x1, y1⟩ := P
 . rw [nl, nl]
 obtain _ | ⟨x2, y2⟩ := Q
 . rw [nr, nl]
 obtain _ | ⟨x3, y3⟩ := R
 . rw [nr, nr]
 have h1 : O.mul y1 y1 = O.add (O.mul (O.mul x1 x1) x1) b := hP
 have h2 : O.mul y2 y2 = O.add (O.mul (O.mul x2 x2) x2) b := hQ
 have h3 : O.mul y3 y3 = O.add (O.mul (O.mul x3 x3) x3) b := hR
 obtain ⟨o1, k1, hk1, e1⟩ := sum_ok F N _ _ hP hQ
 obtain ⟨_, k2, hk2, e2⟩ := sum_ok F N _ _ o1 hR
 obtain ⟨o2, l1, hl1, f1⟩ := sum_ok F N _ _ hQ hR
 obtain ⟨_, l2, hl2, f2⟩ := sum_ok F N _ _ hP o2
 have a1 : rc (opOf O) b (rc (opOf O) b (pj O (some (x1, y1))) (pj O (some (x2, y2)))) (pj O (some (x3, y3))) = sc (opOf O) (O.mul (O.mul k1 k1) k2) (pj O (sumR O (sumR O (some (x1, y1)) (some (x2, y2))) (some (x3, y3)))) := by
   rw [e1, rc_l F, e2, sc_sc F]
 have a2 : rc (opOf O) b (pj O (some (x1, y1))) (rc (opOf O) b (pj O (some (x2, y2))) (pj O (some (x3, y3)))) = sc (opOf O) (O.mul (O.mul l1 l1) l2) (pj O (sumR O (some (x1, y1)) (sumR O (some (x2, y2)) (some (x3, y3))))) := by
   rw [f1, rc_r F, f2, sc_sc F]
 have v1 : O.mul (rc (opOf O) b (rc (opOf O) b (pj O (some (x1, y1))) (pj O (some (x2, y2)))) (pj O (some (x3, y3)))).x (rc (opOf O) b (pj O (some (x1, y1))) (rc (opOf O) b (pj O (some (x2, y2))) (pj O (some (x3, y3))))).z =
     O.mul (rc (opOf O) b (pj O (some (x1, y1))) (rc (opOf O) b (pj O (some (x2, y2))) (pj O (some (x3, y3))))).x (rc (opOf O) b (rc (opOf O) b (pj O (some (x1, y1))) (pj O (some (x2, y2)))) (pj O (some (x3, y3)))).z :=
   F.eq_of_sub (van F.cr chk_xz h1 h2 h3)
 have v2 : O.mul (rc (opOf O) b (rc (opOf O) b (pj O (some (x1, y1))) (pj O (some (x2, y2)))) (pj O (some (x3, y3)))).y (rc (opOf O) b (pj O (some (x1, y1))) (rc (opOf O) b (pj O (some (x2, y2))) (pj O (some (x3, y3))))).z =
     O.mul (rc (opOf O) b (pj O (some (x1, y1))) (rc (opOf O) b (pj O (some (x2, y2))) (pj O (some (x3, y3))))).y (rc (opOf O) b (rc (opOf O) b (pj O (some (x1, y1))) (pj O (some (x2, y2)))) (pj O (some (x3, y3)))).z :=
   F.eq_of_sub (van F.cr chk_yz h1 h2 h3)
 rw [a1, a2] at v1 v2
 exact same_pt F (F.mne (F.mne hk1 hk1) hk2) (F.mne (F.mne hl1 hl1) hl2) v1 v2
omit N in
theorem sum_neg (P : Pt α) : sumR O P (ngp O P) = none := by
 obtain _ | ⟨x, y⟩ := P
 . rfl
 . have h := F.add_neg y
   simp only [ngp, sumR, if_true, h]
end
end Gp
end
