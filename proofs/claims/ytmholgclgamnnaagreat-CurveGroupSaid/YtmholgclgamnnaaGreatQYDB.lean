import Derived.Test.YtmholgclgamnnaaGreatQYGB
import Derived.Test.YtmholgclgamnnaaGreatQYCA
import Derived.Test.YtmholgclgamnnaaGreatQYCS
section
set_option linter.unusedVariables false
set_option linter.unusedSimpArgs false
set_option linter.unusedSectionVars false
namespace Gp
def strd (δ : Nat → Nat) : Nat → Nat
  | 0 => 1
  | i + 1 => strd δ i * (δ i + 1)
def code (s : Nat → Nat) (m : Mon) : Nat → Nat
  | 0 => 0
  | n + 1 => code s m n + s n * m n
theorem code_lt (δ : Nat → Nat) (m : Mon) : ∀ n, (∀ i, i < n → m i ≤ δ i) → code (strd δ) m n < strd δ n := by
  intro n
  induction n with
  | zero => intro _; exact Nat.zero_lt_one
  | succ n ih =>
    intro h
    have h1 := ih fun i hi => h i (by omega)
    have h2 : strd δ n * m n ≤ strd δ n * δ n := Nat.mul_le_mul_left _ (h n (by omega))
    simp only [code, strd, Nat.mul_add, Nat.mul_one]
    omega
theorem code_inj (δ : Nat → Nat) (m m' : Mon) : ∀ n, (∀ i, i < n → m i ≤ δ i) → (∀ i, i < n → m' i ≤ δ i) → code (strd δ) m n = code (strd δ) m' n → ∀ i, i < n → m i = m' i := by
  intro n
  induction n with
  | zero => intro _ _ _ i hi; omega
  | succ n ih =>
    intro h h' hc i hi
    have b1 := code_lt δ m n fun i hi => h i (by omega)
    have b2 := code_lt δ m' n fun i hi => h' i (by omega)
    simp only [code] at hc
    have e1 : m n = m' n := by
      have this : (code (strd δ) m n + strd δ n * m n) / strd δ n = (code (strd δ) m' n + strd δ n * m' n) / strd δ n := by rw [hc]
      rwa [Nat.add_mul_div_left _ _ (by omega), Nat.add_mul_div_left _ _ (by omega), Nat.div_eq_of_lt b1, Nat.div_eq_of_lt b2, Nat.zero_add, Nat.zero_add] at this
    rw [e1] at hc
    by_cases hin : i = n
    · rw [hin]; exact e1
    · exact ih (fun i hi => h i (by omega)) (fun i hi => h' i (by omega)) (by omega) i (by omega)
theorem pw_z (r : Int) (n : Nat) : pw zO r n = r ^ n := by
  induction n with
  | zero => exact (Int.pow_zero r).symm
  | succ n ih => rw [pw, ih, Int.pow_succ, Int.mul_comm]; rfl
theorem mv_code (K : Int) (s : Nat → Nat) (m : Mon) (n : Nat) : mv zO (fun i => K ^ s i) m n = K ^ code s m n := by
  induction n with
  | zero => exact (Int.pow_zero K).symm
  | succ n ih =>
    rw [mv, ih, pw_z, code, Int.pow_add, Int.pow_mul]
    rfl
theorem mv_congr {α : Type} (O : Op α) (ρ : Nat → α) (m m' : Mon) : ∀ n, (∀ i, i < n → m i = m' i) → mv O ρ m n = mv O ρ m' n := by
  intro n
  induction n with
  | zero => intro _; rfl
  | succ n ih => intro h; rw [mv, mv, ih (fun i hi => h i (by omega)), h n (by omega)]
theorem pv_kv (K : Int) (s : Nat → Nat) (n : Nat) (p : Pl) : kv K (p.map fun t => (t.1, code s t.2 n)) = pv zO n (fun i => K ^ s i) p := by
  induction p with
  | nil => rfl
  | cons t p ih => simp only [List.map_cons, kv, pv, ih, mv_code]; rfl
theorem kill {α : Type} {O : Op α} (L : CR O) (n : Nat) (δ : Nat → Nat) (K : Nat) (p : Pl) (hδ : ∀ t, t ∈ p → ∀ i, i < n → t.2 i ≤ δ i) (hK : p.length < K) (h0 : pv zO n (fun i => (K : Int) ^ strd δ i) p = 0) (ρ : Nat → α) :
    pv O n ρ p = O.zero := by
  refine pair_off L n ρ (fun m => code (strd δ) m n) p.length p (Nat.le_refl _) (fun t u ht hu hc => mv_congr O ρ _ _ n (code_inj δ _ _ n (hδ t ht) (hδ u hu) hc)) ?_
  rw [← pv_kv] at h0
  exact kron K (strd δ n) _ (fun t ht => by obtain ⟨u, hu, rfl⟩ := List.mem_map.1 ht; exact code_lt δ _ n (hδ u hu)) (by rw [List.length_map]; exact hK) h0

def cE (i : Nat) : E := .a (.m (.m (.v i) (.v i)) (.v i)) (.v 3)
section
variable {α : Type} (O : Op α) (x : Nat → α)
abbrev Q1 := quad O ((cE 0).ev O x)
abbrev Q2 := quad (Q1 O x) ((cE 1).ev O x, O.zero)
abbrev Q3 := quad (Q2 O x) (((cE 2).ev O x, O.zero), (O.zero, O.zero))
def gen (i : Nat) : ((α × α) × (α × α)) × ((α × α) × (α × α)) :=
  if i < 12 then (((x i, O.zero), (O.zero, O.zero)), ((O.zero, O.zero), (O.zero, O.zero)))
  else if i = 12 then (((O.zero, O.one), (O.zero, O.zero)), ((O.zero, O.zero), (O.zero, O.zero)))
  else if i = 13 then (((O.zero, O.zero), (O.one, O.zero)), ((O.zero, O.zero), (O.zero, O.zero)))
  else if i = 14 then (((O.zero, O.zero), (O.zero, O.zero)), ((O.one, O.zero), (O.zero, O.zero)))
  else (((O.zero, O.zero), (O.zero, O.zero)), ((O.zero, O.zero), (O.zero, O.zero)))
end
def wt (i j : Nat) : Int := if j < 12 then (if j = i then 2 else 0) else if j < 15 then (if j = 12 + i then 3 else if i = 3 then 1 else 0) else 0
def nw (j : Nat) : Nat := if j < 12 then 1 else if j < 15 then 2 else 0
def Dg (i : Nat) (p : Pl) (d : Int) : Prop := ∀ t, t ∈ p → 2 * (t.2 i : Int) ≤ d
theorem ngP_mem {t : Bool × Mon} {p : Pl} (h : t ∈ ngP p) : ∃ u, u ∈ p ∧ t.2 = u.2 := by
  induction p with
  | nil => cases h
  | cons u p ih =>
    rcases List.mem_cons.1 h with rfl | h
    · exact ⟨u, List.mem_cons_self .., rfl⟩
    · obtain ⟨w, hw, e⟩ := ih h; exact ⟨w, List.mem_cons_of_mem _ hw, e⟩
theorem mulT_mem {t u : Bool × Mon} {p : Pl} (h : t ∈ mulT u p) : ∃ w, w ∈ p ∧ t.2 = fun i => u.2 i + w.2 i := by
  induction p with
  | nil => cases h
  | cons w p ih =>
    rcases List.mem_cons.1 h with rfl | h
    · exact ⟨w, List.mem_cons_self .., rfl⟩
    · obtain ⟨w, hw, e⟩ := ih h; exact ⟨w, List.mem_cons_of_mem _ hw, e⟩
theorem mulP_mem {t : Bool × Mon} {p q : Pl} (h : t ∈ mulP p q) : ∃ u w, u ∈ p ∧ w ∈ q ∧ t.2 = fun i => u.2 i + w.2 i := by
  induction p with
  | nil => cases h
  | cons u p ih =>
    rcases List.mem_append.1 h with h | h
    · obtain ⟨w, hw, e⟩ := mulT_mem h; exact ⟨u, w, List.mem_cons_self .., hw, e⟩
    · obtain ⟨a, w, ha, hw, e⟩ := ih h; exact ⟨a, w, List.mem_cons_of_mem _ ha, hw, e⟩
theorem Dg.gr (i : Nat) : Gr PO (Dg i) where
  add a b d ha hb t ht := by
    rcases List.mem_append.1 ht with h | h
    · exact ha t h
    · exact hb t h
  sub a b d ha hb t ht := by
    rcases List.mem_append.1 ht with h | h
    · exact ha t h
    · obtain ⟨u, hu, e⟩ := ngP_mem h; rw [e]; exact hb u hu
  mul a b d e ha hb t ht := by
    obtain ⟨u, w, hu, hw, e⟩ := mulP_mem ht
    have := ha u hu
    have := hb w hw
    rw [e]
    simp only
    omega
  zero d t ht := by cases ht
  one t ht := by
    rcases List.mem_cons.1 ht with rfl | h
    · simp
    · cases h
  mono a d e ha hd t ht := Int.le_trans (ha t ht) hd
theorem Dg.vr (i j : Nat) : Dg i (vr j) (if j = i then 2 else 0) := by
  intro t ht
  rcases List.mem_cons.1 ht with rfl | h
  · simp only
    by_cases h : j = i
    · rw [if_pos h, if_pos h.symm]; decide
    · rw [if_neg h, if_neg (fun e => h e.symm)]; decide
  · cases h
theorem Nm.len : Nm PO List.length where
  add a b := by show (a ++ b).length ≤ _; rw [List.length_append]; exact Nat.le_refl _
  sub a b := by
    show (a ++ ngP b).length ≤ _
    have : (ngP b).length = b.length := by induction b with | nil => rfl | cons t b ih => simp only [ngP, List.length_cons, ih]
    rw [List.length_append, this]
    exact Nat.le_refl _
  mul a b := by
    show (mulP a b).length ≤ _
    have h1 : ∀ (t : Bool × Mon) (q : Pl), (mulT t q).length = q.length := by intro t q; induction q with | nil => rfl | cons u q ih => simp only [mulT, List.length_cons, ih]
    have : (mulP a b).length = a.length * b.length := by
      induction a with
      | nil => simp [mulP]
      | cons t a ih => simp only [mulP, List.length_append, h1, ih, List.length_cons, Nat.add_mul]; omega
    rw [this]
    exact Nat.le_refl _
  zero := rfl
  one := Nat.le_refl _
theorem Dg.f (i j : Nat) (hj : j < 3) : Dg i ((cE j).ev PO Gp.vr) (2 * wt i (12 + j)) := by
  have h := (Dg.gr i).ev (Dg.vr i) (cE j)
  refine (Dg.gr i).mono _ _ _ h ?_
  simp only [cE, E.dg, wt]
  rw [if_neg (show ¬ 12 + j < 12 by omega), if_pos (show 12 + j < 15 by omega)]
  refine Int.max_le.2 ⟨?_, ?_⟩
  all_goals repeat' split
  all_goals omega
def zr8 {α : Type} (z : α) : ((α × α) × (α × α)) × ((α × α) × (α × α)) := (((z, z), (z, z)), ((z, z), (z, z)))
def kg (δ : Nat → Nat) (K : Nat) (i : Nat) : Int := (K : Int) ^ strd δ i

/-- What falls off in whole numbers falls off everywhere. -/
theorem vanish {α : Type} {O : Op α} (L : CR O) (e : E) (δ : Nat → Nat) (K : Nat) (hd : ∀ i, i < 12 → e.dg (wt i) ≤ 2 * (δ i : Int) + 1) (hn : e.nm nw < K)
    (hz : e.ev (Q3 zO (kg δ K)) (gen zO (kg δ K)) = zr8 0) (l : List α) (hl : l.length ≤ 15)
    (h1 : O.mul (l.getD 12 O.zero) (l.getD 12 O.zero) = (cE 0).ev O (fun i => l.getD i O.zero)) (h2 : O.mul (l.getD 13 O.zero) (l.getD 13 O.zero) = (cE 1).ev O (fun i => l.getD i O.zero))
    (h3 : O.mul (l.getD 14 O.zero) (l.getD 14 O.zero) = (cE 2).ev O (fun i => l.getD i O.zero)) : e.ev O (fun i => l.getD i O.zero) = O.zero := by
  obtain ⟨ρ, hρ⟩ : ∃ ρ : Nat → α, ρ = fun i => l.getD i O.zero := ⟨_, rfl⟩
  rw [← hρ]
  rw [← hρ] at h1 h2 h3
  have q1 : l.getD 12 O.zero = ρ 12 := by rw [hρ]
  have q2 : l.getD 13 O.zero = ρ 13 := by rw [hρ]
  have q3 : l.getD 14 O.zero = ρ 14 := by rw [hρ]
  have q4 : ∀ i, 15 ≤ i → ρ i = O.zero := fun i hi => by
    rw [hρ]
    show l.getD i O.zero = _
    rw [List.getD_eq_getElem?_getD, List.getElem?_eq_none (by omega)]; rfl
  rw [q1] at h1
  rw [q2] at h2
  rw [q3] at h3
  clear q1 q2 q3 hρ hl
  -- into the ring
  have c0 := pv_hom L 12 ρ
  have fv : ∀ j, j < 3 → pv O 12 ρ ((cE j).ev PO vr) = (cE j).ev O ρ := fun j hj => by
    rw [c0.ev]
    simp only [cE, E.ev, pv_vr L 12 ρ j (by omega), pv_vr L 12 ρ 3 (by omega)]
  have c1 := c0.quad L ((cE 0).ev PO vr) (ρ 12) (by rw [fv 0 (by omega)]; exact h1)
  have c2 := c1.quad L ((cE 1).ev PO vr, PO.zero) (ρ 13) (by
    show _ = O.add _ (O.mul _ O.zero)
    rw [L.mul_zero, L.add_zero, fv 1 (by omega)]; exact h2)
  have c3 := c2.quad L (((cE 2).ev PO vr, PO.zero), (PO.zero, PO.zero)) (ρ 14) (by
    show _ = O.add (O.add _ (O.mul _ O.zero)) (O.mul _ (O.add O.zero (O.mul _ O.zero)))
    simp only [L.mul_zero, L.add_zero]
    rw [fv 2 (by omega)]; exact h3)
  -- into the whole numbers
  have k0 := pv_hom zL 12 (kg δ K)
  have fz : ∀ j, j < 3 → pv zO 12 (kg δ K) ((cE j).ev PO vr) = (cE j).ev zO (kg δ K) := fun j hj => by
    rw [k0.ev]
    simp only [cE, E.ev, pv_vr zL 12 (kg δ K) j (by omega), pv_vr zL 12 (kg δ K) 3 (by omega)]
  have k1 := k0.map ((cE 0).ev PO vr)
  rw [fz 0 (by omega)] at k1
  have k2 := k1.map ((cE 1).ev PO vr, PO.zero)
  rw [fz 1 (by omega)] at k2
  have k3 := k2.map (((cE 2).ev PO vr, PO.zero), (PO.zero, PO.zero))
  rw [fz 2 (by omega)] at k3
  -- bounds
  have g3 := fun i => (((Dg.gr i).quad _ _ (Dg.f i 0 (by omega))).quad ((cE 1).ev PO vr, PO.zero) (wt i (12 + 1)) ⟨Dg.f i 1 (by omega), (Dg.gr i).zero _⟩).quad (((cE 2).ev PO vr, PO.zero), (PO.zero, PO.zero)) (wt i (12 + 2))
    ⟨⟨Dg.f i 2 (by omega), (Dg.gr i).zero _⟩, (Dg.gr i).zero _, (Dg.gr i).zero _⟩
  have n3 := ((Nm.len.quad ((cE 0).ev PO vr) (by decide)).quad ((cE 1).ev PO vr, PO.zero) (by decide)).quad (((cE 2).ev PO vr, PO.zero), (PO.zero, PO.zero)) (by decide)
  obtain ⟨X, hX⟩ : ∃ X, X = e.ev (Q3 PO vr) (gen PO vr) := ⟨_, rfl⟩
  have hv := c3.ev (gen PO vr) e
  have hk := k3.ev (gen PO vr) e
  have hg := fun i => (g3 i).ev (ρ := gen PO vr) (w := wt i) (fun j => by
    have z := (Dg.gr i).zero
    unfold gen
    split
    · refine ⟨⟨⟨?_, z _⟩, z _, z _⟩, ⟨z _, z _⟩, z _, z _⟩
      rename_i h
      unfold wt
      rw [if_pos h]
      exact Dg.vr i j
    split
    · rename_i h; subst h
      refine ⟨⟨⟨z _, ?_⟩, z _, z _⟩, ⟨z _, z _⟩, z _, z _⟩
      exact (Dg.gr i).mono _ _ _ (Dg.gr i).one (by simp)
    split
    · rename_i h; subst h
      refine ⟨⟨⟨z _, z _⟩, ?_, z _⟩, ⟨z _, z _⟩, z _, z _⟩
      exact (Dg.gr i).mono _ _ _ (Dg.gr i).one (by simp)
    split
    · rename_i h; subst h
      refine ⟨⟨⟨z _, z _⟩, z _, z _⟩, ⟨?_, z _⟩, z _, z _⟩
      exact (Dg.gr i).mono _ _ _ (Dg.gr i).one (by simp)
    · exact ⟨⟨⟨z _, z _⟩, z _, z _⟩, ⟨z _, z _⟩, z _, z _⟩) e
  have hm := n3.ev (ρ := gen PO vr) (w := nw) (fun j => by
    unfold gen nw
    split
    · exact Nat.le_refl 1
    split
    · rename_i h; subst h; decide
    split
    · rename_i h; subst h; decide
    split
    · rename_i h; subst h; decide
    · exact Nat.zero_le _) e
  have r1 : (fun i => (fun x => O.add (O.add (O.add (pv O 12 ρ x.1.1.1) (O.mul (ρ 12) (pv O 12 ρ x.1.1.2))) (O.mul (ρ 13) (O.add (pv O 12 ρ x.1.2.1) (O.mul (ρ 12) (pv O 12 ρ x.1.2.2)))))
      (O.mul (ρ 14) (O.add (O.add (pv O 12 ρ x.2.1.1) (O.mul (ρ 12) (pv O 12 ρ x.2.1.2))) (O.mul (ρ 13) (O.add (pv O 12 ρ x.2.2.1) (O.mul (ρ 12) (pv O 12 ρ x.2.2.2))))))) (gen PO vr i)) = ρ := by
    funext i
    have z : pv O 12 ρ PO.zero = O.zero := c0.zero
    have o : pv O 12 ρ PO.one = O.one := c0.one
    have mo : ∀ a, O.mul a O.one = a := fun a => by rw [L.mul_comm, L.one_mul]
    unfold gen
    split
    · rename_i h
      simp only [z, pv_vr L 12 ρ i h, L.mul_zero, L.add_zero]
    split
    · rename_i h; subst h
      simp only [z, o, mo, L.mul_zero, L.add_zero, L.zero_add]
    split
    · rename_i h; subst h
      simp only [z, o, mo, L.mul_zero, L.add_zero, L.zero_add]
    split
    · rename_i h; subst h
      simp only [z, o, mo, L.mul_zero, L.add_zero, L.zero_add]
    · rw [q4 i (by omega)]
      simp only [z, L.mul_zero, L.add_zero]
  have r2 : (fun i => (fun x : ((Pl × Pl) × (Pl × Pl)) × ((Pl × Pl) × (Pl × Pl)) => (((pv zO 12 (kg δ K) x.1.1.1, pv zO 12 (kg δ K) x.1.1.2), (pv zO 12 (kg δ K) x.1.2.1, pv zO 12 (kg δ K) x.1.2.2)),
      ((pv zO 12 (kg δ K) x.2.1.1, pv zO 12 (kg δ K) x.2.1.2), (pv zO 12 (kg δ K) x.2.2.1, pv zO 12 (kg δ K) x.2.2.2)))) (gen PO vr i)) = gen zO (kg δ K) := by
    funext i
    have z : pv zO 12 (kg δ K) PO.zero = zO.zero := k0.zero
    have o : pv zO 12 (kg δ K) PO.one = zO.one := k0.one
    unfold gen
    split
    · rename_i h
      simp only [z, pv_vr zL 12 (kg δ K) i h]
    split
    · simp only [z, o]
    split
    · simp only [z, o]
    split
    · simp only [z, o]
    · simp only [z]
  replace hv := hv.trans (congrArg (fun r => e.ev O r) r1)
  replace hk := hk.trans ((congrArg (fun r => e.ev (Q3 zO (kg δ K)) r) r2).trans hz)
  rw [← hv]
  change (((pv zO 12 (kg δ K) (e.ev (Q3 PO vr) (gen PO vr)).1.1.1, _), (_, _)), ((_, _), (_, _))) = _ at hk
  rw [← hX] at hk hm hg ⊢
  simp only [zr8, Prod.mk.injEq] at hk
  obtain ⟨⟨⟨a1, a2⟩, a3, a4⟩, ⟨a5, a6⟩, a7, a8⟩ := hk
  have wp : ∀ i j, 0 ≤ wt i j := fun i j => by unfold wt; repeat' split
                                               all_goals decide
  have fin : ∀ p : Pl, p.length < K → (∀ i, i < 12 → Dg i p (e.dg (wt i))) → pv zO 12 (kg δ K) p = 0 → pv O 12 ρ p = O.zero := by
    intro p hp hb h0
    refine kill L 12 δ K p (fun t ht i hi => ?_) hp h0 ρ
    have := hb i hi t ht
    have := hd i hi
    omega
  have up : ∀ i (p : Pl) d w, 0 ≤ w → Dg i p (d - w) → Dg i p d := fun i p d w hw h => (Dg.gr i).mono _ _ _ h (by omega)
  have b1 := fin X.1.1.1 (by omega) (fun i _ => (hg i).1.1.1) a1
  have b2 := fin X.1.1.2 (by omega) (fun i _ => up _ _ _ _ (wp _ _) (hg i).1.1.2) a2
  have b3 := fin X.1.2.1 (by omega) (fun i _ => up _ _ _ _ (wp _ _) (hg i).1.2.1) a3
  have b4 := fin X.1.2.2 (by omega) (fun i _ => up _ _ _ _ (wp _ _) (up _ _ _ _ (wp _ _) (hg i).1.2.2)) a4
  have b5 := fin X.2.1.1 (by omega) (fun i _ => up _ _ _ _ (wp _ _) (hg i).2.1.1) a5
  have b6 := fin X.2.1.2 (by omega) (fun i _ => up _ _ _ _ (wp _ _) (up _ _ _ _ (wp _ _) (hg i).2.1.2)) a6
  have b7 := fin X.2.2.1 (by omega) (fun i _ => up _ _ _ _ (wp _ _) (up _ _ _ _ (wp _ _) (hg i).2.2.1)) a7
  have b8 := fin X.2.2.2 (by omega) (fun i _ => up _ _ _ _ (wp _ _) (up _ _ _ _ (wp _ _) (up _ _ _ _ (wp _ _) (hg i).2.2.2))) a8
  simp only [b1, b2, b3, b4, b5, b6, b7, b8, L.mul_zero, L.add_zero]
end Gp
end
section
set_option linter.unusedVariables false
set_option linter.unusedSimpArgs false
set_option linter.unusedSectionVars false
namespace Gp
def E.dl (e : E) (i : Nat) : Nat := (e.dg (wt i)).toNat / 2
def E.kk (e : E) : Nat := e.nm nw + 1
/-- Whether an expression falls off on curves. -/
def E.chk (e : E) : Bool := decide (e.ev (Q3 zO (kg e.dl e.kk)) (gen zO (kg e.dl e.kk)) = zr8 0)
def val0 {α : Type} (O : Op α) (a0 a1 a2 a3 a4 a5 a6 a7 : α) (i : Nat) : α := [O.zero, O.zero, O.zero, O.zero, a0, a1, a2, a3, a4, a5, a6, a7].getD i O.zero
section
variable {α : Type} {O : Op α} (L : CR O)
include L
theorem van0 {e : E} (h : e.chk = true) (a0 a1 a2 a3 a4 a5 a6 a7 : α) : e.ev O (val0 O a0 a1 a2 a3 a4 a5 a6 a7) = O.zero := by
  have h0 : O.mul O.zero O.zero = O.add (O.mul (O.mul O.zero O.zero) O.zero) O.zero := by simp only [L.mul_zero, L.zero_add]
  exact vanish L e e.dl e.kk (fun i _ => by unfold E.dl; omega) (Nat.lt_succ_self _) (of_decide_eq_true h) [O.zero, O.zero, O.zero, O.zero, a0, a1, a2, a3, a4, a5, a6, a7] (show 12 ≤ 15 by decide) h0 h0 h0
end
/-- Complete sums (Renes, Costello, Batina) on y^2 = x^3 + b. -/
structure T3 (α : Type) where
  x : α
  y : α
  z : α
section
variable {α : Type} (O : Op α)
end
abbrev x1 := E.v 0
abbrev x2 := E.v 1
abbrev x3 := E.v 2
abbrev bb := E.v 3
abbrev y1 := E.v 12
abbrev y2 := E.v 13
abbrev y3 := E.v 14
set_option maxRecDepth 100000
def dd : E := .s x2 x1
def neg (e : E) : E := .s (.s .o .o) e
/-- Tangents. -/
def tt : E := .a y1 y1
def ee : E := .a (.a (.m x1 x1) (.m x1 x1)) (.m x1 x1)
end Gp
end
section
set_option linter.unusedSectionVars false
set_option linter.unusedVariables false
namespace Gp
open Cv
def opOf {α : Type} (O : Ops α) : Op α := ⟨O.add, O.sub, O.mul, O.zero, O.one⟩
structure Fd {α : Type} (O : Ops α) : Prop where
  cr : CR (opOf O)
  inv : ∀ a, a ≠ O.zero → O.mul a (O.inv a) = O.one
  ne : O.one ≠ O.zero
  two : O.add O.one O.one ≠ O.zero
section
variable {α : Type} [DecidableEq α] {O : Ops α} (F : Fd O)
include F
theorem Fd.mul_zero (a : α) : O.mul a O.zero = O.zero := F.cr.mul_zero a
theorem Fd.zero_mul (a : α) : O.mul O.zero a = O.zero := F.cr.zero_mul a
theorem Fd.mul_comm (a b : α) : O.mul a b = O.mul b a := F.cr.mul_comm a b
theorem Fd.mul_assoc (a b c : α) : O.mul (O.mul a b) c = O.mul a (O.mul b c) := F.cr.mul_assoc a b c
theorem Fd.one_mul (a : α) : O.mul O.one a = a := F.cr.one_mul a
theorem Fd.mul_one (a : α) : O.mul a O.one = a := by rw [F.mul_comm, F.one_mul]
theorem Fd.add_zero (a : α) : O.add a O.zero = a := F.cr.add_zero a
theorem Fd.zero_add (a : α) : O.add O.zero a = a := F.cr.zero_add a
theorem Fd.add_comm (a b : α) : O.add a b = O.add b a := F.cr.add_comm a b
theorem Fd.sub_self (a : α) : O.sub a a = O.zero := F.cr.sub_self a
theorem Fd.eq_of_sub {a b : α} (h : O.sub a b = O.zero) : a = b := F.cr.eq_of_sub h
theorem Fd.sub_of_eq {a b : α} (h : a = b) : O.sub a b = O.zero := by rw [h, F.sub_self]
theorem Fd.sub_zero (a : α) : O.sub a O.zero = a := by
  have := F.cr.sub_add a O.zero
  exact (F.cr.add_zero _).symm.trans this
theorem Fd.dom {a b : α} (h : O.mul a b = O.zero) : a = O.zero ∨ b = O.zero := by
  by_cases ha : a = O.zero
  · exact .inl ha
  · refine .inr ?_
    have := congrArg (O.mul (O.inv a)) h
    rwa [F.mul_zero, ← F.mul_assoc, F.mul_comm _ a, F.inv a ha, F.one_mul] at this
theorem Fd.mne {a b : α} (ha : a ≠ O.zero) (hb : b ≠ O.zero) : O.mul a b ≠ O.zero := fun h => (F.dom h).elim ha hb
theorem Fd.cancel {a b c : α} (hc : c ≠ O.zero) (h : O.mul a c = O.mul b c) : a = b := by
  have := congrArg (fun z => O.mul z (O.inv c)) h
  simpa only [F.mul_assoc, F.inv c hc, F.mul_one] using this
end
/-- Pure rules. -/
abbrev w0 := E.v 4
abbrev w1 := E.v 5
abbrev w2 := E.v 6
abbrev w3 := E.v 7
abbrev w4 := E.v 8
abbrev w5 := E.v 9
abbrev w6 := E.v 10
abbrev w7 := E.v 11
/-- y, x, d, b -/
theorem chk_l3 : (E.s (.s (.m (.m w0 (.m w2 (.m w2 w2))) (.m w0 (.m w2 (.m w2 w2)))) (.a (.m (.m (.m w1 (.m w2 w2)) (.m w1 (.m w2 w2))) (.m w1 (.m w2 w2))) (.m w3 (.m (.m w2 (.m w2 w2)) (.m w2 (.m w2 w2))))))
    (.m (.s (.m w0 w0) (.a (.m (.m w1 w1) w1) w3)) (.m (.m w2 (.m w2 w2)) (.m w2 (.m w2 w2))))).chk = true := by decide +kernel
section
variable {α : Type} [DecidableEq α] {O : Ops α} (F : Fd O)
include F
theorem back {d x y b : α} (hd : d ≠ O.zero) (h : O.mul (O.mul y (O.mul d (O.mul d d))) (O.mul y (O.mul d (O.mul d d))) =
    O.add (O.mul (O.mul (O.mul x (O.mul d d)) (O.mul x (O.mul d d))) (O.mul x (O.mul d d))) (O.mul b (O.mul (O.mul d (O.mul d d)) (O.mul d (O.mul d d))))) :
    O.mul y y = O.add (O.mul (O.mul x x) x) b := by
  have h1 := F.eq_of_sub (van0 F.cr chk_l3 y x d b O.zero O.zero O.zero O.zero)
  have h2 := F.sub_of_eq h
  have h3 : O.mul (O.sub (O.mul y y) (O.add (O.mul (O.mul x x) x) b)) (O.mul (O.mul d (O.mul d d)) (O.mul d (O.mul d d))) = O.zero := h1.symm.trans h2
  rcases F.dom h3 with h4 | h4
  · exact F.eq_of_sub h4
  · exact absurd h4 (F.mne (F.mne hd (F.mne hd hd)) (F.mne hd (F.mne hd hd)))
variable {b : α}
end
end Gp
end
section
set_option linter.unusedSectionVars false
set_option linter.unusedVariables false
set_option linter.unusedSimpArgs false
namespace Gp
open Cv
def sc {α : Type} (O : Op α) (l : α) (p : T3 α) : T3 α := ⟨O.mul l p.x, O.mul l p.y, O.mul l p.z⟩
/-- The complete sum is of degree two in either point. -/
def hP : T3 E := ⟨w1, w2, w3⟩
def hQ : T3 E := ⟨w4, w5, w6⟩
section
variable {α : Type} [DecidableEq α] {O : Ops α} (F : Fd O)
include F
end
/-- No point of order two. -/
def No2 {α : Type} (O : Ops α) (b : α) : Prop := ∀ x, O.add (O.mul (O.mul x x) x) b ≠ O.zero
section
variable {α : Type} [DecidableEq α] {O : Ops α} (F : Fd O) {b : α} (N : No2 O b)
include F
include N
omit N in
omit N in
end
end Gp
end
section
set_option linter.unusedVariables false
set_option linter.unusedSectionVars false
set_option linter.unusedSimpArgs false
namespace Go.Proofs.YtmholgclgamnnaaGreat
open Go Eng
set_option maxRecDepth 100000
set_option exponentiation.threshold 2000
set_option maxHeartbeats 4000000
section
variable {p : Nat} [NeZero p]
theorem laws1p {b : Nat} (hp : PrM b p) : Cv.Laws (Cv.ops1 (Cv.inv1 (p := p))) := Cv.laws1 _ (one_ne hp)
end
end Go.Proofs.YtmholgclgamnnaaGreat
end
section
set_option linter.unusedVariables false
set_option linter.unusedSectionVars false
set_option linter.unusedSimpArgs false
namespace Go.Proofs.YtmholgclgamnnaaGreat
open Go Eng
set_option maxRecDepth 100000
set_option exponentiation.threshold 2000
set_option maxHeartbeats 4000000
theorem inv1_uniq {n p : Nat} [NeZero p] (hp : PrM n p) {a b : Fin p} (h : a * b = 1) : Cv.inv1 a = b := by
  have L := laws1p hp
  have ha : a ≠ 0 := fun e => by
    rw [e] at h
    exact one_ne hp (h.symm.trans (L.zero_mul b))
  have hi : Cv.inv1 a * a = 1 := (Fin.mul_comm _ _).trans (Cv.inv1_ok hp.pr hp.two a ha)
  have h1 : (Cv.inv1 a * a) * b = Cv.inv1 a * (a * b) := L.assoc _ _ _
  rw [h, hi] at h1
  exact (L.mul_one (Cv.inv1 a)).symm.trans (h1.symm.trans (L.one_mul b))
theorem bn_two : mulP (fo bnP 3) ⟨1, 2, false⟩ 2 = (⟨1368015179489954701390400359078579693043519447331113978918064868415326638035, 9918110051302171585080402603319702774565515993150576347155970296011118125764, false⟩, 0) := by
  have g : good1 (fo bnP 3) ⟨1, 2, false⟩ = 0 := by decide +kernel
  have hx : (Cv.tm (Cv.ops1 Cv.inv1) (Cv.up (Cv.ops1 Cv.inv1) (ptOf bnP ⟨1, 2, false⟩)) 2 256 256).x = fo bnP 21888242871839275222246405745257275088696311157297823662689037894645226208560 := by decide +kernel
  have hy : (Cv.tm (Cv.ops1 Cv.inv1) (Cv.up (Cv.ops1 Cv.inv1) (ptOf bnP ⟨1, 2, false⟩)) 2 256 256).y = fo bnP 21888242871839275222246405745257275088696311157297823662689037894645226208572 := by decide +kernel
  have hz : (Cv.tm (Cv.ops1 Cv.inv1) (Cv.up (Cv.ops1 Cv.inv1) (ptOf bnP ⟨1, 2, false⟩)) 2 256 256).z = fo bnP 4 := by decide +kernel
  have e : Cv.inv1 (fo bnP 4) = fo bnP 5472060717959818805561601436314318772174077789324455915672259473661306552146 := inv1_uniq bnPr (by decide +kernel)
  unfold mulP
  rw [if_neg (fun h => h g)]
  generalize Cv.tm (Cv.ops1 Cv.inv1) (Cv.up (Cv.ops1 Cv.inv1) (ptOf bnP ⟨1, 2, false⟩)) 2 256 256 = j at *
  obtain ⟨x, y, z⟩ := j
  dsimp only at hx hy hz
  subst hx hy hz
  unfold Cv.down
  rw [if_neg (by decide +kernel)]
  dsimp only [Cv.ops1]
  rw [e]
  have v1 : (fo bnP 21888242871839275222246405745257275088696311157297823662689037894645226208560 * (fo bnP 5472060717959818805561601436314318772174077789324455915672259473661306552146 * fo bnP 5472060717959818805561601436314318772174077789324455915672259473661306552146)).val = 1368015179489954701390400359078579693043519447331113978918064868415326638035 := by decide +kernel
  have v2 : (fo bnP 21888242871839275222246405745257275088696311157297823662689037894645226208572 * (fo bnP 5472060717959818805561601436314318772174077789324455915672259473661306552146 * fo bnP 5472060717959818805561601436314318772174077789324455915672259473661306552146) * fo bnP 5472060717959818805561601436314318772174077789324455915672259473661306552146).val = 9918110051302171585080402603319702774565515993150576347155970296011118125764 := by decide +kernel
  show ((⟨(fo bnP 21888242871839275222246405745257275088696311157297823662689037894645226208560 * (fo bnP 5472060717959818805561601436314318772174077789324455915672259473661306552146 * fo bnP 5472060717959818805561601436314318772174077789324455915672259473661306552146)).val, (fo bnP 21888242871839275222246405745257275088696311157297823662689037894645226208572 * (fo bnP 5472060717959818805561601436314318772174077789324455915672259473661306552146 * fo bnP 5472060717959818805561601436314318772174077789324455915672259473661306552146) * fo bnP 5472060717959818805561601436314318772174077789324455915672259473661306552146).val, false⟩ : PtA), 0) = _
  rw [v1, v2]
theorem bn_two_good : good1 (fo bnP 3) ⟨1368015179489954701390400359078579693043519447331113978918064868415326638035, 9918110051302171585080402603319702774565515993150576347155970296011118125764, false⟩ = 0 := by decide +kernel
end Go.Proofs.YtmholgclgamnnaaGreat
end
