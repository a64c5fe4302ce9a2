/- The engine, part 5: the pure operations keep what is known. -/
import Derived.Test.YtlmlganfjnokiaaE4
import Derived.Laws.StructEq
set_option linter.unusedSimpArgs false
set_option linter.unusedVariables false
namespace Eng
open Go

structure TyOk (P : Program) (T : Ty) : Prop where
  int : ∀ t k, T.und t = .int k → P.underlying t = some (.int k)
  bool : ∀ t, T.und t = .bool → P.underlying t = some .bool
  str : ∀ t, T.und t = .str → P.underlying t = some .string
  ptr : ∀ t e, T.und t = .ptr e → P.underlying t = some (.pointer e)
  slice : ∀ t e, T.und t = .slice e → P.underlying t = some (.slice e)
  arr : ∀ t n e, T.und t = .arr n e → P.underlying t = some (.array n e)
  struct : ∀ t fs, T.und t = .struct fs → ∃ fields : Array Field, P.underlying t = some (.struct fields) ∧ fields.toList.map (fun f => (f.offset, f.type, f.name)) = fs ∧ P.stoodInHeld t = false ∧ ∀ f ∈ fields.toList, (P.info? f.type).isSome = true
  iface : ∀ t ms, T.und t = .iface ms → P.underlying t = some (.interface ms.toArray)
  info : ∀ t, T.und t ≠ .other → ∃ i, P.info? t = some i ∧ i.size = T.size t ∧ i.bytes = T.bytes t ∧ ∃ z, i.zero = some z ∧ z.cells.toList = T.zero t ∧ (isAgg (T.und t) = true → z = .agg (T.zero t).toArray) ∧ (isAgg (T.und t) = false → oneV z = true)
  other : ∀ t, T.und t = .other → T.size t = 0
  zlen : ∀ t, (T.zero t).length = T.size t
  eqok : ∀ t, T.eqok t = true → P.eqGuardType P.depth t = false
  meth : ∀ t name f, T.meth t name = some f → ∀ v w, (method (P.types.size + Made.depth) t v name).run P w = .ok (f, v) w

section
variable {P : Program} {T : Ty} {w : World}

theorem TyOk.size (hT : TyOk P T) {t : TypeId} (h : T.und t ≠ .other) : (Go.sizeOf t).run P w = .ok (T.size t) w := by
  obtain ⟨i, hi, hs, _⟩ := hT.info t h
  simp [Go.sizeOf, typeInfo, hi, hs]
theorem TyOk.cellsOf (hT : TyOk P T) {t : TypeId} (h : T.und t ≠ .other) : P.cellsOf t = T.size t := by
  obtain ⟨i, hi, hs, _⟩ := hT.info t h
  simp [Program.cellsOf, hi, hs]
theorem TyOk.und (hT : TyOk P T) {t : TypeId} (h : T.und t ≠ .other) : ∃ d, P.underlying t = some d ∧ ((match d with | .struct _ => true | .array _ _ => true | _ => false) = isAgg (T.und t)) := by
  cases hu : T.und t with
  | int k => exact ⟨_, hT.int t k hu, rfl⟩
  | bool => exact ⟨_, hT.bool t hu, rfl⟩
  | str => exact ⟨_, hT.str t hu, rfl⟩
  | ptr e => exact ⟨_, hT.ptr t e hu, rfl⟩
  | slice e => exact ⟨_, hT.slice t e hu, rfl⟩
  | arr n e => exact ⟨_, hT.arr t n e hu, rfl⟩
  | struct fs => obtain ⟨f, hf, _⟩ := hT.struct t fs hu; exact ⟨_, hf, rfl⟩
  | iface ms => exact ⟨_, hT.iface t ms hu, rfl⟩
  | other => exact absurd hu h
theorem TyOk.isAgg (hT : TyOk P T) {t : TypeId} (h : T.und t ≠ .other) : (Go.isAgg t).run P w = .ok (Eng.isAgg (T.und t)) w := by
  obtain ⟨d, hd, he⟩ := hT.und h
  rw [← he]
  unfold Go.isAgg
  rw [Sem.run_bind, run_underlying hd w]
  cases d <;> simp
theorem TyOk.zero (hT : TyOk P T) {t : TypeId} (h : T.und t ≠ .other) : ∃ z, (zeroValue t).run P w = .ok z w ∧ z.cells.toList = T.zero t ∧ (Eng.isAgg (T.und t) = true → z = .agg (T.zero t).toArray) ∧ (Eng.isAgg (T.und t) = false → oneV z = true) := by
  obtain ⟨i, hi, _, _, z, hz, hc⟩ := hT.info t h
  exact ⟨z, by simp [zeroValue, typeInfo, hi, hz], hc⟩

variable {X : Nat → Prop} {ρ : Nat → Option Nat}

theorem part_cases {t : TypeId} {cs : List AVal} {off : Nat} {y : AVal} (h : part T t cs off = some y) :
    T.und t ≠ .other ∧ ((isAgg (T.und t) = true ∧ ∃ r, lsub cs off (T.size t) = some r ∧ y = .agg r) ∨ (isAgg (T.und t) = false ∧ lget cs off = some y)) := by
  unfold part at h
  cases hu : T.und t <;> rw [hu] at h <;> simp at h <;> simp [isAgg] <;> first
    | exact h
    | (obtain ⟨r, hr, rfl⟩ := h; exact ⟨r, hr, rfl⟩)

/-- A part of an aggregate. -/
theorem part_run (hT : TyOk P T) {t : TypeId} {vs : List Value} {cs : List AVal} {off : Nat} {y : AVal} (hr : RepL w X ρ vs cs) (h : part T t cs off = some y) :
    ∃ v, (Go.part t vs.toArray off).run P w = .ok v w ∧ Rep w X ρ v y := by
  obtain ⟨hu, ⟨ha, r, hr', rfl⟩ | ⟨ha, hg⟩⟩ := part_cases h
  · obtain ⟨hlen, hrep⟩ := hr.sub hr'
    refine ⟨.agg (vs.toArray.extract off (off + T.size t)), by simp [Go.part, hT.isAgg hu, ha, hT.size hu], ?_⟩
    have : vs.toArray.extract off (off + T.size t) = ((vs.drop off).take (T.size t)).toArray := by
      simp [List.extract_toArray, List.extract, List.take_drop]
    rw [this]
    exact hrep.agg
  · obtain ⟨v, hv, hrep⟩ := hr.get hg
    exact ⟨v, by simp [Go.part, hT.isAgg hu, ha, hv], hrep⟩

/-- The leaves of two values say whether they are equal. -/
theorem leafL_append (l l' : List (AVal × AVal)) : (l ++ l').all leafEq = (l.all leafEq && l'.all leafEq) := by simp

theorem leaves_run (hT : TyOk P T) : ∀ (d : Nat) (t : TypeId) (x y : AVal) (l : List (AVal × AVal)) (u v : Value), leaves T d t x y = some l → Rep w X ρ u x → Rep w X ρ v y → ∀ d', d ≤ d' →
    (Op.equalIn d' t u v).run P w = .ok (l.all leafEq) w := by
  intro d
  induction d with
  | zero => intro t x y l u v h; simp [leaves] at h
  | succ d ih =>
    intro t x y l u v h hu hv d' hd
    obtain ⟨d', rfl⟩ : ∃ m, d' = m + 1 := ⟨d' - 1, by omega⟩
    unfold leaves at h
    cases ht : T.und t with
    | int k =>
      rw [ht] at h
      cases hu <;> cases hv <;> simp at h <;> (obtain ⟨rfl, rfl⟩ := h; rw [run_equalIn_int (h := hT.int t k ht)]; simp [leafEq])
    | bool =>
      rw [ht] at h
      cases hu <;> cases hv <;> simp at h <;> (subst h; rw [run_equalIn_bool (h := hT.bool t ht)]; simp [leafEq])
    | str =>
      rw [ht] at h
      cases hu <;> cases hv <;> simp only at h <;> try (cases h; done)
      cases u <;> cases v <;> simp at h
      subst h
      rw [run_equalIn_string (h := hT.str t ht)]
      simp only [List.all_cons, List.all_nil, Bool.and_true, leafEq]
      rw [beq_toListBytes]
    | arr n e =>
      rw [ht] at h
      cases x <;> try (simp at h; done)
      cases y <;> try (simp at h; done)
      rename_i xs ys
      obtain ⟨us, rfl, hus⟩ := hu.agg_inv
      obtain ⟨vs, rfl, hvs⟩ := hv.agg_inv
      simp only at h
      have he : T.und e ≠ .other := by
        intro hq; rw [hq] at h; simp at h
      have h' : leavesA (leaves T d e) (fun i => part T e xs (i * T.size e)) (fun i => part T e ys (i * T.size e)) n 0 = some l := by
        revert h; cases hq : T.und e <;> first | exact fun h => h | exact absurd hq he
      clear h
      have h := h'
      clear h'
      obtain ⟨i, hi, hs, _⟩ := hT.info e he
      rw [run_equalIn_array w d' us.toArray vs.toArray (hT.arr t _ e ht) hi, List.range_eq_range', hT.cellsOf he]
      clear ht
      revert h
      have key : ∀ (m j : Nat) (l : List (AVal × AVal)), leavesA (leaves T d e) (fun i => part T e xs (i * T.size e)) (fun i => part T e ys (i * T.size e)) m j = some l →
          (Op.eqItems d' e (T.size e) us.toArray vs.toArray (List.range' j m)).run P w = .ok (l.all leafEq) w := by
        intro m
        induction m with
        | zero => intro j l h; simp [leavesA] at h; subst h; simp [Op.eqItems]
        | succ m ihm =>
          intro j l h
          simp only [leavesA] at h
          split at h <;> try (cases h; done)
          rename_i a c ha hc
          split at h <;> try (cases h; done)
          rename_i l1 l2 h1 h2
          cases h
          obtain ⟨v1, hr1, hp1⟩ := part_run (P := P) (w := w) hT hus ha
          obtain ⟨v2, hr2, hp2⟩ := part_run (P := P) (w := w) hT hvs hc
          have h3 := ih e a c l1 v1 v2 h1 hp1 hp2 d' (by omega)
          have h4 := ihm (j + 1) l2 h2
          simp only [List.range'_succ, Op.eqItems, Sem.run_bind, hr1, hr2, h3, Result.andThen_ok]
          cases hl : l1.all leafEq
          · simp [hl]
          · simp only [Bool.not_true, Bool.false_eq_true, if_false, h4, List.all_append, hl, Bool.true_and]
      exact key n 0 l
    | struct fs =>
      rw [ht] at h
      cases x <;> try (simp at h; done)
      cases y <;> try (simp at h; done)
      rename_i xs ys
      obtain ⟨us, rfl, hus⟩ := hu.agg_inv
      obtain ⟨vs, rfl, hvs⟩ := hv.agg_inv
      simp only at h
      obtain ⟨fields, hf, hfs, hst, _⟩ := hT.struct t fs ht
      have hfo : P.fieldsOf t = fields := by simp [Program.fieldsOf, hf]
      rw [run_equalIn_struct w d' t us.toArray vs.toArray (by rw [hfo]; exact hf) hst, hfo]
      clear ht hf hfo
      revert h
      rw [← hfs]
      generalize fields.toList = fl
      have key : ∀ (fl : List Field) (l : List (AVal × AVal)), leavesS (leaves T d) (part T · xs ·) (part T · ys ·) (fl.map (fun f => (f.offset, f.type, f.name))) = some l →
          (Op.eqFields d' us.toArray vs.toArray fl).run P w = .ok (l.all leafEq) w := by
        intro fl
        induction fl with
        | nil => intro l h; simp [leavesS] at h; subst h; simp [Op.eqFields]
        | cons f fl ihf =>
          intro l h
          simp only [List.map_cons, leavesS] at h
          split at h
          · rename_i hn
            simp only [beq_iff_eq] at hn
            simp only [Op.eqFields, hn, ne_eq, not_true_eq_false, if_false]
            exact ihf l h
          · rename_i hn
            simp only [beq_eq_false_iff_ne, ne_eq] at hn
            split at h <;> try (cases h; done)
            rename_i a c ha hc
            split at h <;> try (cases h; done)
            rename_i l1 l2 h1 h2
            cases h
            obtain ⟨v1, hr1, hp1⟩ := part_run (P := P) (w := w) hT hus ha
            obtain ⟨v2, hr2, hp2⟩ := part_run (P := P) (w := w) hT hvs hc
            have h3 := ih _ a c l1 v1 v2 h1 hp1 hp2 d' (by omega)
            have h4 := ihf l2 h2
            simp only [Op.eqFields, hn, ne_eq, not_false_eq_true, if_true, Sem.run_bind, hr1, hr2, h3, Result.andThen_ok]
            cases hl : l1.all leafEq
            · simp [hl]
            · simp only [Bool.not_true, Bool.false_eq_true, if_false, h4, List.all_append, hl, Bool.true_and]
      exact key fl l
    | ptr e => rw [ht] at h; simp at h
    | slice e => rw [ht] at h; simp at h
    | iface e => rw [ht] at h; simp at h
    | other => rw [ht] at h; simp at h
end
end Eng
