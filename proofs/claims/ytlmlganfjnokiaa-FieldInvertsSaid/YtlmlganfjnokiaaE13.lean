/- The engine, part 13: operations that read or make trees. -/
import Derived.Test.YtlmlganfjnokiaaE12
import Derived.IntWalk
set_option linter.unusedSimpArgs false
set_option linter.unusedVariables false
namespace Eng
open Go

section
variable {P : Program} {T : Ty} {w w' : World} {X Z : Nat → Prop} {ρ : Nat → Option Nat} {h : List Blk}

theorem roomK_inv {el : TypeId} {m : Bool} {n : Nat} {K : Unit → Prop} (hk : roomK Ar.real T el m n K) : n * T.bytes el ≤ 140737488355328 ∧ K () := by
  unfold roomK at hk
  split at hk
  · obtain ⟨h1, h2⟩ := onlyIf_inv hk
    exact ⟨by simpa using h1, h2⟩
  · cases hk with
    | mk h1 h2 => exact ⟨by simpa [Ar.real] using h1, h2⟩

theorem run_newRow (w : World) (t : TypeId) (c : Array Value) : (newRow t c).run P w = .ok ⟨w.heap.size, 0, none⟩ (w.alloc (.cells c t)) := by
  simp only [newRow, newObj, Sem.run_bind]; rfl

theorem sliced_rep_lst {m : Bool} {l r cap sz : Nat} {cs' : List AVal} {blk off : Nat} {vs : List Value} (hX : ¬ X blk) (hb : blk < w.heap.size) (hr : w.rangeAt blk (off + l * sz) vs) (hu : RepL w X noρ vs cs')
    (h1 : l ≤ r) (h2 : r ≤ cap) (h3 : cs'.length = (r - l) * sz) :
    Rep w X ρ (.slice (if cap = l then (some ⟨blk, off, none⟩ : Option Addr) else some ((⟨blk, off, none⟩ : Addr).add (l * sz))) (r - l) (cap - l)) (.lst m (r - l) cs') := by
  by_cases hc : cap = l
  · have hz : r - l = 0 := by omega
    rw [if_pos hc, hz]
    rw [hz] at h3
    have : cs' = [] := by simpa using h3
    subst this
    exact .lst0 _ _ _
  · rw [if_neg hc, add_mid]
    exact hu.lst hX hb hr (by omega)

/-- A tree made by one allocation, behind what it froze. -/
theorem tree_rep_ref {c : Array Value} {t : TypeId} {cs : List AVal} {L : List Nat} (hh : HRel X ρ h w) (hold : ∀ b, X b → b < w.heap.size) (hr : RepL w (XXm X ρ h L) noρ c.toList cs) :
    Rep (w.alloc (.cells c t)) (XX X ρ (freeze h L)) ρ (.pointer (some ⟨w.heap.size, 0, none⟩)) (.ref cs 0) := by
  obtain ⟨h1, h2, h3, h4⟩ := new_tree (t := t) (hh.freeze L) hold (hr.weaken fun _ h => XX_freeze h)
  have := h4.ref (ρ := ρ) (off := 0) h1 h2 h3
  simpa using this
theorem tree_rep_lst {c : Array Value} {t : TypeId} {cs : List AVal} {L : List Nat} {m : Bool} {n cap : Nat} (hh : HRel X ρ h w) (hold : ∀ b, X b → b < w.heap.size) (hr : RepL w (XXm X ρ h L) noρ c.toList cs) (hn : n ≤ cap) :
    Rep (w.alloc (.cells c t)) (XX X ρ (freeze h L)) ρ (.slice (some ⟨w.heap.size, 0, none⟩) n cap) (.lst m n cs) := by
  obtain ⟨h1, h2, h3, h4⟩ := new_tree (t := t) (hh.freeze L) hold (hr.weaken fun _ h => XX_freeze h)
  exact h4.lst h1 h2 h3 hn

theorem run_buildSlice (hT : TyOk P T) {t el : TypeId} {n : Nat} {parts : Array (Nat × Operand)} {e : Operand → AVal} {ρ' : Operand → Value} {cs : List AVal} (ht : T.und t = .slice el) (hno : T.und el ≠ .other) (hn : n * T.size el ≤ 16777216)
    (he : ∀ x, Rep w X ρ (ρ' x) (e x)) (hcs : aopP.fillP T (.arr n el) (aopP.partsOf e parts.toList) (reps n (mapV (T.zero el))) = some cs) :
    ∃ c : Array Value, (Instr.buildSlice t n (parts.map fun (i, x) => (i, ρ' x))).run P w = .ok (.slice (some ⟨w.heap.size, 0, none⟩) n n) (w.alloc (.cells c el)) ∧ RepL w X ρ c.toList cs := by
  obtain ⟨z, hz, hzc, hza⟩ := hT.zero (P := P) (w := w) hno
  have hzl : z.cells.size = T.size el := by rw [← hT.zlen el, ← hzc]; simp
  have hsz := hT.size (P := P) (w := w) hno
  have hr0 : RepL w X ρ (List.replicate n z.cells.toList).flatten (reps n (mapV (T.zero el))) := (by rw [hzc]; exact (RepL.mapV _).reps n)
  have hel : notOther (T.und el) = true := by cases hq : T.und el <;> first | rfl | exact absurd hq hno
  have hrow : ((Array.range (n * T.size el)).map (fun i => z.cells[i % z.cells.size]!)).toList = (List.replicate n z.cells.toList).flatten := by rw [← hzl]; exact zeros_eq z.cells n
  obtain ⟨a', h1, h2⟩ := fillP_run (T := T) (u := .arr n el) (place := fun i => some (i * T.size el, T.size el)) he (fun i off sz h => by
    simp [aopP.placeOf, hel] at h; obtain ⟨rfl, rfl⟩ := h; rfl) parts.toList _ _ ((Array.range (n * T.size el)).map (fun i => z.cells[i % z.cells.size]!)) hcs (by rw [hrow]; exact hr0)
  refine ⟨a', ?_, h2⟩
  have h3 : ¬ (n * T.size el > 2 ^ 24) := by omega
  have hp : (parts.map fun (i, x) => (i, ρ' x)).toList = parts.toList.map fun p => (p.1, ρ' p.2) := by simp
  unfold Instr.buildSlice
  simp only [Sem.run_bind, run_underlying (hT.slice t el ht), Result.andThen_ok, hsz]
  by_cases h0 : n * T.size el = 0
  · have hemp : (#[] : Array Value) = (Array.range (n * T.size el)).map (fun i => (#[] : Array Value)[i % 0]!) := by rw [h0]; simp
    have hemp' : (Array.range (n * T.size el)).map (fun i => z.cells[i % z.cells.size]!) = #[] := by rw [h0]; simp
    rw [hemp'] at h1
    simp [h0, hp, Array.range_zero', h1, run_newRow]
  · simp [h0, h3, hz, hp, h1, run_newRow]

theorem run_makeSlice (hT : TyOk P T) {t el : TypeId} {k k' : IntKind} {n : Int} (ht : T.und t = .slice el) (hno : T.und el ≠ .other) (h0 : 0 ≤ n) (h1 : n < 100000) (h2 : T.bytes el < 100000) :
    ∃ c : Array Value, (Instr.makeSlice t (.int k n) (.int k' n)).run P w = .ok (.slice (some ⟨w.heap.size, 0, none⟩) n.toNat n.toNat) (w.alloc (.cells c el)) ∧ RepL w X ρ c.toList (reps n.toNat (mapV (T.zero el))) := by
  obtain ⟨i, hi, his, hib, z, hiz, hzc, hza⟩ := hT.info el hno
  have hzl : z.cells.size = T.size el := by rw [← hT.zlen el, ← hzc]; simp
  have hsz := hT.size (P := P) (w := w) hno
  have hti : (typeInfo el).run P w = .ok i w := by simp [typeInfo, hi]
  have hzv : (zeroValue el).run P w = .ok z w := by simp [zeroValue, typeInfo, hi, hiz]
  have hw : IntKind.i64.wrap n = n := IntWalk.i64_in n (by omega)
  have ar : ∀ m, (askRoom m).run P w = .ok () w := by intro m; unfold askRoom; split <;> rfl
  have hb : ¬ ((i.bytes : Int) * n > 2 ^ 48) := by
    rw [hib]
    have h3 : (T.bytes el : Int) * n ≤ 100000 * 100000 := by
      have a1 : (T.bytes el : Int) ≤ 100000 := by omega
      have a2 : n ≤ 100000 := by omega
      exact Int.mul_le_mul a1 a2 h0 (by omega)
    omega
  have hrow : ((Array.range (n.toNat * T.size el)).map (fun i => z.cells[i % z.cells.size]!)).toList = (List.replicate n.toNat z.cells.toList).flatten := by rw [← hzl]; exact zeros_eq z.cells n.toNat
  have hr0 : RepL w X ρ (List.replicate n.toNat z.cells.toList).flatten (reps n.toNat (mapV (T.zero el))) := (by rw [hzc]; exact (RepL.mapV _).reps n.toNat)
  refine ⟨(Array.range (n.toNat * T.size el)).map (fun i => z.cells[i % z.cells.size]!), ?_, by rw [hrow]; exact hr0⟩
  have hneg : ¬ n < 0 := by omega
  unfold Instr.makeSlice
  simp only [Sem.run_bind, run_underlying (hT.slice t el ht), Result.andThen_ok, hsz, asInt, asIntOf, Sem.run_pure, hti, hw]
  have hb' : ¬ (281474976710656 < (i.bytes : Int) * n) := by omega
  by_cases hz0 : n.toNat * T.size el = 0
  · simp [hneg, hb', ar, hz0, run_newRow, Array.range_zero', hsz]
  · simp [hneg, hb', ar, hz0, run_newRow, hzv, hsz]

theorem aopQ_sound (hT : TyOk P T) {Sp : SpecT} (hS : SpOK P Sp) (o : Oper) (a : Act) {e : Operand → AVal} {K : AVal → List Nat → Prop} (hh : HRel X ρ h w) (hold : ∀ b, X b → b < w.heap.size) (he : ∀ x, Rep w (XX X ρ h) ρ (a.eval x) (e x))
    (hq : aopQ Ar.real T Sp o e h K) {next : Act → World → Prop} {Q : Exit → Act → World → Prop}
    (hn : ∀ v y l w', K y l → Step X ρ h w ρ (freeze h l) w' → Rep w' (XX X ρ (freeze h l)) ρ v y → next (a.put o.dst v) w') : o.wp P a w next Q := by
  have stay : ∀ v y, K y [] → Rep w (XX X ρ h) ρ v y → (execOp a.eval o).run P w = .ok (.value v) w → o.wp P a w next Q := fun v y hk hr h1 =>
    value_wp h1 (hn v y [] w hk (Step.refl hh) hr)
  have grew : ∀ v y w', K y [] → Ext (fun _ => False) w w' → Rep w' (XX X ρ h) ρ v y → (execOp a.eval o).run P w = .ok (.value v) w' → o.wp P a w next Q := fun v y w' hk hx hr h1 =>
    value_wp h1 (hn v y [] w' hk (Step.grow hh hx []) hr)
  obtain ⟨dst, op, ty, pos, after, guard⟩ := o
  unfold aopQ at hq
  cases op <;> simp only at hq <;> try (exact hq.elim)
  case load t x =>
    have hx := he x
    generalize hex : e x = y at hq hx
    cases y <;> try (exact hq.elim)
    · rename_i cs off
      obtain ⟨z, hz, hk⟩ := optK_inv hq
      obtain ⟨blk, base, vs, hv, h1, h2, h3, h4⟩ := hx.ref_inv
      obtain ⟨v, hv', hr⟩ := part_load (P := P) hT h4 h3 hz
      exact stay v z hk hr.up (by simp [execOp, hv, Instr.loadAt, Instr.sureAddr, hv'])
    · rename_i id off
      obtain ⟨hl, hq⟩ := onlyIf_inv hq
      obtain ⟨z, hz, hk⟩ := optK_inv hq
      obtain ⟨blk, hv, hρ⟩ := hx.own_inv
      obtain ⟨us, hlt, hra, hth, hus⟩ := hh.read hl hρ
      obtain ⟨v, hv', hr⟩ := part_load (P := P) hT hus hra hz
      rw [Nat.zero_add] at hv'
      exact stay v z hk hr (by simp [execOp, hv, Instr.loadAt, Instr.sureAddr, hv'])
  case slice t x lo hi mx =>
    have hx := he x
    have hlo : ∀ z, lo.map e = some z → ∃ v, lo.map a.eval = some v ∧ Rep w (XX X ρ h) ρ v z := by
      intro z hz; cases lo <;> simp at hz ⊢; subst hz; exact he _
    have hlo0 : lo.map e = none → lo.map a.eval = none := by intro hz; cases lo <;> simp at hz ⊢
    have hhi : ∀ z, hi.map e = some z → ∃ v, hi.map a.eval = some v ∧ Rep w (XX X ρ h) ρ v z := by
      intro z hz; cases hi <;> simp at hz ⊢; subst hz; exact he _
    have hhi0 : hi.map e = none → hi.map a.eval = none := by intro hz; cases hi <;> simp at hz ⊢
    generalize e x = y at hq hx
    split at hq <;> try (exact hq.elim)
    · rename_i n el id off ht
      obtain ⟨hc, hq⟩ := onlyIf_inv hq
      simp at hc
      obtain ⟨l, r, hb, h1, h2, hk⟩ := asub_inv (P := P) (w := w) hq hlo hlo0 hhi hhi0 false n (Nat.le_refl _)
      obtain ⟨blk, hv, hρ⟩ := hx.own_inv
      obtain ⟨us, hlt, hra, hth, hus⟩ := hh.read hc.1.2 hρ
      have hsz := hT.size (P := P) (w := w) (notOther_iff hc.1.1)
      have hlen := hus.length
      refine stay (.slice (if n = l then (some ⟨blk, off, none⟩ : Option Addr) else some ((⟨blk, off, none⟩ : Addr).add (l * T.size el))) (r - l) (n - l)) _ hk ?_ ?_
      · by_cases hc' : n = l
        · have : r - l = 0 := by omega
          rw [if_pos hc', this, show n - l = 0 by omega]; exact .osl0 _ _ _ _ _
        · rw [if_neg hc', add_mid]
          refine .osl _ _ _ _ _ blk (n - l) hρ (by omega) fun j hj => ?_
          have := hth (off + l * T.size el + j) (by
            have : l * T.size el + (n - l) * T.size el = n * T.size el := by rw [← Nat.add_mul]; congr 1; omega
            omega)
          simpa using this
      · simp only [execOp, Sem.run_bind, hv, Instr.sliceAt, run_underlying (hT.arr t n el ht), Result.andThen_ok, Instr.sureAddr, Sem.run_pure, Option.map_none, hb, hsz]
        by_cases hc' : n = l <;> simp [hc']
    · rename_i n el cs off ht
      obtain ⟨hc, hq⟩ := onlyIf_inv hq
      obtain ⟨l, r, hb, h1, h2, hk⟩ := asub_inv (P := P) (w := w) hq hlo hlo0 hhi hhi0 false n (Nat.le_refl _)
      obtain ⟨cs', hcs, hk⟩ := optK_inv hk
      obtain ⟨blk, base, vs, hv, h3, h4, h5, h6⟩ := hx.ref_inv
      have hsz := hT.size (P := P) (w := w) (notOther_iff hc)
      obtain ⟨hlen, hsub⟩ := h6.sub hcs
      have hra := range_sub (k := off + l * T.size el) (n := (r - l) * T.size el) h5
      refine stay (.slice (if n = l then (some ⟨blk, base + off, none⟩ : Option Addr) else some ((⟨blk, base + off, none⟩ : Addr).add (l * T.size el))) (r - l) (n - l)) _ hk ?_ ?_
      · refine sliced_rep_lst h3 h4 (by rw [Nat.add_assoc]; exact hra) hsub h1 h2 ?_
        rw [← hsub.length]; simp; omega
      · simp only [execOp, Sem.run_bind, hv, Instr.sliceAt, run_underlying (hT.arr t n el ht), Result.andThen_ok, Instr.sureAddr, Sem.run_pure, Option.map_none, hb, hsz]
        by_cases hc' : n = l <;> simp [hc']
    · rename_i el id off n sz ht
      obtain ⟨hc, hq⟩ := onlyIf_inv hq
      simp at hc
      have hun := hT.slice t el ht
      have hsz := hT.size (P := P) (w := w) (notOther_iff hc.1)
      rcases hx.osl_inv with ⟨blk, cap, hv, hρ, h3, h4⟩ | ⟨rfl, b, hv⟩
      · obtain ⟨l, r, hb, h1, h2, hk⟩ := asub_inv (P := P) (w := w) hq hlo hlo0 hhi hhi0 true cap h3
        refine stay (.slice (if cap = l then (some ⟨blk, off, none⟩ : Option Addr) else some ((⟨blk, off, none⟩ : Addr).add (l * T.size el))) (r - l) (cap - l)) _ hk ?_ ?_
        · by_cases hc' : cap = l
          · have : r - l = 0 := by omega
            rw [if_pos hc', this, show cap - l = 0 by omega]; exact .osl0 _ _ _ _ _
          · rw [if_neg hc', add_mid, hc.2]
            refine .osl _ _ _ _ _ blk (cap - l) hρ (by omega) fun j hj => ?_
            have := h4 (l * sz + j) (by
              have : l * sz + (cap - l) * sz = cap * sz := by rw [← Nat.add_mul]; congr 1; omega
              omega)
            simpa [Nat.add_assoc] using this
        · simp only [execOp, Sem.run_bind, hv, Instr.sliceAt, Instr.slice, run_underlying hun, Result.andThen_ok, Sem.run_pure, Option.map_none, hb, hsz]
          by_cases hc' : cap = l <;> simp [hc']
      · obtain ⟨l, r, hb, h1, h2, hk⟩ := asub_inv (P := P) (w := w) hq hlo hlo0 hhi hhi0 true 0 (Nat.le_refl _)
        obtain rfl : r = 0 := by omega
        obtain rfl : l = 0 := by omega
        refine stay (.slice b 0 0) _ hk (.osl0 _ _ _ _ _) ?_
        simp only [execOp, Sem.run_bind, hv, Instr.sliceAt, Instr.slice, run_underlying hun, Result.andThen_ok, Sem.run_pure, Option.map_none, hb, hsz]
        simp
    · rename_i el n cs ht
      obtain ⟨hc, hq⟩ := onlyIf_inv hq
      have hun := hT.slice t el ht
      have hsz := hT.size (P := P) (w := w) (notOther_iff hc)
      rcases hx.lst_inv with ⟨blk, off, cap, vs, hv, h3, h4, h5, h6, h7⟩ | ⟨rfl, rfl, b, cap, hv⟩
      · obtain ⟨l, r, hb, h1, h2, hk⟩ := asub_inv (P := P) (w := w) hq hlo hlo0 hhi hhi0 true cap h6
        obtain ⟨cs', hcs, hk⟩ := optK_inv hk
        obtain ⟨hlen, hsub⟩ := h7.sub hcs
        have hra := range_sub (k := l * T.size el) (n := (r - l) * T.size el) h5
        refine stay (.slice (if cap = l then (some ⟨blk, off, none⟩ : Option Addr) else some ((⟨blk, off, none⟩ : Addr).add (l * T.size el))) (r - l) (cap - l)) _ hk ?_ ?_
        · refine sliced_rep_lst h3 h4 hra hsub h1 (by omega) ?_
          rw [← hsub.length]; simp; omega
        · simp only [execOp, Sem.run_bind, hv, Instr.sliceAt, Instr.slice, run_underlying hun, Result.andThen_ok, Sem.run_pure, Option.map_none, hb, hsz]
          by_cases hc' : cap = l <;> simp [hc']
      · obtain ⟨l, r, hb, h1, h2, hk⟩ := asub_inv (P := P) (w := w) hq hlo hlo0 hhi hhi0 true cap (Nat.zero_le _)
        obtain rfl : r = 0 := by omega
        obtain rfl : l = 0 := by omega
        obtain ⟨cs', hcs, hk⟩ := optK_inv hk
        obtain ⟨_, h2⟩ := lsub_spec _ _ _ _ hcs
        simp at h2
        subst h2
        refine stay (.slice (if cap = 0 then b else b.map (·.add (0 * T.size el))) 0 cap) _ hk (.lst0 _ _ _) ?_
        simp only [execOp, Sem.run_bind, hv, Instr.sliceAt, Instr.slice, run_underlying hun, Result.andThen_ok, Sem.run_pure, Option.map_none, hb, hsz]
        simp
  case alloc t =>
    obtain ⟨hc, hk⟩ := onlyIf_inv hq
    obtain ⟨z, hz, hzc, hza⟩ := hT.zero (P := P) (w := w) (notOther_iff hc)
    have hr : RepL w (XX X ρ h) noρ z.cells.toList (mapV (T.zero t)) := by rw [hzc]; exact RepL.mapV _
    obtain ⟨h1, h2, h3, h4⟩ := new_tree (t := t) hh hold hr
    refine grew (.pointer (some ⟨w.heap.size, 0, none⟩)) _ (w.alloc (.cells z.cells t)) hk (Ext.alloc _ _ _) ?_ ?_
    · have := h4.ref (ρ := ρ) (off := 0) h1 h2 h3; simpa using this
    · simp [execOp, Instr.alloc, hz, newVar, run_newRow]
  case box t x =>
    obtain ⟨y, hy, hk⟩ := optK_inv hq
    obtain ⟨cs, hcs, hk⟩ := optK_inv hk
    have hr := (snap_sound hh depth (e x) y (a.eval x) _ hy (he x) (fun _ h => h)).cells hcs
    refine value_wp (v := .pointer (some ⟨w.heap.size, 0, none⟩)) (w' := w.alloc (.cells (a.eval x).cells t)) (by simp [execOp, Instr.box, newVar, run_newRow]) (hn _ _ _ _ hk (Step.grow hh (Ext.alloc _ _ _) _) ?_)
    exact tree_rep_ref hh hold hr
  case buildSlice t n parts =>
    split at hq <;> try (exact hq.elim)
    rename_i el ht
    obtain ⟨hc, hq⟩ := onlyIf_inv hq
    simp at hc
    obtain ⟨cs, hcs, hq⟩ := optK_inv hq
    obtain ⟨cs', hcs', hk⟩ := optK_inv hq
    obtain ⟨c, h1, h2⟩ := run_buildSlice (P := P) (w := w) hT ht (notOther_iff hc.1) hc.2 he hcs
    have hr : RepL w (XXm X ρ h (idsL (ids h depth) cs)) noρ c.toList cs' := snapL_sound (f := snap h depth) (g := ids h depth) (fun x y v h1 h2 h3 => snap_sound hh depth x y v _ h1 h2 h3) cs cs' _ hcs' h2 (fun _ h => h)
    refine value_wp (v := .slice (some ⟨w.heap.size, 0, none⟩) n n) (w' := w.alloc (.cells c el)) (by simp [execOp, h1]) (hn _ _ _ _ hk (Step.grow hh (Ext.alloc _ _ _) _) ?_)
    exact tree_rep_lst hh hold hr (Nat.le_refl _)
  case makeSlice t l c =>
    split at hq <;> try (exact hq.elim)
    rename_i el k n k' m ht hl hc
    obtain ⟨h1, hk⟩ := onlyIf_inv hq
    simp at h1
    obtain ⟨⟨⟨⟨h2, h3⟩, h4⟩, h5⟩, h6⟩ := h1
    subst h3
    have hlv := he l
    have hcv := he c
    rw [hl] at hlv
    rw [hc] at hcv
    obtain ⟨cc, h7, h8⟩ := run_makeSlice (P := P) (w := w) (X := XX X ρ h) (ρ := noρ) (k := k) (k' := k') hT ht (notOther_iff h5) h2 (by omega) (by omega)
    refine value_wp (v := .slice (some ⟨w.heap.size, 0, none⟩) n.toNat n.toNat) (w' := w.alloc (.cells cc el)) (by simp [execOp, hlv.i_inv, hcv.i_inv, h7]) (hn _ _ _ _ hk (Step.grow hh (Ext.alloc _ _ _) _) ?_)
    exact tree_rep_lst (L := []) hh hold (h8.weaken fun _ h => XXm_XX h) (Nat.le_refl _)
  case call c =>
    have gen : ∀ (c : Call) (f : FuncId) (args : List AVal), callee T e c = some (f, args) → (optK (snapL (snap h depth) args) fun args' => ACall Sp f args' fun r => K (noNew r) (heldBy h args r)) →
        ({ dst := dst, op := .call c, type := ty, pos := pos, after := after, guard := guard } : Oper) = { dst := dst, op := .call c, type := ty, pos := pos, after := after, guard := guard } → c = c → ∀ (hn' : ∀ v y l w', K y l → Step X ρ h w ρ (freeze h l) w' → Rep w' (XX X ρ (freeze h l)) ρ v y → next (a.put dst v) w'),
        ({ dst := dst, op := .call c, type := ty, pos := pos, after := after, guard := guard } : Oper).wp P a w next Q := by
      intro c f args hc hq _ _ hn'
      obtain ⟨args', hs, hq⟩ := optK_inv hq
      obtain ⟨vs, hv, hfin⟩ := callee_run (P := P) hT (o := { dst := dst, op := .call c, type := ty, pos := pos, after := after, guard := guard }) rfl he hc
      cases hq with
      | mk r hsp hk =>
        refine hfin next Q (call_spec hh hold hv hs (hS.fn _ _ _ hsp) fun v w' hx ho => ?_)
        refine hn' v _ _ w' hk (Step.grow hh hx _) ?_
        cases hf : r.flat with
        | true =>
          have h1 := out_trees (Z := fun _ => False) ho (fun _ h => h.elim) (fun _ h => h.elim)
          rw [noNew_flat hf] at h1 ⊢
          exact h1.flat hf
        | false =>
          have : heldBy h args r = idsL (ids h depth) args := by simp [heldBy, hf]
          rw [this]
          exact (out_trees ho (fun b hb => hh.lt hold (XXm_XX (XX_freeze hb))) (fun b hb => XX_freeze hb)).up
    split at hq
    · rename_i happ
      obtain ⟨cal, cargs, cty⟩ := c
      obtain rfl : cal = .builtin .append := by
        cases cal <;> simp [isApp] at happ
        rename_i b; cases b <;> simp [isApp] at happ; rfl
      unfold appQ at hq
      split at hq <;> try (exact hq.elim)
      rename_i t u tl s x hty hargs
      split at hq <;> try (exact hq.elim)
      rename_i el ht hs
      obtain ⟨hc, hq⟩ := onlyIf_inv hq
      simp at hc
      obtain ⟨m, n, ys, us, xa, xc, hk, hus, hul, hxv, hxb, hxn⟩ := rowK_inv hh (he x) hq
      obtain ⟨hroom, hk⟩ := roomK_inv hk
      obtain ⟨cs, hcs, hk⟩ := optK_inv hk
      have hsv := he s
      rw [hs] at hsv
      have hsv := hsv.v_inv
      obtain ⟨cargs⟩ := cargs
      simp at hargs
      subst hargs
      have hr : RepL w (XXm X ρ h (idsL (ids h depth) ys)) noρ us cs := snapL_sound (f := snap h depth) (g := ids h depth) (fun x y v h1 h2 h3 => snap_sound hh depth x y v _ h1 h2 h3) ys cs _ hcs hus (fun _ h => h)
      have hex : ∀ (v : Value) (w' : World), (Builtin.append_ cty ty #[a.eval s, a.eval x]).run P w = .ok v w' →
          (execOp a.eval { dst := dst, op := .call { callee := .builtin .append, args := #[s, x], argTypes := cty }, type := ty, pos := pos, after := after, guard := guard }).run P w = .ok (.value v) w' := by
        intro v w' h1
        simp only [execOp, resolve, invoke, builtin, Sem.run_bind, Sem.run_pure, Result.andThen_ok, List.map_toArray, List.map_cons, List.map_nil, h1]
      rw [hsv, hxv] at hex
      have h0 : cty.toList.head? = some t := by rw [hty]; rfl
      rcases Nat.eq_zero_or_pos n with rfl | hpos
      · have hue : us = [] := by simpa using hul
        subst hue
        cases hr
        have hrun := run_append_in (P := P) (w := w) (w' := w) (ty := ty) (sb := none) (sn := 0) (sc := 0) (xn := 0) (xc := xc) (xb := xa) (news := []) (argTypes := cty) hT h0 ht (notOther_iff hc.1.1) hc.1.2 (by simp) (fun b _ => .inl rfl) (fun _ => rfl) (Nat.le_refl _) rfl
        exact value_wp (v := .slice none 0 0) (w' := w) (hex _ _ hrun) (hn _ _ _ _ hk (Step.grow hh (Ext.refl _ _) _) (.lst0 _ _ _))
      · have hn1 : n ≤ 140737488355328 := Nat.le_trans (Nat.le_mul_of_pos_right n hc.2) hroom
        obtain ⟨cap, rest, h3, h4, hrun⟩ := run_append_new (P := P) (w := w) (ty := ty) (sb := none) (sn := 0) (sc := 0) (xn := n) (xc := xc) (xb := xa) (olds := []) (news := us) (argTypes := cty) hT h0 ht (notOther_iff hc.1.1) hc.1.2 hc.2
          (by simp) (fun b hb => .inl rfl) (fun _ => rfl) hul hxb hxn (by omega) (by simp [Builtin.nextslicecap, hpos]; omega) (by omega)
        simp only [Nat.zero_add, List.nil_append] at h3 h4 hrun
        have hdr : w.drew.heap = w.heap := rfl
        have hxt : Ext (fun _ => False) w (w.drew.alloc (.cells (us ++ rest).toArray el)) := (Ext.drew _ w).trans (Ext.alloc _ _ _)
        refine value_wp (hex _ _ hrun) (hn _ _ _ _ hk (Step.grow hh hxt _) ?_)
        have hb : (w.drew.alloc (.cells (us ++ rest).toArray el)).heap[w.heap.size]? = some (.cells (us ++ rest).toArray el) := by show (w.heap.push _)[w.heap.size]? = _; simp
        have hra : (w.drew.alloc (.cells (us ++ rest).toArray el)).rangeAt w.heap.size 0 us := by
          intro j v hj
          rw [Nat.zero_add]
          simp only [World.cell?, hb]
          have : j < us.length := by rcases Nat.lt_or_ge j us.length with h' | h'; exact h'; rw [List.getElem?_eq_none h'] at hj; cases hj
          simp [List.getElem?_append_left this, hj]
        exact (hr.carry hxt (fun b hb h' => ⟨fun h2 => h' (XX_freeze h2), id⟩) (fun _ _ h => h)).lst (fun h' => by have := hh.lt hold (XXm_XX (XX_freeze h')); omega) (by show w.heap.size < (w.heap.push _).size; simp) hra h3
    · split at hq
      · rename_i f args hc
        exact gen c f args hc hq rfl rfl hn
      · exact hq.elim
end
end Eng
