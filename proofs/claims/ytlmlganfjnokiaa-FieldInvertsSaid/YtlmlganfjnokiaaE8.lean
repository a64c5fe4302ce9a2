/- The engine, part 8: each pure operation runs as it was reckoned. -/
import Derived.Test.YtlmlganfjnokiaaE7
import Derived.ChangeMaps3
set_option linter.unusedSimpArgs false
set_option linter.unusedVariables false
namespace Eng
open Go

section
variable {P : Program} {T : Ty} {w : World} {X : Nat → Prop} {ρ : Nat → Option Nat}

theorem und_struct (hT : TyOk P T) {t : TypeId} {fs : List (Nat × TypeId × String)} (h : T.und t = .struct fs) {f : Nat} {off : Nat} {ft : TypeId} {nm : String} (hf : fs[f]? = some (off, ft, nm)) :
    ∃ fields : Array Field, P.underlying t = some (.struct fields) ∧ ∃ g, fields[f]? = some g ∧ g.offset = off ∧ g.type = ft := by
  obtain ⟨fields, h1, h2, _⟩ := hT.struct t fs h
  refine ⟨fields, h1, ?_⟩
  rw [← h2] at hf
  simp only [List.getElem?_map, Array.getElem?_toList] at hf
  cases hg : fields[f]? with
  | none => simp [hg] at hf
  | some g => simp [hg] at hf; exact ⟨g, rfl, hf.1, hf.2.1⟩

theorem RepL.mapE {e : Operand → AVal} {ρ' : Operand → Value} (he : ∀ x, Rep w X ρ (ρ' x) (e x)) : ∀ l : List Operand, RepL w X ρ (l.map ρ') (l.map e)
  | [] => .nil
  | x :: l => .cons (he x) (RepL.mapE he l)

theorem add_mid (b o j : Nat) : (⟨b, o, none⟩ : Addr).add j = ⟨b, o + j, none⟩ := by unfold Addr.add; split <;> simp_all

/-- The cells of a row from some place on. -/
theorem range_sub {b o n k : Nat} {vs : List Value} (h : w.rangeAt b o vs) : w.rangeAt b (o + k) ((vs.drop k).take n) := by
  intro j v hj
  rw [List.getElem?_take] at hj
  split at hj
  · rw [List.getElem?_drop] at hj
    have := h (k + j) v hj
    rwa [← Nat.add_assoc] at this
  · cases hj

theorem RepL.lst {m : Bool} {b o n cap : Nat} {vs : List Value} {cs : List AVal} (hr : RepL w X noρ vs cs) (hX : ¬ X b) (hb : b < w.heap.size) (h : w.rangeAt b o vs) (hn : n ≤ cap) :
    Rep w X ρ (.slice (some ⟨b, o, none⟩) n cap) (.lst m n cs) := .lst m b o n cap vs cs hX hb h hn hr.length hr.at
theorem RepL.ref {b base off : Nat} {vs : List Value} {cs : List AVal} (hr : RepL w X noρ vs cs) (hX : ¬ X b) (hb : b < w.heap.size) (h : w.rangeAt b base vs) :
    Rep w X ρ (.pointer (some ⟨b, base + off, none⟩)) (.ref cs off) := .ref b base off vs cs hX hb h hr.length hr.at
theorem RepL.fn {f : Fn} {vs us : List Value} {cs ds : List AVal} (h : RepL w X ρ vs cs) (h' : RepL w X ρ us ds) : Rep w X ρ (.func f vs.toArray us.toArray) (.fn f cs ds) :=
  .fn f vs us cs ds h.length h.at h'.length h'.at

theorem notOther_iff {u : UT} (h : notOther u = true) : u ≠ .other := by rintro rfl; cases h

theorem part_load (hT : TyOk P T) {t : TypeId} {b off o : Nat} {vs : List Value} {cs : List AVal} {y : AVal} (hr : RepL w X ρ vs cs) (hra : w.rangeAt b o vs) (h : part T t cs off = some y) :
    ∃ v, (loadVar t ⟨b, o + off, none⟩).run P w = .ok v w ∧ Rep w X ρ v y := by
  obtain ⟨hu, ⟨ha, r, hr', rfl⟩ | ⟨ha, hg⟩⟩ := part_cases h
  · obtain ⟨hlen, hrep⟩ := hr.sub hr'
    have h1 := range_sub (k := off) (n := T.size t) hra
    have h2 := run_loadCells_list (P := P) w ⟨b, o + off, none⟩ ((vs.drop off).take (T.size t)) (fun j v hj => by rw [add_mid]; exact h1 j v hj)
    have h3 : ((vs.drop off).take (T.size t)).length = T.size t := by simp; omega
    rw [h3] at h2
    exact ⟨_, by simp [loadVar, hT.isAgg hu, ha, hT.size hu, h2], hrep.agg⟩
  · obtain ⟨v, hv, hrep⟩ := hr.get hg
    have hc := hra off v hv
    exact ⟨v, by simp [loadVar, hT.isAgg hu, ha, load]; simp [Sem.run, hc], hrep⟩

theorem aopP_sound (hT : TyOk P T) (o : Oper) {e : Operand → AVal} {ρ' : Operand → Value} {K : AVal → Prop} (he : ∀ x, Rep w X ρ (ρ' x) (e x)) (h : aopP Ar.real T o e K) :
    ∃ r z, (execOp ρ' o).run P w = .ok (.value r) w ∧ Rep w X ρ r z ∧ K z := by
  obtain ⟨dst, op, ty, pos, after, guard⟩ := o
  unfold aopP at h
  cases op <;> simp only at h <;> try (exact h.elim)
  case move x => exact ⟨_, _, by simp [execOp], he x, h⟩
  case assign x => exact ⟨_, _, by simp [execOp], he x, h⟩
  case pick c a b =>
    have hc := he c
    generalize e c = y at h hc
    cases y <;> try (exact h.elim)
    · have hx := hc.b_inv
      rename_i t
      cases t
      · exact ⟨_, _, by simp [execOp, asBool, hx], he b, h⟩
      · exact ⟨_, _, by simp [execOp, asBool, hx], he a, h⟩
    · have hx := hc.sb_inv
      rename_i t
      cases h with
      | mk hp hq =>
        cases t
        · exact ⟨_, _, by simp [execOp, asBool, hx], he b, hq rfl⟩
        · exact ⟨_, _, by simp [execOp, asBool, hx], he a, hp rfl⟩
  case binOp op t x y yt =>
    obtain ⟨r, z, h1, h2, h3⟩ := abin_sound (P := P) hT x y (he x) (he y) h
    refine ⟨r, z, ?_, h2, h3⟩
    simp only [execOp, Sem.run_bind] at h1 ⊢
    rw [h1]; simp
  case unOp op t x =>
    obtain ⟨r, z, h1, h2, h3⟩ := aun_sound (P := P) (he x) h
    exact ⟨r, z, by simp [execOp, h1], h2, h3⟩
  case convert src dst x =>
    obtain ⟨hs, h⟩ := onlyIf_inv h
    obtain ⟨ds, hds, _⟩ := hT.und (notOther_iff hs)
    have hx := he x
    cases hd : T.und dst <;> rw [hd] at h <;> try (exact h.elim)
    rename_i k
    have hdst := hT.int dst k hd
    generalize e x = y at h hx
    cases y <;> try (exact h.elim)
    · have hv := hx.i_inv
      exact ⟨_, _, by simp [execOp, hv, convert, run_underlying hds, run_underlying hdst, Conv.intToInt]; rfl, .i _ _, h⟩
    · have hv := hx.s_inv
      exact ⟨_, _, by simp [execOp, hv, convert, run_underlying hds, run_underlying hdst, Conv.intToInt]; rfl, .s _ _, h⟩
  case load t x =>
    have hx := he x
    generalize hex : e x = y at h hx
    cases y <;> try (exact h.elim)
    rename_i cs off
    obtain ⟨z, hz, hk⟩ := optK_inv h
    obtain ⟨blk, base, vs, hv, h1, h2, h3, h4⟩ := hx.ref_inv
    obtain ⟨v, hv', hr⟩ := part_load (P := P) hT h4 h3 hz
    exact ⟨v, z, by simp [execOp, hv, Instr.loadAt, Instr.sureAddr, hv'], hr.up, hk⟩
  case nilCheck x =>
    have hx := he x
    generalize e x = y at h hx
    cases y <;> try (exact h.elim)
    · obtain ⟨blk, base, vs, hv, _⟩ := hx.ref_inv
      exact ⟨_, _, by simp only [execOp, hv]; rfl, by rw [← hv]; exact hx, h⟩
    · obtain ⟨blk, hv, _⟩ := hx.own_inv
      exact ⟨_, _, by simp only [execOp, hv]; rfl, by rw [← hv]; exact hx, h⟩
    · obtain ⟨u, hv, _⟩ := hx.ifc_inv
      exact ⟨_, _, by simp only [execOp, hv]; rfl, by rw [← hv]; exact hx, h⟩
  case extract x i =>
    have hx := he x
    generalize e x = y at h hx
    cases y <;> try (exact h.elim)
    rename_i vs
    obtain ⟨y, hy, hk⟩ := optK_inv h
    obtain ⟨us, hu, hr⟩ := hx.tup_inv
    obtain ⟨v, hv, hrep⟩ := hr.get hy
    exact ⟨v, y, by simp [execOp, hu, Instr.extract, hv], hrep, hk⟩
  case field t x f =>
    have hx := he x
    generalize e x = y at h hx
    split at h <;> try (exact h.elim)
    rename_i fs cs ht
    split at h
    · rename_i off ft nm hf
      obtain ⟨fields, hu, g, hg, rfl, rfl⟩ := und_struct hT ht hf
      obtain ⟨z, hz, hk⟩ := optK_inv h
      obtain ⟨us, hus, hr⟩ := hx.agg_inv
      obtain ⟨v, hv, hrep⟩ := part_run (P := P) (w := w) hT hr hz
      exact ⟨v, z, by simp [execOp, hus, Instr.field, run_underlying hu, hg, asAgg, hv], hrep, hk⟩
    · exact h.elim
  case index t x ix =>
    have hx := he x
    have hi := he ix
    generalize e x = y at h hx
    split at h <;> try (exact h.elim)
    rename_i n el cs ht
    obtain ⟨k, j, hj, h0, h1, hk⟩ := aidx_inv hi h
    obtain ⟨z, hz, hk⟩ := optK_inv hk
    obtain ⟨us, hus, hr⟩ := hx.agg_inv
    have hso := (part_cases hz).1
    obtain ⟨v, hv, hrep⟩ := part_run (P := P) (w := w) hT hr hz
    exact ⟨v, z, by simp [execOp, hus, Instr.index, hj, asIntOf, run_underlying (hT.arr t n el ht), h0, h1, hT.size hso, hv], hrep, hk⟩
  case fieldAddr t x f =>
    have hx := he x
    split at h <;> try (exact h.elim)
    rename_i fs ht
    split at h <;> try (exact h.elim)
    rename_i off ft nm hf
    obtain ⟨fields, hu, g, hg, rfl, rfl⟩ := und_struct hT ht hf
    obtain ⟨hsz, h⟩ := onlyIf_inv h
    simp at hsz
    have hso : T.und g.type ≠ .other := fun hq => hsz (hT.other _ hq)
    have hsize := hT.size (P := P) (w := w) hso
    generalize e x = y at h hx
    cases y <;> try (exact h.elim)
    · obtain ⟨blk, base, vs, hv, h1, h2, h3, h4⟩ := hx.ref_inv
      rename_i cs o
      refine ⟨.pointer (some ⟨blk, base + o + g.offset, none⟩), _, by simp [execOp, hv, Instr.fieldAt, run_underlying hu, hg, Instr.sureAddr, fieldPlace, hsize, hsz, add_mid], ?_, h⟩
      rw [Nat.add_assoc]
      exact h4.ref h1 h2 h3
    · obtain ⟨blk, hv, h1⟩ := hx.own_inv
      exact ⟨.pointer (some ⟨blk, _ + g.offset, none⟩), _, by simp [execOp, hv, Instr.fieldAt, run_underlying hu, hg, Instr.sureAddr, fieldPlace, hsize, hsz, add_mid], .own _ _ _ h1, h⟩
  case indexAddr t x ix =>
    have hx := he x
    have hi := he ix
    generalize e x = y at h hx
    split at h <;> try (exact h.elim)
    · rename_i n el id off ht
      obtain ⟨hn, h⟩ := onlyIf_inv h
      simp at hn
      have hu := hT.arr t n el ht
      obtain ⟨k, j, hj, h0, h1, hk⟩ := aidx_inv hi h
      obtain ⟨blk, hv, h2⟩ := hx.own_inv
      exact ⟨.pointer (some ⟨blk, off + j.toNat * T.size el, none⟩), _, by simp [execOp, hv, Instr.indexAt, hj, asIntOf, run_underlying hu, h0, h1, hT.size (notOther_iff hn.2), add_mid, Instr.sureAddr], .own _ _ _ h2, hk⟩
    · rename_i n el cs off ht
      obtain ⟨hn, h⟩ := onlyIf_inv h
      simp at hn
      have hu := hT.arr t n el ht
      obtain ⟨k, j, hj, h0, h1, hk⟩ := aidx_inv hi h
      obtain ⟨blk, base, vs, hv, h2, h3, h4, h5⟩ := hx.ref_inv
      refine ⟨.pointer (some ⟨blk, base + off + j.toNat * T.size el, none⟩), _, by simp [execOp, hv, Instr.indexAt, hj, asIntOf, run_underlying hu, h0, h1, hT.size (notOther_iff hn.2), add_mid, Instr.sureAddr], ?_, hk⟩
      rw [Nat.add_assoc]
      exact h5.ref h2 h3 h4
    · rename_i el m n cs ht
      obtain ⟨hn, h⟩ := onlyIf_inv h
      have hu := hT.slice t el ht
      obtain ⟨k, j, hj, h0, h1, hk⟩ := aidx_inv hi h
      rcases hx.lst_inv with ⟨blk, off, cap, vs, hv, h2, h3, h4, h5, h6⟩ | ⟨rfl, _⟩
      · cases m
        · exact ⟨.pointer (some ⟨blk, off + j.toNat * T.size el, none⟩), _, by simp [execOp, hv, Instr.indexAt, hj, asIntOf, run_underlying hu, h0, h1, hT.size (notOther_iff hn), add_mid, Instr.sureAddr], h6.ref h2 h3 h4, hk⟩
        · cases hk with
          | mk ys e1 e2 =>
            obtain ⟨_, e3⟩ := h6.sub e1
            exact ⟨.pointer (some ⟨blk, off + j.toNat * T.size el + 0, none⟩), _, by simp [execOp, hv, Instr.indexAt, hj, asIntOf, run_underlying hu, h0, h1, hT.size (notOther_iff hn), add_mid, Instr.sureAddr], e3.ref h2 h3 (range_sub h4), e2⟩
      · omega
    · rename_i el m id off n sz ht
      obtain ⟨hn, h⟩ := onlyIf_inv h
      simp at hn
      have hu := hT.slice t el ht
      obtain ⟨k, j, hj, h0, h1, hk⟩ := aidx_inv hi h
      rcases hx.osl_inv with ⟨blk, cap, hv, h2, h3, h4⟩ | ⟨rfl, _⟩
      · exact ⟨.pointer (some ⟨blk, off + j.toNat * T.size el, none⟩), _, by simp [execOp, hv, Instr.indexAt, hj, asIntOf, run_underlying hu, h0, h1, hT.size (notOther_iff hn.2), add_mid, Instr.sureAddr], .own _ _ _ h2, by rw [hn.1]; exact hk⟩
      · omega
  case makeInterface t x =>
    have hd : ∃ d, P.underlying t = some d ∧ ∀ ms, d ≠ .interface ms := by
      cases ht : T.und t <;> rw [ht] at h <;> try (exact h.elim)
      · exact ⟨_, hT.int _ _ ht, by simp⟩
      · exact ⟨_, hT.bool _ ht, by simp⟩
      · exact ⟨_, hT.str _ ht, by simp⟩
      · exact ⟨_, hT.ptr _ _ ht, by simp⟩
      · exact ⟨_, hT.slice _ _ ht, by simp⟩
      · exact ⟨_, hT.arr _ _ _ ht, by simp⟩
      · obtain ⟨f, hf, _⟩ := hT.struct _ _ ht; exact ⟨_, hf, by simp⟩
    have hk : K (.ifc t (e x)) := by
      cases ht : T.und t <;> rw [ht] at h <;> first | exact h | exact h.elim
    obtain ⟨d, hd, hn⟩ := hd
    refine ⟨.iface t (ρ' x), _, ?_, .ifc _ _ _ (he x), hk⟩
    simp only [execOp, Instr.makeInterface, Sem.run_bind, run_underlying hd, Result.andThen_ok]
    cases d <;> simp at hn ⊢
  case makeFunc f a c =>
    have h1 := (RepL.mapE he a.toList).fn (f := f) (RepL.mapE he c.toList)
    have h2 : ∀ q : Array Operand, (List.map ρ' q.toList).toArray = q.map ρ' := fun q => by apply Array.ext'; simp
    rw [h2, h2] at h1
    exact ⟨_, _, rfl, h1, h⟩
  case typeAssert x xt t ok =>
    have hd : ∃ d, P.underlying t = some d ∧ (∀ ms, d ≠ .interface ms) ∧ T.und t ≠ .other := by
      cases ht : T.und t <;> rw [ht] at h <;> try (exact h.elim)
      · exact ⟨_, hT.int _ _ ht, by simp, by simp⟩
      · exact ⟨_, hT.bool _ ht, by simp, by simp⟩
      · exact ⟨_, hT.str _ ht, by simp, by simp⟩
      · exact ⟨_, hT.ptr _ _ ht, by simp, by simp⟩
      · exact ⟨_, hT.slice _ _ ht, by simp, by simp⟩
      · exact ⟨_, hT.arr _ _ _ ht, by simp, by simp⟩
      · obtain ⟨f, hf, _⟩ := hT.struct _ _ ht; exact ⟨_, hf, by simp, by simp⟩
    obtain ⟨d, hd, hn, hso⟩ := hd
    have hx := he x
    generalize e x = y at h hx
    split at h <;> try (exact h.elim)
    rename_i t' y _ _
    obtain ⟨u, hv, hu⟩ := hx.ifc_inv
    split at h
    · rename_i heq
      simp at heq
      subst heq
      cases ok
      · refine ⟨u, y, ?_, hu, h⟩
        simp only [execOp, Instr.typeAssert, Sem.run_bind, run_underlying hd, hv, Result.andThen_ok]
        cases d <;> simp at hn ⊢
      · refine ⟨.tuple #[u, .bool true], _, ?_, RepL.tup (.cons hu (.cons (.b true) .nil)), h⟩
        simp only [execOp, Instr.typeAssert, Sem.run_bind, run_underlying hd, hv, Result.andThen_ok]
        cases d <;> simp at hn ⊢
    · rename_i hne
      simp at hne
      split at h <;> try (exact h.elim)
      obtain ⟨z, hz, hzc, hza, hzo⟩ := hT.zero (P := P) (w := w) hso
      have hrz : Rep w X ρ z (match Eng.isAgg (T.und t), mapV (T.zero t) with | true, z => .agg z | false, z => (lget z 0).getD (.tup [])) := by
        cases hag : Eng.isAgg (T.und t)
        · have hz1 := hzo hag
          cases z with
          | agg cs => cases hz1
          | _ => simp [Value.cells] at hzc; rw [← hzc]; simp only [mapV, lget, Option.getD_some]; exact Rep.ofV1 _
        · rw [hza hag]; exact (RepL.mapV _).agg
      refine ⟨.tuple #[z, .bool false], _, ?_, RepL.tup (.cons hrz (.cons (.b false) .nil)), h⟩
      simp only [execOp, Instr.typeAssert, Sem.run_bind, run_underlying hd, hv, Result.andThen_ok]
      cases d <;> simp at hn ⊢ <;> simp [hne, hz]
  case build t parts =>
    split at h <;> try (exact h.elim)
    rename_i cs hag hcs
    have hso : T.und t ≠ .other := by intro hq; rw [hq] at hag; cases hag
    have hag0 : Eng.isAgg (T.und t) = true := by cases hq : T.und t <;> rw [hq] at hag <;> first | rfl | cases hag
    obtain ⟨it, hit, hsz, hby, z, hz, hzc, hza, _⟩ := hT.info t hso
    have hzr : RepL w X ρ z.cells.toList (mapV (T.zero t)) := by rw [hzc]; exact RepL.mapV _
    have hpl : ∃ a', P.built t ((parts.map fun p => (p.1, ρ' p.2)).toList) = some a' ∧ RepL w X ρ a'.toList cs := by
      rw [Array.toList_map]
      cases hu : T.und t with
      | arr n el =>
        have hun := hT.arr t n el hu
        rw [hu] at hcs
        have hel : notOther (T.und el) = true := by rw [hu] at hag; exact hag
        obtain ⟨ie, hie, hies, _⟩ := hT.info el (notOther_iff hel)
        obtain ⟨a', h1, h2⟩ := fillP_run (T := T) (u := .arr n el) (place := fun i => some (i * ie.size, ie.size)) he (fun i off sz h => by
            simp [aopP.placeOf, hel] at h; rw [hies]; obtain ⟨rfl, rfl⟩ := h; rfl) parts.toList _ _ z.cells hcs hzr
        exact ⟨a', by simp [Program.built, hit, hun, hz, hie, h1], h2⟩
      | struct fs =>
        obtain ⟨fields, hf, hfs, _, hfi⟩ := hT.struct t fs hu
        rw [hu] at hcs
        have hm : fields.toList.mapM (fun f => (P.info? f.type).map fun i => (f.offset, i.size)) = some (fields.toList.map fun f => ((P.info? f.type).map fun i => (f.offset, i.size)).getD (0, 0)) :=
          Go.ChangeMaps.mapM_total (0, 0) (fun f hf' => by
            have := hfi f hf'
            cases hi : P.info? f.type with
            | none => simp [hi] at this
            | some i => exact ⟨_, rfl⟩)
        obtain ⟨a', h1, h2⟩ := fillP_run (T := T) (u := .struct fs) (place := ((fields.toList.map fun f => ((P.info? f.type).map fun i => (f.offset, i.size)).getD (0, 0)).toArray[·]?)) he (fun i off sz h => by
            simp only [aopP.placeOf] at h
            split at h <;> try (cases h; done)
            rename_i off' ft nm hfi'
            split at h <;> try (cases h; done)
            rename_i hno
            cases h
            rw [← hfs] at hfi'
            simp only [List.getElem?_map] at hfi'
            cases hg : fields.toList[i]? with
            | none => rw [hg] at hfi'; simp at hfi'
            | some g =>
              rw [hg] at hfi'
              simp at hfi'
              obtain ⟨rfl, rfl, _⟩ := hfi'
              obtain ⟨ig, hig, higs, _⟩ := hT.info g.type (notOther_iff hno)
              have hg' : fields[i]? = some g := by simpa using hg
              simp [hg', hig, higs]) parts.toList _ _ z.cells hcs hzr
        exact ⟨a', by simp only [Program.built, hit, hf, hz, hm, h1], h2⟩
      | _ => rw [hu] at hag0; cases hag0
    obtain ⟨a', ha, hr⟩ := hpl
    refine ⟨.agg a', _, ?_, ?_, h⟩
    · simp only [execOp, Sem.run_bind]
      rw [show (parts.map fun (i, x) => (i, ρ' x)) = (parts.map fun p => (p.1, ρ' p.2)) from rfl, run_build w t _ a' ha]; simp
    · have := hr.agg; simpa using this
  case sliceToArrayPointer t x =>
    have hx := he x
    generalize e x = y at h hx
    split at h <;> try (exact h.elim)
    · rename_i n el m cs ht
      obtain ⟨hn, h⟩ := onlyIf_inv h
      simp at hn
      rcases hx.lst_inv with ⟨blk, off, cap, vs, hv, h2, h3, h4, h5, h6⟩ | ⟨rfl, _⟩
      · exact ⟨.pointer (some ⟨blk, off, none⟩), _, by simp [execOp, hv, Instr.arrayAt, run_underlying (hT.arr t n el ht), show ¬ m < n by omega], by have := h6.ref (ρ := ρ) (off := 0) h2 h3 h4; simpa using this, h⟩
      · omega
    · rename_i n el m cs ht
      obtain ⟨hn, h⟩ := onlyIf_inv h
      simp at hn
      cases h with
      | mk h1 h =>
        simp [Ar.real] at h1
        rcases hx.lst_inv with ⟨blk, off, cap, vs, hv, h2, h3, h4, h5, h6⟩ | ⟨rfl, _⟩
        · exact ⟨.pointer (some ⟨blk, off, none⟩), _, by simp [execOp, hv, Instr.arrayAt, run_underlying (hT.arr t n el ht), show ¬ m < n by omega], by have := h6.ref (ρ := ρ) (off := 0) h2 h3 h4; simpa using this, h⟩
        · omega
    · rename_i n el id off m sz ht
      obtain ⟨hn, h⟩ := onlyIf_inv h
      simp at hn
      rcases hx.osl_inv with ⟨blk, cap, hv, h2, h3, h4⟩ | ⟨rfl, _⟩
      · exact ⟨.pointer (some ⟨blk, off, none⟩), _, by simp [execOp, hv, Instr.arrayAt, run_underlying (hT.arr t n el ht), show ¬ m < n by omega], .own _ _ _ h2, h⟩
      · omega
end
end Eng
