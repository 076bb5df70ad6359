/- A part of the proof of: The law FnExactCtlJobAsks returns true, and its arguments read as before, for all arguments whose reading is together of bulk at most 1048576 (values and letters). -/
import Derived.Test.YtifbcpifgajdeaaGreatPb
import Derived.Sort.Row
import Derived.Sort.Grow
import Derived.Sort.EncStr
set_option linter.all false
set_option linter.unusedSimpArgs false
set_option linter.unusedVariables false
section
namespace Go.HT
open Go
variable {P : Program} {Z Z' : Zone} {S : St Hd} {a : Act} {w : World}

/-! ### Boxes handed on -/
/-- A box's cells have turned. -/
theorem Good.reBox (h : Good Z S a w) {r : Nat} {g : Hd} {cs cs' : List (AV Hd)} (hl : look S r = some (.box g cs)) {bad : Place → Bool → Bool} (hk : Keeps S (put (HT.poi bad S) r (.box g cs')) bad)
    (hb : ∀ A, g.a = some A → boxOk w Z A cs') (hn : (ownAL cs').Nodup) (hz : ∀ b ∈ ownAL cs', ¬ Z.b b ∧ b < w.heap.size) (hd : ∀ b ∈ ownAL cs', b ∉ ownS S) (hr : refOkL (put (HT.poi bad S) r (.box g cs')) cs') :
    Good Z (put (HT.poi bad S) r (.box g cs')) a w := by
  obtain ⟨rest, p1, p2⟩ := put_perm S r h.sorted
  simp only [oldE, hl, ownE] at p1
  have pe : (ownS (put (HT.poi bad S) r (.box g cs'))).Perm ((blk g ++ ownAL cs') ++ rest) := by rw [ownS_put_poi]; exact p2 _
  have hnd := p1.nodup_iff.1 h.nd
  have hin : ∀ b, b ∈ blk g ∨ b ∈ rest → b ∈ ownS S := fun b hb => p1.mem_iff.2 (by rcases hb with hb | hb <;> simp [hb])
  refine ⟨put_sorted _ _ _ (poi_sorted _ _ h.sorted), fun d e he => ?_, ?_, fun b hb => ?_, h.zb, fun d e he => ?_⟩
  · rw [look_put] at he
    split at he
    · rename_i hd; subst hd
      simp at he; subst he
      obtain ⟨h1, A, h2, h3, h4⟩ := h.ent _ _ hl
      exact ⟨h1, A, h2, h3, hb A h2⟩
    · rw [look_poi] at he
      cases hs : look S d with
      | none => simp [hs] at he
      | some e0 => simp [hs] at he; subst he; exact entOk_poi _ (h.ent _ _ hs)
  · rw [pe.nodup_iff]
    refine List.nodup_append.2 ⟨List.nodup_append.2 ⟨nodup_append_left (nodup_append_left hnd), hn, fun x hx y hy hxy => ?_⟩, nodup_append_right hnd, fun x hx y hy hxy => ?_⟩
    · subst hxy; exact hd x hy (hin x (.inl hx))
    · subst hxy
      rcases List.mem_append.1 hx with hx | hx
      · exact nodup_apart hnd (by simp [hx]) hy
      · exact hd x hx (hin x (.inr hy))
  · rcases List.mem_append.1 (pe.mem_iff.1 hb) with hb | hb
    · rcases List.mem_append.1 hb with hb | hb
      · exact h.zn b (hin b (.inl hb))
      · exact hz b hb
    · exact h.zn b (hin b (.inr hb))
  · rw [look_put] at he
    split at he
    · simp at he; subst he; exact hr
    · rw [look_poi] at he
      cases hs : look S d with
      | none => simp [hs] at he
      | some e0 => simp [hs] at he; subst he; exact refOkE_keeps hk e0 (h.refs _ _ hs)
def undefsH (cs : List (AV Hd)) : List (AV Hd) := cs.map fun _ => .tr .undef
theorem undefs_get {cs : List (AV Hd)} {j : Nat} {c : AV Hd} (h : (undefsH cs)[j]? = some c) : c = .tr .undef ∧ j < cs.length := by
  simp only [undefsH, List.getElem?_map] at h
  cases hc : cs[j]? with
  | none => simp [hc] at h
  | some x => simp [hc] at h; exact ⟨h.symm, (List.getElem?_eq_some_iff.1 hc).1⟩
theorem undefs_own (cs : List (AV Hd)) : ownAL (undefsH cs) = [] := by
  induction cs with
  | nil => rfl
  | cons c r ih => simp only [undefsH, List.map_cons, ownAL, ownA, ownT] at *; simpa using ih
theorem undefs_refOk (S : St Hd) (cs : List (AV Hd)) : refOkL S (undefsH cs) := refOkL_iff.2 fun v hv => by
  simp [undefsH] at hv; rw [← hv.2]; trivial
/-- Nothing lies behind a box whose cells are not there. -/
theorem undef_step {cs : List (AV Hd)} (h : ∀ (j : Nat) c, cs[j]? = some c → ∀ g wd rows, c ≠ .tr (.sl .own g wd rows)) {st : List (Nat × Nat)} {row : List (AV Hd)} (hs : stepRow cs st = some row) : st = [] ∧ row = cs := by
  cases st with
  | nil => simp [stepRow] at hs; exact ⟨rfl, hs.symm⟩
  | cons x r =>
    obtain ⟨o, i⟩ := x
    simp only [stepRow] at hs
    split at hs
    · rename_i g wd rows e1; exact absurd rfl (h o _ e1 g wd rows)
    · simp at hs
theorem noOwn_getC {r : Nat} {g : Hd} {cs : List (AV Hd)} (hl : look S r = some (.box g cs)) (h : ∀ (j : Nat) c, cs[j]? = some c → ∀ g wd rows, c ≠ .tr (.sl .own g wd rows)) {q : Place} (hq : q.root = r) {g0 : Hd} {wd : Nat} {rows : List (List (Tr Hd))} :
    getC S q ≠ some (.tr (.sl .own g0 wd rows)) := by
  intro hc
  simp only [getC, rowOf, hq, hl, Ent.cells] at hc
  split at hc
  · rename_i row hr
    obtain ⟨_, rfl⟩ := undef_step h hr
    exact h _ _ hc _ _ _ rfl
  · simp at hc
theorem noOwn_addr {r : Nat} {g : Hd} {cs : List (AV Hd)} (hl : look S r = some (.box g cs)) (h : ∀ (j : Nat) c, cs[j]? = some c → ∀ g wd rows, c ≠ .tr (.sl .own g wd rows)) {st : List (Nat × Nat)} {B : Addr} {row : List (AV Hd)} (ha : rowAddrS S r st = some (B, row)) : st = [] := by
  have := rowAddrS_rowOf ha
  simp only [rowOf, hl, Ent.cells] at this
  exact (undef_step h this).1
theorem undefs_no (cs : List (AV Hd)) : ∀ (j : Nat) c, (undefsH cs)[j]? = some c → ∀ g wd rows, c ≠ .tr (.sl .own g wd rows) := fun j c h g wd rows => by
  rw [(undefs_get h).1]; simp
theorem defd_tr : ∀ {cs : List (AV Hd)}, defd (erL cs) = true → ∀ c ∈ cs, ∃ t, c = .tr t ∧ t ≠ .undef
  | [], _, c, hc => by simp at hc
  | c :: r, h, c', hc => by
    cases c with
    | tr t =>
      cases t with
      | undef => simp [erL, erA, erT, defd] at h
      | _ =>
        have h' : defd (erL r) = true := by simpa [erL, erA, erT, defd] using h
        rcases List.mem_cons.1 hc with rfl | hc
        · exact ⟨_, rfl, by simp⟩
        · exact defd_tr h' c' hc
    | _ => simp [erL, erA, defd] at h
theorem keeps_give {r : Nat} {g : Hd} {cs : List (AV Hd)} (hl : look S r = some (.box g cs)) : Keeps S (put (poi (badBox r) S) r (.box g (undefsH cs))) (badBox r) := by
  refine ⟨fun q hb g0 w0 rows h => ?_, fun q hb B row h => ?_⟩
  · have hq : ¬ q.root = r := by simpa [badBox] using hb
    refine ⟨rows, ?_, rfl⟩
    rw [getC_root (S := poi (badBox r) S) (by rw [look_put, if_neg hq])]
    exact getC_poi_sl.2 h
  · by_cases hq : q.root = r
    · have hst : q.st = [] := by simpa [badBox, hq] using hb
      rw [hq, hst] at h
      simp only [rowAddrS, hl, rowAddrE] at h
      refine ⟨undefsH cs, ?_⟩
      rw [hq, hst]
      simp only [rowAddrS, look_put, if_true, rowAddrE]
      cases hg : g.a with
      | none => simp [hg] at h
      | some A => simp only [hg, rowAddrA, Option.some.injEq, Prod.mk.injEq] at h ⊢; exact ⟨h.1, trivial⟩
    · obtain ⟨row', h'⟩ := (keeps_poi S (badBox r) (badBox r)).ptr q hb B row h
      exact ⟨row', by rw [rowAddr_root (S := poi (badBox r) S) (by rw [look_put, if_neg hq])]; exact h'⟩
mutual
theorem poiA_box {r : Nat} {g : Hd} {cs : List (AV Hd)} (hl : look S r = some (.box g cs)) (h : ∀ (j : Nat) c, cs[j]? = some c → ∀ g wd rows, c ≠ .tr (.sl .own g wd rows)) : ∀ v, refOk S v → poiA (badBox r) v = v
  | .tr _, _ => rfl
  | .agg cs', h' => by simp only [poiA, poiL_box hl h cs' h']
  | .tup cs', h' => by simp only [poiA, poiL_box hl h cs' h']
  | .fn _ cs', h' => by simp only [poiA, poiL_box hl h cs' h']
  | .ifc _ v, h' => by simp only [poiA, poiA_box hl h v h']
  | .psh .., _ => rfl
  | .ref q lo n cp g0, ⟨g1, w1, rows, h1, _⟩ => by
    have hq : ¬ q.root = r := fun hq => noOwn_getC hl h hq h1
    simp [poiA, badBox, hq]
  | .ptr q g0, ⟨B, row, h1, _⟩ => by
    by_cases hq : q.root = r
    · rw [hq] at h1
      have := noOwn_addr hl h h1
      simp [poiA, badBox, this]
    · simp [poiA, badBox, hq]
theorem poiL_box {r : Nat} {g : Hd} {cs : List (AV Hd)} (hl : look S r = some (.box g cs)) (h : ∀ (j : Nat) c, cs[j]? = some c → ∀ g wd rows, c ≠ .tr (.sl .own g wd rows)) : ∀ l, refOkL S l → poiL (badBox r) l = l
  | [], _ => rfl
  | v :: l, ⟨h1, h2⟩ => by simp only [poiL, poiA_box hl h v h1, poiL_box hl h l h2]
end
theorem giveBox_ok (hG : Good Z S a w) {r : Nat} {cs : List UV} {U : US} (h : giveBox (erS S) r = some (cs, U)) :
    ∃ g cs0, look S r = some (.box g cs0) ∧ erL cs0 = cs ∧ (∀ c ∈ cs0, ∃ t, c = .tr t ∧ t ≠ .undef) ∧ cs0 ≠ [] ∧ erS (put (poi (badBox r) S) r (.box g (undefsH cs0))) = U ∧
      Good Z (put (poi (badBox r) S) r (.box g (undefsH cs0))) a w ∧ Less S (put (poi (badBox r) S) r (.box g (undefsH cs0))) ∧ (∀ b ∈ ownAL cs0, b ∉ ownS (put (poi (badBox r) S) r (.box g (undefsH cs0)))) := by
  unfold giveBox at h
  rw [look_er] at h
  cases hl : look S r with
  | none => simp [hl] at h
  | some e =>
    simp only [hl, Option.map_some] at h
    cases e with
    | tmp v => simp [erE] at h
    | vir t => simp [erE] at h
    | box g cs0 =>
      simp only [erE] at h
      split at h
      · rename_i hc
        simp only [Option.some.injEq, Prod.mk.injEq] at h
        obtain ⟨rfl, rfl⟩ := h
        obtain ⟨h1, A, h2, h3, cells, e, h4, h5, h6⟩ := hG.ent _ _ hl
        have hne : cs0 ≠ [] := by rintro rfl; simp [erL] at hc
        obtain ⟨rest, p1, p2⟩ := put_perm S r hG.sorted
        simp only [oldE, hl, ownE] at p1
        have hnd := p1.nodup_iff.1 hG.nd
        have pe : (ownS (put (poi (badBox r) S) r (.box g (undefsH cs0)))).Perm (blk g ++ rest) := by
          rw [ownS_put_poi]; exact (p2 _).trans (by simp [ownE, undefs_own])
        refine ⟨g, cs0, rfl, rfl, defd_tr hc.1, hne, ?_, ?_, ?_, fun b hb hb' => ?_⟩
        · rw [put_er]
          have hu : erE (.box g (undefsH cs0)) = .box () ((erL cs0).map fun _ => .tr .undef) := by
            simp only [erE, undefsH, erL_map, List.map_map]; rfl
          rw [hu]
          congr 1
          rw [poi_er]
          split
          · rfl
          · rename_i hno
            have hall : ∀ (j : Nat) c, cs0[j]? = some c → ∀ g wd rows, c ≠ .tr (.sl .own g wd rows) := by
              rintro j c hj g1 w1 rows1 rfl
              apply hno
              have : ∀ l : List (AV Hd), .tr (.sl .own g1 w1 rows1) ∈ l → ownL (erL l) = true := by
                intro l hl
                induction l with
                | nil => simp at hl
                | cons x r ih =>
                  simp only [erL, ownL, Bool.or_eq_true]
                  rcases List.mem_cons.1 hl with rfl | hl
                  · left; simp [erA, erT, ownV]
                  · exact .inr (ih hl)
              exact this cs0 (List.mem_of_getElem? hj)
            rw [← poi_er]
            congr 1
            refine poi_of_all _ _ fun x hx => ?_
            have hx' := hG.refs _ _ (look_mem hG.sorted hx)
            cases he : x.2 with
            | tmp v => rw [he] at hx'; simp only [Ent.poi, poiA_box hl hall v hx']
            | box g1 cs1 => rw [he] at hx'; simp only [Ent.poi, poiL_box hl hall cs1 hx']
            | vir t => rfl
        · refine hG.reBox hl (keeps_give hl) (fun A' hA' => ?_) (by rw [undefs_own]; simp) (by rw [undefs_own]; simp) (by rw [undefs_own]; simp) (undefs_refOk _ _)
          rw [h2] at hA'; simp at hA'; subst hA'
          refine ⟨cells, e, h4, by simpa [undefsH] using h5, fun j c hj => ?_⟩
          obtain ⟨rfl, hlt⟩ := undefs_get hj
          obtain ⟨⟨v, v1, _⟩, _⟩ := h6 j cs0[j] (List.getElem?_eq_getElem hlt)
          exact ⟨⟨v, v1, trivial⟩, trivial⟩
        · refine ⟨fun b hb => p1.mem_iff.2 ?_, fun d g1 cs1 hd => ?_, fun r1 st B row' hr => ?_, fun s e' he => ?_, (virOk_poi _ _).trans (virOk_put _ _ _ (by intro t h; cases h))⟩
          · have := pe.mem_iff.1 hb
            simp only [List.mem_append] at this ⊢
            exact this.elim (fun h => .inl (.inl h)) .inr
          · by_cases hd' : d = r
            · subst hd'
              rw [hl] at hd; simp at hd
              obtain ⟨rfl, rfl⟩ := hd
              exact ⟨undefsH cs0, by rw [look_put, if_pos rfl], by simp [undefsH]⟩
            · exact ⟨poiL (badBox r) cs1, by rw [look_put, if_neg hd', look_poi, hd]; rfl, by rw [poiL_map]; simp⟩
          · by_cases hr' : r1 = r
            · subst hr'
              have hst := noOwn_addr (S := put (poi (badBox r1) S) r1 (.box g (undefsH cs0))) (by rw [look_put, if_pos rfl]) (undefs_no cs0) hr
              subst hst
              simp only [rowAddrS, look_put, if_true, rowAddrE, h2, rowAddrA, Option.some.injEq, Prod.mk.injEq] at hr
              exact ⟨cs0, by simp [rowAddrS, hl, rowAddrE, h2, rowAddrA, hr.1]⟩
            · rw [rowAddr_root (S := poi (badBox r) S) (by rw [look_put, if_neg hr'])] at hr
              exact poi_back _ S r1 st B row' hr
          · rw [look_put] at he
            split at he
            · rename_i hs; subst hs
              simp at he; subst he
              exact ⟨_, hl, by simp [rootsE]⟩
            · exact (less_poi (badBox r) S).roots s e' he
        · rcases List.mem_append.1 (pe.mem_iff.1 hb') with h | h
          · exact nodup_apart (nodup_append_left hnd) h hb
          · exact nodup_apart hnd (by simp [hb]) h
      · simp at h

/-! #### Boxes of the arguments, and those captured -/
structure BI where
  r : Nat
  g : Hd
  cs : List (AV Hd)
def BI.ent (i : BI) : Ent Hd := .box i.g i.cs
/-- What is told of boxes that were handed on. -/
structure Gave (Z : Zone) (S S' : St Hd) (w : World) (l : List BI) : Prop where
  ok : ∀ i ∈ l, (∃ A, i.g.a = some A ∧ A.spot = none ∧ boxOk w Z A i.cs) ∧ (∀ c ∈ i.cs, ∃ t, c = .tr t ∧ t ≠ .undef) ∧ i.cs ≠ []
  now : ∀ i ∈ l, look S' i.r = some (.box i.g (undefsH i.cs))
  frm : ∀ i ∈ l, ∃ cs0, look S i.r = some (.box i.g cs0) ∧ (∃ c ∈ cs0, c ≠ .tr .undef) ∧ ∀ b ∈ ownE i.ent, b ∈ ownE (.box i.g cs0 : Ent Hd)
  nd : (l.flatMap fun i => ownE i.ent).Nodup
  roots : (l.map (·.r)).Nodup
  own : ∀ i ∈ l, ∀ b ∈ ownAL i.cs, b ∉ ownS S'
theorem Gave.nil : Gave Z S S w [] := ⟨by simp, by simp, by simp, by simp, by simp, by simp⟩
theorem look_put_box {r r' : Nat} {g g' : Hd} {cs cs' : List (AV Hd)} (hne : r' ≠ r) (hl : look S r' = some (.box g' (undefsH cs'))) : look (put (poi (badBox r) S) r (.box g cs)) r' = some (.box g' (undefsH cs')) := by
  rw [look_put, if_neg hne, look_poi, hl]
  simp only [Option.map_some, Ent.poi]
  congr 2
  rw [poiL_map]
  simp only [undefsH, List.map_map]
  rfl
/-- Boxes come from boxes. -/
def BackB (S S' : St Hd) : Prop := ∀ r g cs', look S' r = some (.box g cs') → ∃ cs, look S r = some (.box g cs) ∧ (∀ b ∈ ownAL cs', b ∈ ownAL cs) ∧ ((∃ c ∈ cs', c ≠ .tr .undef) → ∃ c ∈ cs, c ≠ .tr .undef)
theorem BackB.refl (S : St Hd) : BackB S S := fun _ _ cs h => ⟨cs, h, fun _ h => h, fun h => h⟩
theorem BackB.trans {S S1 S2 : St Hd} (h : BackB S S1) (h' : BackB S1 S2) : BackB S S2 := fun r g cs2 hl => by
  obtain ⟨cs1, l1, o1, d1⟩ := h' r g cs2 hl
  obtain ⟨cs, l0, o0, d0⟩ := h r g cs1 l1
  exact ⟨cs, l0, fun b hb => o0 b (o1 b hb), fun hd => d0 (d1 hd)⟩
theorem backB_give {r : Nat} {g : Hd} {cs0 : List (AV Hd)} (hl : look S r = some (.box g cs0)) : BackB S (put (poi (badBox r) S) r (.box g (undefsH cs0))) := fun r' g' cs' hl' => by
  rw [look_put] at hl'
  split at hl'
  · rename_i hr; subst hr
    simp at hl'
    obtain ⟨rfl, rfl⟩ := hl'
    refine ⟨cs0, hl, by rw [undefs_own]; simp, ?_⟩
    rintro ⟨c, hc, hn⟩
    obtain ⟨j, hj⟩ := List.getElem?_of_mem hc
    exact absurd (undefs_get hj).1 hn
  · rw [look_poi] at hl'
    cases hs : look S r' with
    | none => simp [hs] at hl'
    | some e =>
      simp [hs] at hl'
      cases e with
      | box g1 cs1 =>
        simp only [Ent.poi, Ent.box.injEq] at hl'
        obtain ⟨rfl, rfl⟩ := hl'
        refine ⟨cs1, rfl, by rw [ownAL_poi]; exact fun _ h => h, ?_⟩
        rintro ⟨c, hc, hn⟩
        rw [poiL_map] at hc
        obtain ⟨c0, h0, rfl⟩ := List.mem_map.1 hc
        exact ⟨c0, h0, by rintro rfl; exact hn rfl⟩
      | tmp v => simp [Ent.poi] at hl'
      | vir t => simp [Ent.poi] at hl'
theorem Gave.one (hG : Good Z S a w) {r : Nat} {g : Hd} {cs0 : List (AV Hd)} (hl : look S r = some (.box g cs0)) (hd : ∀ c ∈ cs0, ∃ t, c = .tr t ∧ t ≠ .undef) (hne : cs0 ≠ [])
    (hown : ∀ b ∈ ownAL cs0, b ∉ ownS (put (poi (badBox r) S) r (.box g (undefsH cs0)))) : Gave Z S (put (poi (badBox r) S) r (.box g (undefsH cs0))) w [⟨r, g, cs0⟩] := by
  obtain ⟨h1, A, h2, h3, h4⟩ := hG.ent _ _ hl
  obtain ⟨c, rr, hcs⟩ := List.exists_cons_of_ne_nil hne
  refine ⟨?_, ?_, ?_, ?_, by simp, ?_⟩
  · intro i hi; simp at hi; subst hi; exact ⟨⟨A, h2, h3, h4⟩, hd, hne⟩
  · intro i hi; simp at hi; subst hi; rw [look_put, if_pos rfl]
  · intro i hi; simp at hi; subst hi
    refine ⟨cs0, hl, ⟨c, by simp [hcs], ?_⟩, fun b hb => hb⟩
    obtain ⟨t, rfl, ht⟩ := hd c (by simp [hcs])
    simpa using ht
  · simpa [BI.ent] using hG.ownE_nodup hl
  · intro i hi; simp at hi; subst hi; exact hown
/-- Boxes that are handed on stay so. -/
def Stay (S S' : St Hd) : Prop := ∀ r g cs, cs ≠ [] → look S r = some (.box g (undefsH cs)) → look S' r = some (.box g (undefsH cs))
theorem Stay.refl (S : St Hd) : Stay S S := fun _ _ _ _ h => h
theorem Stay.trans {S S1 S2 : St Hd} (h : Stay S S1) (h' : Stay S1 S2) : Stay S S2 := fun r g cs hn hl => h' r g cs hn (h r g cs hn hl)
theorem stay_give {r : Nat} {g : Hd} {cs0 : List (AV Hd)} (hl : look S r = some (.box g cs0)) (hd : ∀ c ∈ cs0, ∃ t, c = .tr t ∧ t ≠ .undef) : Stay S (put (poi (badBox r) S) r (.box g (undefsH cs0))) := by
  intro r' g' cs' hne hl'
  refine look_put_box ?_ hl'
  rintro rfl
  rw [hl] at hl'
  simp at hl'
  obtain ⟨rfl, rfl⟩ := hl'
  obtain ⟨c, rr, hcs⟩ := List.exists_cons_of_ne_nil hne
  obtain ⟨t, ht, hu⟩ := hd (.tr .undef) (by simp [hcs, undefsH])
  simp at ht; exact hu ht.symm
theorem Gave.append {S1 S2 : St Hd} {l l' : List BI} (h : Gave Z S S1 w l) (h' : Gave Z S1 S2 w l') (hG1 : Good Z S1 a w) (hst : Stay S1 S2) (hle : Less S1 S2) (hbk : BackB S S1) : Gave Z S S2 w (l ++ l') := by
  have hne : ∀ i ∈ l, ∀ j ∈ l', i.r ≠ j.r := by
    intro i hi j hj hr
    obtain ⟨cs0, f1, ⟨c, f2, f3⟩, _⟩ := h'.frm j hj
    have := h.now i hi
    rw [hr, f1] at this
    simp at this
    rw [this.2] at f2
    obtain ⟨k, hk⟩ := List.getElem?_of_mem f2
    exact f3 (undefs_get hk).1
  refine ⟨fun i hi => (List.mem_append.1 hi).elim (h.ok i) (h'.ok i), fun i hi => ?_, fun i hi => ?_, ?_, ?_, fun i hi b hb => ?_⟩
  · rcases List.mem_append.1 hi with hi | hi
    · exact hst _ _ _ (h.ok i hi).2.2 (h.now i hi)
    · exact h'.now i hi
  · rcases List.mem_append.1 hi with hi | hi
    · exact h.frm i hi
    · obtain ⟨cs1, f1, f2, f3⟩ := h'.frm i hi
      obtain ⟨cs0, k1, k2, k3⟩ := hbk _ _ _ f1
      refine ⟨cs0, k1, k3 f2, fun b hb => ?_⟩
      have := f3 b hb
      simp only [ownE, List.mem_append] at this ⊢
      exact this.imp id (k2 b)
  · rw [List.flatMap_append]
    refine List.nodup_append.2 ⟨h.nd, h'.nd, fun x hx y hy hxy => ?_⟩
    subst hxy
    obtain ⟨i, hi, hb⟩ := List.mem_flatMap.1 hx
    obtain ⟨j, hj, hb'⟩ := List.mem_flatMap.1 hy
    obtain ⟨cs1, f1, f2, f3⟩ := h'.frm j hj
    have h2 := f3 x hb'
    simp only [BI.ent, ownE, List.mem_append] at hb
    rcases hb with hb | hb
    · exact look_ne hG1.nd (h.now i hi) f1 (hne i hi j hj) x (by simp [ownE, hb]) h2
    · exact h.own i hi x hb (look_own f1 x h2)
  · rw [List.map_append]
    refine List.nodup_append.2 ⟨h.roots, h'.roots, fun x hx y hy hxy => ?_⟩
    subst hxy
    obtain ⟨i, hi, h1⟩ := List.mem_map.1 hx
    obtain ⟨j, hj, h2⟩ := List.mem_map.1 hy
    exact hne i hi j hj (h1.trans h2.symm)
  · rcases List.mem_append.1 hi with hi | hi
    · exact fun hc => h.own i hi b hb (hle.own b hc)
    · exact h'.own i hi b hb
theorem passBox_ok {md : Nat → Nat} : ∀ {args : List (Operand × TypeId)} {i : Nat} {S : St Hd} {es : List (Option UE)} {bs : List Nat} {U : US}, Good Z S a w → passBox P md i (erS S) args = some (es, bs, U) →
    ∃ (E : List (Option (Ent Hd))) (S' : St Hd) (L : List BI), E.map erO = es ∧ erS S' = U ∧ Good Z S' a w ∧ Less S S' ∧ bs = L.map (·.r) ∧ Gave Z S S' w L ∧ (Stay S S' ∧ BackB S S') ∧ ownOs E = (L.flatMap fun i => ownE i.ent) ∧
      (E.filterMap id = L.map BI.ent) ∧ (∀ (j : Nat) e, E[j]? = some (some e) → ∃ xt i, args[j]? = some xt ∧ i ∈ L ∧ e = i.ent ∧ a.eval xt.1 = .pointer i.g.a)
  | [], i, S, es, bs, U, hG, h => by
    simp only [passBox, Option.some.injEq, Prod.mk.injEq] at h
    obtain ⟨rfl, rfl, rfl⟩ := h
    exact ⟨[], S, [], rfl, rfl, hG, .refl S, rfl, .nil, ⟨.refl S, .refl S⟩, rfl, rfl, by simp⟩
  | (x, t) :: r, i, S, es, bs, U, hG, h => by
    simp only [passBox] at h
    split at h
    · split at h
      · rename_i q u hev
        split at h
        · rename_i hq
          split at h
          · rename_i cs U1 hg
            split at h
            · rename_i es2 bs2 U2 hr
              simp only [Option.some.injEq, Prod.mk.injEq] at h
              obtain ⟨rfl, rfl, rfl⟩ := h
              obtain ⟨g, cs0, g1, g2, g3, g4, g5, g6, g7, g8⟩ := giveBox_ok hG hg
              subst g2 g5
              obtain ⟨E, S2, L, f1, f2, f3, f4, f5, f6, f7, f8, f9, f10⟩ := passBox_ok g6 hr
              subst f1 f2 f5
              obtain ⟨v', h1, h2, h3, h4, h5, h6⟩ := ev_ok hG hev
              obtain ⟨g', rfl⟩ := erA_ptr h1
              obtain ⟨B, row, r1, r2⟩ := h4
              have hga : a.eval x = .pointer g.a := by
                have e1 : a.eval x = .pointer g'.a := h2
                rw [e1, r2]
                rw [hq.1] at r1
                simp only [rowAddrS, g1, rowAddrE] at r1
                cases hgg : g.a with
                | none => simp [hgg] at r1
                | some A =>
                  simp only [hgg, rowAddrA, Option.some.injEq, Prod.mk.injEq] at r1
                  obtain ⟨rfl, _⟩ := r1
                  obtain ⟨_, A', k2, k3, _⟩ := hG.ent _ _ g1
                  rw [hgg] at k2; simp at k2; subst k2
                  rw [hq.2]
                  obtain ⟨bb, oo, sp⟩ := A
                  simp at k3; subst k3; rfl
              refine ⟨some (.box g cs0) :: E, S2, ⟨q.root, g, cs0⟩ :: L, rfl, rfl, f3, g7.trans f4, rfl, (Gave.one hG g1 g3 g4 g8).append f6 g6 f7.1 f4 (backB_give g1), ⟨(stay_give g1 g3).trans f7.1, (backB_give g1).trans f7.2⟩, ?_, ?_, fun j e he => ?_⟩
              · simp [ownOs, ownO, f8, BI.ent]
              · simp [f9, BI.ent]
              · cases j with
                | zero => simp at he; subst he; exact ⟨(x, t), ⟨q.root, g, cs0⟩, rfl, by simp, rfl, hga⟩
                | succ j =>
                  obtain ⟨xt, i, k1, k2, k3, k4⟩ := f10 j e (by simpa using he)
                  exact ⟨xt, i, by simpa using k1, by simp [k2], k3, k4⟩
            · simp at h
          · simp at h
        · simp at h
      · simp at h
    · split at h
      · rename_i es2 bs2 U2 hr
        simp only [Option.some.injEq, Prod.mk.injEq] at h
        obtain ⟨rfl, rfl, rfl⟩ := h
        obtain ⟨E, S2, L, f1, f2, f3, f4, f5, f6, f7, f8, f9, f10⟩ := passBox_ok hG hr
        refine ⟨none :: E, S2, L, by simp [f1, erO], f2, f3, f4, f5, f6, f7, by simp [ownOs, ownO, f8], by simp [f9], fun j e he => ?_⟩
        cases j with
        | zero => simp at he
        | succ j =>
          obtain ⟨xt, i, k1, k2, k3, k4⟩ := f10 j e (by simpa using he)
          exact ⟨xt, i, by simpa using k1, k2, k3, k4⟩
      · simp at h
theorem passCaps_ok {S0 : St Hd} (hG0 : Good Z S0 a w) : ∀ {caps : List (AV Hd)} {S : St Hd} {es : List UE} {bs : List Nat} {U : US}, Good Z S a w → Less S0 S → refOkL S0 caps → passCaps (erS S) (erL caps) = some (es, bs, U) →
    ∃ (S' : St Hd) (L : List BI), es = (L.map fun i => erE i.ent) ∧ erS S' = U ∧ Good Z S' a w ∧ Less S S' ∧ bs = L.map (·.r) ∧ Gave Z S S' w L ∧ (Stay S S' ∧ BackB S S') ∧ (∀ vs, IsL caps vs → vs = L.map fun i => .pointer i.g.a)
  | [], S, es, bs, U, hG, _, _, h => by
    simp only [erL, passCaps, Option.some.injEq, Prod.mk.injEq] at h
    obtain ⟨rfl, rfl, rfl⟩ := h
    exact ⟨S, [], rfl, rfl, hG, .refl S, rfl, .nil, ⟨.refl S, .refl S⟩, fun vs hv => hv⟩
  | c :: r, S, es, bs, U, hG, hl0, ⟨hr1, hr2⟩, h => by
    cases c with
    | ptr q g' =>
      simp only [erL, erA, passCaps] at h
      split at h
      · rename_i hq
        split at h
        · rename_i cs U1 hg
          split at h
          · rename_i es2 bs2 U2 hr
            simp only [Option.some.injEq, Prod.mk.injEq] at h
            obtain ⟨rfl, rfl, rfl⟩ := h
            obtain ⟨g, cs0, g1, g2, g3, g4, g5, g6, g7, g8⟩ := giveBox_ok hG hg
            subst g2 g5
            obtain ⟨S2, L, f1, f2, f3, f4, f5, f6, f7, f8⟩ := passCaps_ok hG0 g6 (hl0.trans g7) hr2 hr
            subst f1 f2 f5
            have hga : g'.a = g.a := by
              obtain ⟨B, row, r1, r2⟩ := hr1
              rw [r2]
              rw [hq.1] at r1
              simp only [rowAddrS] at r1
              cases hs : look S0 q.root with
              | none => simp [hs] at r1
              | some e0 =>
                simp only [hs] at r1
                cases e0 with
                | tmp v => simp [rowAddrE] at r1
                | vir t => simp [rowAddrE] at r1
                | box g0 csA =>
                  obtain ⟨csB, l1, _⟩ := hl0.box _ _ _ hs
                  rw [g1] at l1; simp at l1
                  obtain ⟨rfl, _⟩ := l1
                  simp only [rowAddrE] at r1
                  cases hgg : g.a with
                  | none => simp [hgg] at r1
                  | some A =>
                    simp only [hgg, rowAddrA, Option.some.injEq, Prod.mk.injEq] at r1
                    obtain ⟨rfl, _⟩ := r1
                    obtain ⟨_, A', k2, k3, _⟩ := hG.ent _ _ g1
                    rw [hgg] at k2; simp at k2; subst k2
                    rw [hq.2]
                    obtain ⟨bb, oo, sp⟩ := A
                    simp at k3; subst k3; rfl
            refine ⟨S2, ⟨q.root, g, cs0⟩ :: L, by simp [BI.ent, erE], rfl, f3, g7.trans f4, rfl, (Gave.one hG g1 g3 g4 g8).append f6 g6 f7.1 f4 (backB_give g1), ⟨(stay_give g1 g3).trans f7.1, (backB_give g1).trans f7.2⟩, fun vs hv => ?_⟩
            obtain ⟨v, us, rfl, hv1, hv2⟩ := hv
            simp only [IsA] at hv1
            rw [hv1, f8 us hv2, hga]
            simp
          · simp at h
        · simp at h
      · simp at h
    | _ => simp [erL, erA, passCaps] at h
end Go.HT
end
section
namespace Go.HT
open Go
variable {P : Program} {Z Z' : Zone} {S : St Hd} {a : Act} {w : World}

/-! ### What really stands at a place -/
def At (a : Act) (w : World) (S : St Hd) (q : Place) (v : Value) : Prop :=
  (∃ B row, rowAddrS S q.root q.st = some (B, row) ∧ w.cell? ⟨B.block, B.off + q.off, none⟩ = some v) ∨
  (q.st = [] ∧ ((∃ cs vs, look S q.root = some (.tmp (.agg cs)) ∧ a.tmps.getD q.root undef = .agg vs ∧ vs.toList[q.off]? = some v) ∨
    (∃ u, look S q.root = some (.tmp u) ∧ (∀ cs, u ≠ .agg cs) ∧ q.off = 0 ∧ a.tmps.getD q.root undef = v) ∨ ∃ t, look S q.root = some (.vir t)))
def kindE : Option (Ent Hd) → Nat
  | none => 0
  | some (.box _ _) => 1
  | some (.vir _) => 2
  | some (.tmp (.agg _)) => 3
  | some (.tmp _) => 4
def SameK (S S' : St Hd) : Prop := ∀ d, kindE (look S' d) = kindE (look S d)
theorem SameK.refl (S : St Hd) : SameK S S := fun _ => rfl
theorem SameK.trans {S S1 S2 : St Hd} (h : SameK S S1) (h' : SameK S1 S2) : SameK S S2 := fun d => (h' d).trans (h d)
theorem sameK_poi (bad : Place → Bool → Bool) (S : St Hd) : SameK S (poi bad S) := fun d => by
  rw [look_poi]
  cases hl : look S d with
  | none => rfl
  | some e =>
    cases e with
    | box g cs => rfl
    | vir t => rfl
    | tmp v =>
      cases v with
      | ref q lo n cp g => simp only [Option.map_some, Ent.poi, poiA]; split <;> rfl
      | ptr q g => simp only [Option.map_some, Ent.poi, poiA]; split <;> rfl
      | _ => rfl
theorem kind_tmp {u : AV Hd} (h : ∀ cs, u ≠ .agg cs) : kindE (some (.tmp u)) = 4 := by
  cases u with
  | agg cs => exact absurd rfl (h cs)
  | _ => rfl
theorem set_kind {e e' : Ent Hd} {st : List (Nat × Nat)} {off : Nat} {t : Tr Hd} (h : e.set st off (.tr t) = some e') : kindE (some e') = kindE (some e) := by
  cases e with
  | box g cs => simp only [Ent.set] at h; split at h <;> simp at h; subst h; rfl
  | vir t => simp only [Ent.set] at h; split at h <;> simp at h; subst h; rfl
  | tmp v =>
    by_cases hv : ∃ cs, v = .agg cs
    · obtain ⟨cs, rfl⟩ := hv
      simp only [Ent.set] at h; split at h <;> simp at h; subst h; rfl
    · have hn : ∀ cs, v ≠ .agg cs := fun cs hc => hv ⟨cs, hc⟩
      have h' : ∃ v', setRowA [v] st off (.tr t) = some [v'] ∧ e' = .tmp v' := by
        cases v with
        | agg cs => exact absurd rfl (hn cs)
        | _ => simp only [Ent.set] at h; split at h <;> simp at h; rename_i v' hs; exact ⟨v', hs, h.symm⟩
      obtain ⟨v', h1, rfl⟩ := h'
      rw [kind_tmp hn]
      have : ∃ t', v' = .tr t' := by
        cases st with
        | nil =>
          simp only [setRowA] at h1
          split at h1
          · rename_i hlt
            have : off = 0 := by simpa using hlt
            subst this
            simp at h1; exact ⟨t, h1.symm⟩
          · simp at h1
        | cons x r =>
          obtain ⟨o, i⟩ := x
          obtain ⟨g, wd, rows, row1, t3, row3, e1, e3, e4, e5, e6⟩ := setRowA_cons h1
          cases o with
          | zero => simp at e6; exact ⟨_, e6⟩
          | succ n => simp at e1
      obtain ⟨t', rfl⟩ := this
      rfl
theorem sameK_setC {S S' : St Hd} {q : Place} {t : Tr Hd} (h : setC S q (.tr t) = some S') : SameK S S' := fun d => by
  obtain ⟨e, e', h1, h2, rfl⟩ := setC_look h
  rw [look_put]
  split
  · rename_i hd; subst hd; rw [h1]; exact set_kind h2
  · rfl
theorem kind_agg {o : Option (Ent Hd)} (h : kindE o = 3) : ∃ cs, o = some (.tmp (.agg cs)) := by
  cases o with
  | none => simp [kindE] at h
  | some e =>
    cases e with
    | tmp v => cases v with
      | agg cs => exact ⟨cs, rfl⟩
      | _ => simp [kindE] at h
    | _ => simp [kindE] at h
theorem kind_one {o : Option (Ent Hd)} (h : kindE o = 4) : ∃ u, o = some (.tmp u) ∧ ∀ cs, u ≠ .agg cs := by
  cases o with
  | none => simp [kindE] at h
  | some e =>
    cases e with
    | tmp v => cases v with
      | agg cs => simp [kindE] at h
      | _ => exact ⟨_, rfl, by simp⟩
    | _ => simp [kindE] at h
theorem kind_vir {o : Option (Ent Hd)} (h : kindE o = 2) : ∃ t, o = some (.vir t) := by
  cases o with
  | none => simp [kindE] at h
  | some e =>
    cases e with
    | tmp v => cases v <;> simp [kindE] at h
    | vir t => exact ⟨t, rfl⟩
    | _ => simp [kindE] at h
theorem At.same {S S' : St Hd} {q : Place} {v : Value} (hk : SameK S S') (hp : ∀ B row, rowAddrS S q.root q.st = some (B, row) → ∃ row', rowAddrS S' q.root q.st = some (B, row')) (h : At a w S q v) : At a w S' q v := by
  rcases h with ⟨B, row, h1, h2⟩ | ⟨hst, h⟩
  · obtain ⟨row', h3⟩ := hp B row h1
    exact .inl ⟨B, row', h3, h2⟩
  · refine .inr ⟨hst, ?_⟩
    have hq := hk q.root
    rcases h with ⟨cs, vs, h1, h2, h3⟩ | ⟨u, h1, h2, h3, h4⟩ | ⟨t, h1⟩
    · rw [h1] at hq
      obtain ⟨cs', h5⟩ := kind_agg hq
      exact .inl ⟨cs', vs, h5, h2, h3⟩
    · rw [h1, kind_tmp h2] at hq
      obtain ⟨u', h5, h6⟩ := kind_one hq
      exact .inr (.inl ⟨u', h5, h6, h3, h4⟩)
    · rw [h1] at hq
      obtain ⟨t', h5⟩ := kind_vir hq
      exact .inr (.inr ⟨t', h5⟩)
theorem rowAddrT_of : ∀ {st : List (Nat × Nat)} {B : Addr} {row row' : List (Tr Hd)}, (∀ t ∈ row, memT w Z true t) → rowT row st = some row' → ∃ B', rowAddrT B row st = some (B', row')
  | [], B, row, row', _, h => by simp [rowT] at h; subst h; exact ⟨B, rfl⟩
  | (o, i) :: r, B, row, row', hm, h => by
    simp only [rowT] at h
    split at h
    · rename_i g wd rows e1
      split at h
      · rename_i row1 e2
        obtain ⟨m1, m2, m3⟩ := hm _ (List.mem_of_getElem? e1)
        simp only [rowAddrT, e1, e2]
        cases hg : g.a with
        | none => have := (m1.1 hg).1; subst this; simp at e2
        | some A => exact rowAddrT_of (fun t ht => by simpa using memRow_iff.1 (memRows_iff.1 m3 row1 (List.mem_of_getElem? e2)) t ht) h
      · simp at h
    · simp at h
theorem addr_of (hG : Good Z S a w) {q : Place} {c : AV Hd} (hc : getC S q = some c) (hst : q.st ≠ []) : ∃ B row, rowAddrS S q.root q.st = some (B, row) := by
  simp only [getC, rowOf] at hc
  cases hl : look S q.root with
  | none => simp [hl] at hc
  | some e =>
    simp only [hl] at hc
    split at hc
    · rename_i row hr
      cases hs : q.st with
      | nil => exact absurd hs hst
      | cons x r =>
        obtain ⟨o, i⟩ := x
        rw [hs] at hr
        have hm := hG.cellsMem hl
        have key : ∀ B0, ∃ B row, rowAddrA B0 e.cells ((o, i) :: r) = some (B, row) := by
          intro B0
          simp only [stepRow] at hr
          split at hr
          · rename_i g wd rows e1
            split at hr
            · rename_i row1 e2
              obtain ⟨m1, m2, m3⟩ := hm _ (List.mem_of_getElem? e1)
              simp only [rowAddrA, e1, e2]
              cases hg : g.a with
              | none => have := (m1.1 hg).1; subst this; simp at e2
              | some A =>
                rw [stepRow_tr] at hr
                cases hrt : rowT row1 r with
                | none => simp [hrt] at hr
                | some row2 =>
                  obtain ⟨B', hB⟩ := rowAddrT_of (w := w) (Z := Z) (B := ⟨A.block, A.off + i * wd, none⟩) (fun t ht => by simpa using memRow_iff.1 (memRows_iff.1 m3 row1 (List.mem_of_getElem? e2)) t ht) hrt
                  exact ⟨B', row2.map .tr, by simp [hB]⟩
            · simp at hr
          · simp at hr
        simp only [rowAddrS, hl]
        cases e with
        | box g cs =>
          obtain ⟨_, A, h2, _⟩ := hG.ent _ _ hl
          simp only [rowAddrE, h2]
          exact key A
        | tmp v => simp only [rowAddrE]; simpa using key default
        | vir t => simp only [rowAddrE]; simpa using key default
    · simp at hc
/-- What stands at a place where a slice is owned. -/
theorem at_ex (hG : Good Z S a w) {q : Place} {g : Hd} {wd : Nat} {rows : List (List (Tr Hd))} (hc : getC S q = some (.tr (.sl .own g wd rows))) : ∃ v, At a w S q v ∧ IsT (.sl .own g wd rows) v := by
  by_cases haddr : ∃ B row, rowAddrS S q.root q.st = some (B, row)
  · obtain ⟨B, row, ha⟩ := haddr
    obtain ⟨cs, e0, c1, c2⟩ := hG.row ha
    have hrow := rowAddrS_rowOf ha
    simp only [getC, hrow] at hc
    obtain ⟨⟨v, v1, v2⟩, _⟩ := c2 _ _ hc
    exact ⟨v, .inl ⟨B, row, ha, by rw [cell_eq c1]; exact v1⟩, v2⟩
  · have hst : q.st = [] := by
      cases hs : q.st with
      | nil => rfl
      | cons x r => exact absurd (addr_of hG hc (by simp [hs])) haddr
    simp only [getC, rowOf, hst] at hc
    cases hl : look S q.root with
    | none => simp [hl] at hc
    | some e =>
      simp only [hl, stepRow] at hc
      have hent := hG.ent _ _ hl
      cases e with
      | box g1 cs =>
        exfalso
        obtain ⟨_, A, h2, _⟩ := hent
        exact haddr ⟨A, cs, by simp [rowAddrS, hl, hst, rowAddrE, h2, rowAddrA]⟩
      | vir t => exact ⟨.slice g.a rows.length g.cap, .inr ⟨hst, .inr (.inr ⟨t, hl⟩)⟩, rfl⟩
      | tmp v =>
        by_cases hv : ∃ cs, v = .agg cs
        · obtain ⟨cs, rfl⟩ := hv
          obtain ⟨⟨vs, h1, h2⟩, _⟩ := hent
          simp only [Ent.cells] at hc
          obtain ⟨u, u1, u2⟩ := IsL_get h2 hc
          exact ⟨u, .inr ⟨hst, .inl ⟨cs, vs, hl, h1, u1⟩⟩, u2⟩
        · have hn : ∀ cs, v ≠ .agg cs := fun cs h => hv ⟨cs, h⟩
          rw [cells_na hn] at hc
          have ho : q.off = 0 := by
            cases hoff : q.off with
            | zero => rfl
            | succ n => simp [hoff] at hc
          simp only [ho] at hc
          simp at hc; subst hc
          exact ⟨_, .inr ⟨hst, .inr (.inl ⟨_, hl, hn, ho, rfl⟩)⟩, hent.1⟩
theorem IsL_setv : ∀ {l : List (AV Hd)} {vs : List Value} {i : Nat} {c' : AV Hd} {v : Value}, IsL l vs → vs[i]? = some v → IsA c' v → IsL (l.set i c') vs
  | [], vs, i, c', v, h, _, _ => h
  | c :: r, _, 0, c', v, ⟨u, us, rfl, h1, h2⟩, hv, hc => by simp at hv; subst hv; exact ⟨_, _, rfl, hc, h2⟩
  | c :: r, _, i + 1, c', v, ⟨u, us, rfl, h1, h2⟩, hv, hc => ⟨_, _, rfl, h1, IsL_setv h2 (by simpa using hv) hc⟩
/-- A slice is laid where its header stands. -/
theorem Good.hold (h : Good Z S a w) {S' : St Hd} {q : Place} {t : Tr Hd} {v : Value} (hs : HT.setC S q (.tr t) = some S') (hc : getC S q = some (.tr .undef)) (hat : At a w S q v) (hi : IsT t v) (hm : memT w Z true t) (hn : (ownT t).Nodup)
    (hz : ∀ b ∈ ownT t, ¬ Z.b b ∧ b < w.heap.size) (hd : ∀ b ∈ ownT t, b ∉ ownS S) : Good Z S' a w ∧ Keeps S S' noBad := by
  have hk : Keeps S S' noBad := keeps_setC' hs hc rfl noBad
  refine ⟨?_, hk⟩
  rcases hat with ⟨B, row, ha, hv⟩ | ⟨hst, hat⟩
  · obtain ⟨cs, e0, c1, _⟩ := h.row ha
    rw [cell_eq c1] at hv
    have hlt : B.off + q.off < cs.size := (Array.getElem?_eq_some_iff.1 hv).1
    refine h.setC hs hk (poi_noBad S) rfl ha (v := v) (w' := w) ⟨fun _ _ => rfl, cs, e0, c1, hlt, ?_⟩ (Nat.le_refl _) hi hm hn hz hd trivial
    rw [c1]
    simp only [Option.some.injEq, Obj.cells.injEq, and_true]
    have : cs[B.off + q.off] = v := by simpa [Array.getElem?_eq_getElem hlt] using hv
    subst this
    simp only [Array.setIfInBounds, hlt, dif_pos, Array.set_getElem_self]
  · refine h.setCore hs hk (poi_noBad S) rfl (Nat.le_refl _) hn hz hd trivial (fun e e' h1 h2 => ?_) (fun d e0 hl _ => h.ent d e0 hl)
    have hent := h.ent _ _ h1
    rw [hst] at h2
    rcases hat with ⟨cs, vs, k1, k2, k3⟩ | ⟨u, k1, k2, k3, k4⟩ | ⟨t0, k1⟩
    · rw [h1] at k1; simp at k1; subst k1
      simp only [Ent.set, setRowA] at h2
      split at h2
      · rename_i cs' hs'
        split at hs'
        · simp at hs' h2; subst hs' h2
          obtain ⟨⟨vs', e1, e2⟩, e3⟩ := hent
          rw [k2] at e1; simp at e1; subst e1
          refine ⟨⟨vs, k2, IsL_setv e2 k3 hi⟩, memL_iff.2 fun x hx => ?_⟩
          rcases List.mem_or_eq_of_mem_set hx with hx | rfl
          · exact memL_iff.1 e3 x hx
          · exact hm
        · simp at hs'
      · simp at h2
    · rw [h1] at k1; simp at k1; subst k1
      have : e' = .tmp (.tr t) := by
        cases u with
        | agg cs => exact absurd rfl (k2 cs)
        | _ => simp [Ent.set, setRowA, k3] at h2; exact h2.symm
      subst this
      exact ⟨by rw [k4]; exact hi, hm⟩
    · rw [h1] at k1; simp at k1; subst k1
      have : e' = .vir t := by
        simp only [Ent.set, setRowA] at h2
        split at h2
        · rename_i t2 hs'
          split at hs'
          · rename_i hlt
            have ho : q.off = 0 := by simpa using hlt
            simp [ho] at hs'
            simp at h2; subst hs' h2; rfl
          · simp at hs'
        · simp at h2
      subst this
      exact hm

/-! ### Slices to be written into -/
structure VI where
  q : Place
  t : Tr Hd
  v : Value
structure GaveV (Z : Zone) (S S' : St Hd) (a : Act) (w : World) (V : List Place) (T : List VI) : Prop where
  ok : ∀ i ∈ T, memT w Z true i.t ∧ (∃ g wd rows, i.t = .sl .own g wd rows) ∧ IsT i.t i.v
  inn : ∀ i ∈ T, ∀ b ∈ ownT i.t, b ∈ ownS S ∧ b ∉ ownS S'
  nd : (T.flatMap fun i => ownT i.t).Nodup
  at_ : ∀ i ∈ T, At a w S' i.q i.v
  keep : ∀ q ∈ V, ∀ v, At a w S q v → At a w S' q v
  root : ∀ i ∈ T, ∀ r g cs, cs ≠ [] → look S r = some (.box g (undefsH cs)) → i.q.root ≠ r
  vir : ∀ i ∈ T, ∀ t, look S i.q.root = some (.vir t) → i.q.st = [] → hdT i.t = hdT t
  bx : ∀ r g cs, look S r = some (.box g (undefsH cs)) → cs ≠ [] → ∀ i ∈ T, ∀ b ∈ ownT i.t, b ∉ blk g
  stay : Stay S S'
  less : Less S S'
  kind : SameK S S'
theorem GaveV.nil {V : List Place} : GaveV Z S S a w V [] :=
  ⟨by simp, by simp, by simp, by simp, fun _ _ _ h => h, by simp, by simp, by simp, .refl S, .refl S, .refl S⟩
theorem GaveV.append {S1 S2 : St Hd} {V : List Place} {T T2 : List VI} (h : GaveV Z S S1 a w V T) (h' : GaveV Z S1 S2 a w (T.map (·.q) ++ V) T2) : GaveV Z S S2 a w V (T ++ T2) where
  ok i hi := (List.mem_append.1 hi).elim (h.ok i) (h'.ok i)
  inn i hi b hb := by
    rcases List.mem_append.1 hi with hi | hi
    · exact ⟨(h.inn i hi b hb).1, fun hc => (h.inn i hi b hb).2 (h'.less.own b hc)⟩
    · exact ⟨h.less.own b (h'.inn i hi b hb).1, (h'.inn i hi b hb).2⟩
  nd := by
    rw [List.flatMap_append]
    refine List.nodup_append.2 ⟨h.nd, h'.nd, fun x hx y hy hxy => ?_⟩
    subst hxy
    obtain ⟨i, hi, hb⟩ := List.mem_flatMap.1 hx
    obtain ⟨j, hj, hb'⟩ := List.mem_flatMap.1 hy
    exact (h.inn i hi x hb).2 (h'.inn j hj x hb').1
  at_ i hi := by
    rcases List.mem_append.1 hi with hi | hi
    · exact h'.keep i.q (List.mem_append.2 (.inl (List.mem_map.2 ⟨i, hi, rfl⟩))) _ (h.at_ i hi)
    · exact h'.at_ i hi
  keep q hq v hv := h'.keep q (List.mem_append.2 (.inr hq)) v (h.keep q hq v hv)
  root i hi r g cs hn hl := by
    rcases List.mem_append.1 hi with hi | hi
    · exact h.root i hi r g cs hn hl
    · exact h'.root i hi r g cs hn (h.stay r g cs hn hl)
  vir i hi t hl hst := by
    rcases List.mem_append.1 hi with hi | hi
    · exact h.vir i hi t hl hst
    · have hk := h.kind i.q.root
      rw [hl] at hk
      obtain ⟨t1, h1⟩ := kind_vir hk
      obtain ⟨t0, k1, k2⟩ := h.less.vir _ _ h1
      rw [hl] at k1; simp at k1; subst k1
      have k3 := h'.vir i hi t1 h1 hst
      obtain ⟨g, wd, rows, ht⟩ := (h'.ok i hi).2.1
      rcases k2 with k2 | k2
      · rw [k2, ht] at k3; simp [hdT] at k3
      · rw [k3, k2]
  bx r g cs hl hn i hi := by
    rcases List.mem_append.1 hi with hi | hi
    · exact h.bx r g cs hl hn i hi
    · exact h'.bx r g cs (h.stay r g cs hn hl) hn i hi
  stay := h.stay.trans h'.stay
  less := h.less.trans h'.less
  kind := h.kind.trans h'.kind
/-- One slice is handed on. -/
theorem gaveV_one (hG : Good Z S a w) {q : Place} {V : List Place} {g : Hd} {wd : Nat} {rows : List (List (Tr Hd))} (hc : getC S q = some (.tr (.sl .own g wd rows))) (hap : (V.all fun q' => !thru q q') = true) {U : US} (h : take (erS S) q = some U) :
    ∃ S' v, erS S' = U ∧ Good Z S' a w ∧ GaveV Z S S' a w V [⟨q, .sl .own g wd rows, v⟩] ∧ ∀ c, RefW S c → RefW S' c := by
  obtain ⟨v, hv1, hv2⟩ := at_ex hG hc
  obtain ⟨S', k1, k2, k3, k4, k5, k6, k7, k8, _, k9⟩ := take_ok2 hG h hc
  have hkind : SameK S S' := (sameK_poi _ _).trans (sameK_setC k9)
  have hself : thru q q = false := by
    simp only [thru, Bool.and_eq_false_iff]
    right
    cases hh : (q.chain ++ [q.off]).isPrefixOf q.chain with
    | false => rfl
    | true =>
      have := (List.isPrefixOf_iff_prefix.1 hh).length_le
      simp at this
      omega
  have hkeep : ∀ q', thru q q' = false → ∀ v, At a w S q' v → At a w S' q' v := fun q' hq v hv =>
    hv.same hkind (fun B row hr => k7.ptr q' (by simp [badAt, hq]) B row hr)
  refine ⟨S', v, k1, k2, ⟨?_, ?_, ?_, ?_, ?_, ?_, ?_, ?_, ?_, k3, hkind⟩, ?_⟩
  · intro i hi; simp at hi; subst hi; exact ⟨k6, ⟨_, _, _, rfl⟩, hv2⟩
  · intro i hi; simp at hi; subst hi; exact k5
  · simpa using k4
  · intro i hi; simp at hi; subst hi; exact hkeep q hself v hv1
  · intro q' hq' v' hv'
    exact hkeep q' (by simpa using List.all_eq_true.1 hap q' hq') v' hv'
  · intro i hi r g' cs hn hl
    simp at hi; subst hi
    rintro rfl
    exact noOwn_getC hl (undefs_no cs) rfl hc
  · intro i hi t hl hst
    simp at hi; subst hi
    have hst' : q.st = [] := hst
    have hl' : look S q.root = some (.vir t) := hl
    simp only [getC, rowOf, hl', hst', Ent.cells, stepRow] at hc
    cases ho : q.off with
    | zero => simp [ho] at hc; rw [hc]
    | succ n => simp [ho] at hc
  · intro r g' cs hl hn i hi b hb
    simp at hi; subst hi
    exact slotC_not_blk hG (getC_slotC hc (by simpa [ownA] using hb)) hl
  · intro r g' cs hn hl
    obtain ⟨e, e', h1, h2, rfl⟩ := setC_look k9
    have hne : r ≠ q.root := by
      rintro rfl
      exact noOwn_getC hl (undefs_no cs) rfl hc
    rw [look_put, if_neg hne, look_poi, hl]
    simp only [Option.map_some, Ent.poi]
    congr 2
    rw [poiL_map]
    simp only [undefsH, List.map_map]
    rfl
  · rintro c hc1 q2 lo n g2 rfl g0 w0 rows0 hc0 h0 hn
    obtain ⟨rows1, e1, e2⟩ := k8 q2 g0 w0 rows0 hc0
    exact hc1 q2 lo n g2 rfl g0 w0 rows1 e1 h0 (hn.trans e2.symm)
/-- What may be told of the cells of an argument that is written into. -/
structure CellsV (Z : Zone) (w : World) (k : Nat) (T : List VI) (cs' : List (AV Hd)) : Prop where
  mem : ∀ Z' : Zone, (∀ k, Z.s k → Z'.s k) → (∀ k, Z.b k → Z'.b k) → memL w Z' cs'
  own : ownAL cs' = []
  ref : ∀ S0 : St Hd, (∀ m i, T[m]? = some i → look S0 (k + m) = some (.vir i.t)) → refOkL S0 cs'
theorem giveVs_ok : ∀ {cells : List (AV Hd)} {V : List Place} {S : St Hd} {k : Nat} {cs : List UV} {ts : List UT} {qs : List Place} {U : US}, Good Z S a w → giveVs V (erS S) k (erL cells) = some (cs, ts, qs, U) → (∀ c ∈ cells, RefW S c) → memL w Z cells →
    ∃ (cs' : List (AV Hd)) (T : List VI) (S' : St Hd), erL cs' = cs ∧ ts = T.map (fun i => erT i.t) ∧ qs = T.map (·.q) ∧ erS S' = U ∧ Good Z S' a w ∧ GaveV Z S S' a w V T ∧ CellsV Z w k T cs' ∧ (∀ vs, IsL cells vs → IsL cs' vs)
  | [], V, S, k, cs, ts, qs, U, hG, h, _, _ => by
    simp only [erL, giveVs, Option.some.injEq, Prod.mk.injEq] at h
    obtain ⟨rfl, rfl, rfl, rfl⟩ := h
    exact ⟨[], [], S, rfl, rfl, rfl, rfl, hG, .nil, ⟨fun _ _ _ => trivial, rfl, fun _ _ => trivial⟩, fun _ h => h⟩
  | c :: r, V, S, k, cs, ts, qs, U, hG, h, hr, ⟨hm1, hm2⟩ => by
    have hr2 : ∀ c ∈ r, RefW S c := fun c hc => hr c (by simp [hc])
    cases c with
    | tr t =>
      simp only [erL, erA, giveVs] at h
      split at h
      · simp at h
      · rename_i hno
        split at h
        · rename_i cs2 ts2 qs2 U2 hrest
          simp only [Option.some.injEq, Prod.mk.injEq] at h
          obtain ⟨rfl, rfl, rfl, rfl⟩ := h
          obtain ⟨cs', T, S', f1, f2, f3, f4, f5, f6, f7, f8⟩ := giveVs_ok hG hrest hr2 hm2
          subst f1 f2 f4
          have ho : ownT t = [] := by simpa [ownA] using noOwn_of (.tr t) (by simpa [erA] using hno)
          refine ⟨.tr (boT t) :: cs', T, S', by simp [erL, erA, erT_boT], rfl, f3, rfl, f5, f6, ⟨fun Z' hs hb => ⟨memT_boT hs hb true true t hm1 (by simp [ho]), f7.mem Z' hs hb⟩, by simp [ownAL, ownA, ownT_boT, f7.own], fun S0 h0 => ⟨trivial, f7.ref S0 h0⟩⟩, ?_⟩
          rintro vs ⟨v, us, rfl, h1, h2⟩
          exact ⟨v, us, rfl, IsT_boT h1, f8 us h2⟩
        · simp at h
    | ref q lo n cp g =>
      simp only [erL, erA, giveVs, getC_er] at h
      cases hc0 : getC S q with
      | none => simp [hc0] at h
      | some c0 =>
        simp only [hc0, Option.map_some] at h
        split at h
        · rename_i u w0 rowsU hcU
          simp only [Option.some.injEq] at hcU
          obtain ⟨t0, rfl, ht0⟩ := erA_tr hcU
          obtain ⟨g0, rows, rfl, rfl⟩ := erT_sl ht0
          split at h
          case isFalse => simp at h
          rename_i hcond
          obtain ⟨rfl, hn, rfl, hap⟩ := hcond
          rw [erRows_length] at hn
          subst hn
          split at h
          · rename_i U1 ht
            split at h
            · rename_i cs2 ts2 qs2 U2 hrest
              simp only [Option.some.injEq, Prod.mk.injEq] at h
              obtain ⟨rfl, rfl, rfl, rfl⟩ := h
              have hgg : g = g0 := hr _ (by simp) q 0 rows.length g rfl g0 w0 rows hc0 rfl rfl
              subst hgg
              obtain ⟨S1, v1, k1, k2, k3, k4⟩ := gaveV_one hG hc0 hap ht
              subst k1
              obtain ⟨cs', T, S', f1, f2, f3, f4, f5, f6, f7, f8⟩ := giveVs_ok k2 hrest (fun c hc => k4 c (hr2 c hc)) hm2
              subst f1 f2 f4
              refine ⟨.ref ⟨k, [], 0⟩ 0 rows.length false g :: cs', ⟨q, .sl .own g w0 rows, v1⟩ :: T, S', by simp [erL, erA], by simp [erT], by simp [f3], rfl, f5, k3.append f6, ⟨fun Z' hs hb => ⟨trivial, f7.mem Z' hs hb⟩, by simp [ownAL, ownA, f7.own], fun S0 h0 => ⟨?_, f7.ref S0 (fun m i hi => ?_)⟩⟩, ?_⟩
              · have := h0 0 _ rfl
                refine ⟨g, w0, rows, ?_, subOk_self (w := w) (Z := Z) (al := true) (κ := .own) (hG.getMem hc0)⟩
                simp only [Nat.add_zero] at this
                simp [getC, rowOf, this, Ent.cells, stepRow]
              · have := h0 (m + 1) i (by simpa using hi)
                rwa [show k + (m + 1) = k + 1 + m by omega] at this
              · rintro vs ⟨v, us, rfl, h1, h2⟩
                exact ⟨v, us, rfl, h1, f8 us h2⟩
            · simp at h
          · simp at h
        · simp at h
    | _ => simp [erL, erA, giveVs] at h
def cellsH : AV Hd → List (AV Hd)
  | .agg cs => cs
  | v => [v]
theorem cellsH_er (v : AV Hd) : erL (cellsH v) = cellsOf (erA v) := by cases v <;> rfl
theorem passVir_ok {md : Nat → Nat} : ∀ {args : List (Operand × TypeId)} {i : Nat} {V : List Place} {S : St Hd} {k : Nat} {es : List (Option UE)} {ts : List UT} {qs : List Place} {U : US}, Good Z S a w → passVir P md i V (erS S) k args = some (es, ts, qs, U) →
    ∃ (E : List (Option (Ent Hd))) (T : List VI) (S' : St Hd), E.map erO = es ∧ ts = T.map (fun i => erT i.t) ∧ qs = T.map (·.q) ∧ erS S' = U ∧ Good Z S' a w ∧ GaveV Z S S' a w V T ∧
      (∀ (j : Nat) e, E[j]? = some (some e) → ∃ v xt, args[j]? = some xt ∧ e = .tmp v ∧ IsA v (a.eval xt.1) ∧ ownA v = [] ∧ (∀ Z' : Zone, (∀ k, Z.s k → Z'.s k) → (∀ k, Z.b k → Z'.b k) → memA w Z' v) ∧
        (∀ S0 : St Hd, (∀ m i, T[m]? = some i → look S0 (k + m) = some (.vir i.t)) → refOk S0 v))
  | [], i, V, S, k, es, ts, qs, U, hG, h => by
    simp only [passVir, Option.some.injEq, Prod.mk.injEq] at h
    obtain ⟨rfl, rfl, rfl, rfl⟩ := h
    exact ⟨[], [], S, rfl, rfl, rfl, rfl, hG, .nil, by simp⟩
  | (x, t) :: r, i, V, S, k, es, ts, qs, U, hG, h => by
    simp only [passVir] at h
    split at h
    · split at h
      · rename_i v hev
        split at h
        · rename_i cs ts1 qs1 U1 hg
          split at h
          · rename_i es2 ts2 qs2 U2 hrest
            obtain ⟨v', h1, h2, h3, h4, h5, h6⟩ := ev_ok hG hev
            subst h1
            have hb : ∃ b', cellsAt x (erA v') = erL (cellsH b') ∧ IsA b' (a.eval x) ∧ memA w Z b' ∧ refOk S b' ∧ ((∃ cs, erA v' = .agg cs) ↔ ∃ cs, b' = .agg cs) := by
              cases x with
              | tmp d =>
                obtain ⟨e, hl, he⟩ := h6 d rfl
                obtain ⟨q1, q2, q3⟩ := bor_ok hG (d := d) (v := v') ⟨e, hl, he⟩ h2 h3 h4
                refine ⟨bor d v', by rw [cellsH_er, bor_er]; rfl, q1, q2, q3, ?_⟩
                cases v' with
                | tr t => cases t with
                  | sl κ g w rows => cases κ <;> simp [erA, bor, asRef]
                  | _ => simp [erA, bor, asRef]
                | _ => simp [erA, bor, asRef]
              | const c => exact ⟨v', by rw [cellsH_er]; rfl, h2, h3, h4, by cases v' <;> simp [erA]⟩
              | func f => exact ⟨v', by rw [cellsH_er]; rfl, h2, h3, h4, by cases v' <;> simp [erA]⟩
              | global g => exact ⟨v', by rw [cellsH_er]; rfl, h2, h3, h4, by cases v' <;> simp [erA]⟩
            obtain ⟨b', b1, b2, b3, b4, b5⟩ := hb
            rw [b1] at hg
            have hcells : memL w Z (cellsH b') ∧ ∀ c ∈ cellsH b', RefW S c := by
              by_cases hA : ∃ cs, b' = .agg cs
              · obtain ⟨cs0, rfl⟩ := hA
                exact ⟨b3, fun c hc => RefW_of (refOkL_iff.1 b4 c hc)⟩
              · have : cellsH b' = [b'] := by
                  cases b' with
                  | agg cs0 => exact absurd ⟨cs0, rfl⟩ hA
                  | _ => rfl
                rw [this]
                exact ⟨⟨b3, trivial⟩, fun c hc => by simp at hc; subst hc; exact RefW_of b4⟩
            obtain ⟨cs', T, S1, f1, f2, f3, f4, f5, f6, f7, f8⟩ := giveVs_ok hG hg hcells.2 hcells.1
            subst f1 f2 f3 f4
            rw [List.length_map] at hrest
            obtain ⟨E, T2, S2, g1, g2, g3, g4, g5, g6, g7⟩ := passVir_ok f5 hrest
            subst g1 g2 g3 g4
            have fin : ∀ v : AV Hd, (v = .agg cs' ∨ ∃ c, cs' = [c] ∧ v = c) → IsA v (a.eval x) → ∃ (E' : List (Option (Ent Hd))) (T' : List VI) (S' : St Hd), E'.map erO = some (.tmp (erA v)) :: E.map erO ∧ (T.map (fun i => erT i.t) ++ T2.map (fun i => erT i.t)) = T'.map (fun i => erT i.t) ∧ (T.map (·.q) ++ T2.map (·.q)) = T'.map (·.q) ∧ erS S' = erS S2 ∧ Good Z S' a w ∧ GaveV Z S S' a w V T' ∧
                (∀ (j : Nat) e, E'[j]? = some (some e) → ∃ v xt, ((x, t) :: r)[j]? = some xt ∧ e = .tmp v ∧ IsA v (a.eval xt.1) ∧ ownA v = [] ∧ (∀ Z' : Zone, (∀ k, Z.s k → Z'.s k) → (∀ k, Z.b k → Z'.b k) → memA w Z' v) ∧
                  (∀ S0 : St Hd, (∀ m i, T'[m]? = some i → look S0 (k + m) = some (.vir i.t)) → refOk S0 v)) := by
              intro v hv hi
              refine ⟨some (.tmp v) :: E, T ++ T2, S2, rfl, by simp, by simp, rfl, g5, f6.append g6, fun j e he => ?_⟩
              cases j with
              | zero =>
                simp at he; subst he
                refine ⟨v, (x, t), rfl, rfl, hi, ?_, fun Z' hs hb => ?_, fun S0 h0 => ?_⟩
                · rcases hv with rfl | ⟨c, hc, rfl⟩
                  · exact f7.own
                  · have := f7.own; rw [hc] at this; simpa [ownAL] using this
                · have := f7.mem Z' hs hb
                  rcases hv with rfl | ⟨c, hc, rfl⟩
                  · exact this
                  · rw [hc] at this; exact this.1
                · have := f7.ref S0 (fun m i hm => h0 m i (by
                    rw [List.getElem?_append_left (List.getElem?_eq_some_iff.1 hm).1]; exact hm))
                  rcases hv with rfl | ⟨c, hc, rfl⟩
                  · exact this
                  · rw [hc] at this; exact this.1
              | succ j =>
                obtain ⟨v2, xt, q1, q2, q3, q4, q5, q6⟩ := g7 j e (by simpa using he)
                refine ⟨v2, xt, by simpa using q1, q2, q3, q4, q5, fun S0 h0 => q6 S0 fun m i hm => ?_⟩
                have := h0 (T.length + m) i (by rw [List.getElem?_append_right (by omega)]; simpa using hm)
                rwa [← Nat.add_assoc] at this
            split at h
            · rename_i acs heq
              simp only [Option.some.injEq, Prod.mk.injEq] at h
              obtain ⟨rfl, rfl, rfl, rfl⟩ := h
              obtain ⟨cs0, rfl⟩ := b5.1 ⟨acs, heq⟩
              obtain ⟨us, u1, u2⟩ := b2
              have := fin (.agg cs') (.inl rfl) ⟨us, u1, f8 _ u2⟩
              simpa [erA] using this
            · rename_i hno
              split at h
              · rename_i c heq
                simp only [Option.some.injEq, Prod.mk.injEq] at h
                obtain ⟨rfl, rfl, rfl, rfl⟩ := h
                have hA : ¬ ∃ cs, b' = .agg cs := fun hA => by obtain ⟨cs, hc⟩ := b5.2 hA; exact hno cs hc
                have hcs : cellsH b' = [b'] := by
                  cases b' with
                  | agg cs0 => exact absurd ⟨cs0, rfl⟩ hA
                  | _ => rfl
                have hlen : cs'.length = 1 := by rw [← erL_length, heq]; rfl
                obtain ⟨c', rfl⟩ := List.length_eq_one_iff.1 hlen
                simp only [erL, List.cons.injEq, and_true] at heq
                have hi := f8 [a.eval x] (by rw [hcs]; exact ⟨_, [], rfl, b2, rfl⟩)
                obtain ⟨u, us, hu1, hu2, _⟩ := hi
                simp at hu1
                obtain ⟨rfl, _⟩ := hu1
                have := fin c' (.inr ⟨c', rfl, rfl⟩) hu2
                rw [heq] at this
                exact this
              · simp at h
          · simp at h
        · simp at h
      · simp at h
    · split at h
      · rename_i es2 ts2 qs2 U2 hrest
        simp only [Option.some.injEq, Prod.mk.injEq] at h
        obtain ⟨rfl, rfl, rfl, rfl⟩ := h
        obtain ⟨E, T2, S2, g1, g2, g3, g4, g5, g6, g7⟩ := passVir_ok hG hrest
        refine ⟨none :: E, T2, S2, by simp [g1, erO], g2, g3, g4, g5, g6, fun j e he => ?_⟩
        cases j with
        | zero => simp at he
        | succ j =>
          obtain ⟨v2, xt, q1, q2⟩ := g7 j e (by simpa using he)
          exact ⟨v2, xt, by simpa using q1, q2⟩
      · simp at h
end Go.HT
end
section
namespace Go.HT
open Go
variable {P : Program} {Z Z' : Zone} {S : St Hd} {a : Act} {w : World}

theorem passTake_md {md : Nat → Nat} : ∀ {args : List (Operand × TypeId)} {i : Nat} {S : US} {es : List (Option UE)} {U : US}, passTake P md i S args = some (es, U) → ∀ (j : Nat) e, es[j]? = some (some e) → md (i + j) = 1
  | [], i, S, es, U, h, j, e, he => by
    simp only [passTake, Option.some.injEq, Prod.mk.injEq] at h
    obtain ⟨rfl, rfl⟩ := h
    simp at he
  | (x, t) :: r, i, S, es, U, h, j, e, he => by
    simp only [passTake] at h
    split at h
    · rename_i hm
      split at h
      · split at h
        · rename_i es2 U2 hr
          have ih := passTake_md hr
          have fin : ∀ o : Option UE, es = o :: es2 → md (i + j) = 1 := by
            rintro o rfl
            cases j with
            | zero => exact hm
            | succ j => have := ih j e (by simpa using he); rwa [show i + (j + 1) = i + 1 + j by omega]
          split at h
          · simp at h; exact fin _ h.1.symm
          · split at h
            · simp at h; exact fin _ h.1.symm
            · simp at h
        · simp at h
      · simp at h
    · split at h
      · rename_i es2 U2 hr
        simp at h
        obtain ⟨rfl, rfl⟩ := h
        cases j with
        | zero => simp at he
        | succ j => have := passTake_md hr j e (by simpa using he); rwa [show i + (j + 1) = i + 1 + j by omega]
      · simp at h
theorem passBox_md {md : Nat → Nat} : ∀ {args : List (Operand × TypeId)} {i : Nat} {S : US} {es : List (Option UE)} {bs : List Nat} {U : US}, passBox P md i S args = some (es, bs, U) → ∀ (j : Nat) e, es[j]? = some (some e) → md (i + j) = 3
  | [], i, S, es, bs, U, h, j, e, he => by
    simp only [passBox, Option.some.injEq, Prod.mk.injEq] at h
    obtain ⟨rfl, _⟩ := h
    simp at he
  | (x, t) :: r, i, S, es, bs, U, h, j, e, he => by
    simp only [passBox] at h
    split at h
    · rename_i hm
      split at h
      · split at h
        · split at h
          · split at h
            · rename_i es2 bs2 U2 hr
              simp at h
              obtain ⟨rfl, _⟩ := h
              cases j with
              | zero => exact hm
              | succ j => have := passBox_md hr j e (by simpa using he); rwa [show i + (j + 1) = i + 1 + j by omega]
            · simp at h
          · simp at h
        · simp at h
      · simp at h
    · split at h
      · rename_i es2 bs2 U2 hr
        simp at h
        obtain ⟨rfl, _⟩ := h
        cases j with
        | zero => simp at he
        | succ j => have := passBox_md hr j e (by simpa using he); rwa [show i + (j + 1) = i + 1 + j by omega]
      · simp at h

/-- An entry that a callee is to be handed for an operand. -/
def EO (a : Act) (w : World) (Z : Zone) (x : Operand) : Ent Hd → Prop
  | .tmp v => IsA v (a.eval x) ∧ memA w Z v
  | .box g cs => a.eval x = .pointer g.a ∧ ∃ A, g.a = some A ∧ A.spot = none ∧ boxOk w Z A cs
  | .vir _ => False
def isBox {G : Type} : Ent G → Bool
  | .box _ _ => true
  | _ => false
def mix : List (Option (Ent Hd)) → List (Option (Ent Hd)) → List (Option (Ent Hd)) → List Nat
  | x :: A, y :: B, z :: C => (ownO x ++ (ownO y ++ ownO z)) ++ mix A B C
  | _, _, _ => []
theorem mix_perm : ∀ {A B C : List (Option (Ent Hd))}, A.length = B.length → B.length = C.length → (mix A B C).Perm (ownOs A ++ (ownOs B ++ ownOs C))
  | [], [], [], _, _ => .refl _
  | x :: A, y :: B, z :: C, h1, h2 => by
    have ih := mix_perm (A := A) (B := B) (C := C) (by simpa using h1) (by simpa using h2)
    simp only [mix, ownOs]
    refine ((List.Perm.refl _).append ih).trans ?_
    generalize ownO x = p; generalize ownO y = q; generalize ownO z = r
    generalize ownOs A = A'; generalize ownOs B = B'; generalize ownOs C = C'
    have h : ∀ b : Nat, List.count b ((p ++ (q ++ r)) ++ (A' ++ (B' ++ C'))) = List.count b ((p ++ A') ++ ((q ++ B') ++ (r ++ C'))) := fun b => by
      simp only [List.count_append]; omega
    exact List.perm_iff_count.2 h
  | [], _ :: _, _, h1, _ => by simp at h1
  | _ :: _, [], _, h1, _ => by simp at h1
  | _, [], _ :: _, _, h2 => by simp at h2
  | _, _ :: _, [], _, h2 => by simp at h2
theorem slot_slotC {d : Nat} {v : AV Hd} {b : Nat} (hl : look S d = some (.tmp v)) (hb : b ∈ ownA v) : b ∈ slotC S d := by
  simp only [slotC, hl]
  cases v with
  | agg cs => exact hb
  | _ => simpa [Ent.cells, ownAL] using hb
theorem finish_ok (hG : Good Z S a w) (hs : ∀ k, Z.s k → Z'.s k) (hb : ∀ k, Z.b k → Z'.b k) (hown : ∀ r b, b ∈ slotC S r → Z'.b b) : ∀ {args : List (Operand × TypeId)} {A B C : List (Option (Ent Hd))} {es : List UE}, finish P (erS S) args (A.map erO) (B.map erO) (C.map erO) = some es →
    (∀ (j : Nat) e xt, A[j]? = some (some e) → args[j]? = some xt → EO a w Z' xt.1 e ∧ isBox e = false) → (∀ (j : Nat) e xt, B[j]? = some (some e) → args[j]? = some xt → EO a w Z' xt.1 e) → (∀ (j : Nat) e xt, C[j]? = some (some e) → args[j]? = some xt → EO a w Z' xt.1 e ∧ isBox e = false) →
    (∀ (j : Nat) e e', A[j]? = some (some e) → B[j]? = some (some e') → False) →
    ∃ E : List (Ent Hd), E.map erE = es ∧ (∀ (j : Nat) e xt, E[j]? = some e → args[j]? = some xt → EO a w Z' xt.1 e) ∧ E.length = args.length ∧ (E.filter isBox = (B.filterMap id).filter isBox) ∧
      (∀ e ∈ E, some e ∈ A ∨ some e ∈ B ∨ some e ∈ C ∨ ∀ S, refOkE S e) ∧ (E.flatMap ownE).Sublist (mix A B C) ∧ A.length = B.length ∧ B.length = C.length
  | [], [], [], [], es, h, _, _, _, _ => by
    simp only [List.map_nil, finish, Option.some.injEq] at h
    subst h
    exact ⟨[], rfl, by simp, rfl, rfl, by simp, by simp [mix], rfl, rfl⟩
  | (x, t) :: r, oa :: A, ob :: B, oc :: C, es, h, hA, hB, hC, hAB => by
    simp only [List.map_cons, finish] at h
    split at h
    · rename_i es2 hr
      obtain ⟨E, e1, e2, e3, e4, e5, e6, e7, e8⟩ := finish_ok hG hs hb hown hr (fun j e xt h1 h2 => hA (j + 1) e xt (by simpa using h1) (by simpa using h2)) (fun j e xt h1 h2 => hB (j + 1) e xt (by simpa using h1) (by simpa using h2))
        (fun j e xt h1 h2 => hC (j + 1) e xt (by simpa using h1) (by simpa using h2)) (fun j e e' h1 h2 => hAB (j + 1) e e' (by simpa using h1) (by simpa using h2))
      subst e1
      have fin : ∀ e : Ent Hd, EO a w Z' x e → [e].filter isBox = (ob.toList).filter isBox → (oa = some e ∨ ob = some e ∨ oc = some e ∨ (ownE e = [] ∧ ∀ S, refOkE S e)) →
          ∃ E' : List (Ent Hd), E'.map erE = erE e :: E.map erE ∧ (∀ (j : Nat) e xt, E'[j]? = some e → ((x, t) :: r)[j]? = some xt → EO a w Z' xt.1 e) ∧ E'.length = ((x, t) :: r).length ∧ (E'.filter isBox = ((ob :: B).filterMap id).filter isBox) ∧
          (∀ e ∈ E', some e ∈ oa :: A ∨ some e ∈ ob :: B ∨ some e ∈ oc :: C ∨ ∀ S, refOkE S e) ∧ (E'.flatMap ownE).Sublist (mix (oa :: A) (ob :: B) (oc :: C)) ∧ (oa :: A).length = (ob :: B).length ∧ (ob :: B).length = (oc :: C).length := by
        intro e k1 k2 k3
        refine ⟨e :: E, rfl, fun j e' xt h1 h2 => ?_, by simp [e3], ?_, fun e' he' => ?_, ?_, by simp [e7], by simp [e8]⟩
        · cases j with
          | zero => simp at h1 h2; subst h1 h2; exact k1
          | succ j => exact e2 j e' xt (by simpa using h1) (by simpa using h2)
        · have : ((ob :: B).filterMap id).filter isBox = (ob.toList).filter isBox ++ (B.filterMap id).filter isBox := by
            cases ob with
            | none => simp
            | some e0 =>
              simp only [List.filterMap_cons, id, Option.toList, List.filter_cons, List.filter_nil]
              split <;> simp
          rw [this, ← k2, ← e4]
          simp [List.filter_cons]
          split <;> simp
        · rcases List.mem_cons.1 he' with rfl | he'
          · rcases k3 with rfl | rfl | rfl | k3
            · simp
            · simp
            · simp
            · exact .inr (.inr (.inr k3.2))
          · rcases e5 e' he' with h | h | h | h
            · exact .inl (by simp [h])
            · exact .inr (.inl (by simp [h]))
            · exact .inr (.inr (.inl (by simp [h])))
            · exact .inr (.inr (.inr h))
        · simp only [List.flatMap_cons, mix]
          refine List.Sublist.append ?_ e6
          rcases k3 with rfl | rfl | rfl | ⟨k3, _⟩
          · exact List.sublist_append_left _ _
          · exact (List.sublist_append_left _ _).trans (List.sublist_append_right _ _)
          · exact (List.sublist_append_right _ _).trans (List.sublist_append_right _ _)
          · rw [k3]; exact List.nil_sublist _
      cases oa with
      | some e =>
        simp only [erO, Option.map_some, Option.some.injEq] at h
        subst h
        obtain ⟨k1, k2⟩ := hA 0 e (x, t) rfl rfl
        have hob : ob = none := by
          cases ob with
          | none => rfl
          | some e' => exact (hAB 0 e e' rfl rfl).elim
        subst hob
        exact fin e k1 (by simp [k2]) (.inl rfl)
      | none =>
        cases ob with
        | some e =>
          simp only [erO, Option.map_none, Option.map_some, Option.some.injEq] at h
          subst h
          exact fin e (hB 0 e (x, t) rfl rfl) rfl (.inr (.inl rfl))
        | none =>
          cases oc with
          | some e =>
            simp only [erO, Option.map_none, Option.map_some, Option.some.injEq] at h
            subst h
            obtain ⟨k1, k2⟩ := hC 0 e (x, t) rfl rfl
            exact fin e k1 (by simp [k2]) (.inr (.inr (.inl rfl)))
          | none =>
            simp only [erO, Option.map_none] at h
            split at h
            · rename_i v hev
              split at h
              · rename_i v2 hl
                simp only [Option.some.injEq] at h
                subst h
                obtain ⟨v', h1, h2, h3, h4, h5, h6⟩ := ev_ok hG hev
                subst h1
                obtain ⟨c', c1, c2, c3, c4, c5⟩ := lendV_ok hG hs hb hl h3 h4 (fun b hb' => by
                  rcases hb' with hb' | ⟨r0, hr0, hb'⟩
                  · rcases h5 with h5 | ⟨d, rfl, hd⟩
                    · rw [h5] at hb'; simp at hb'
                    · exact hown d b (slot_slotC hd hb')
                  · exact hown r0 b hb')
                subst c1
                exact fin (.tmp c') ⟨c4 _ h2, c2⟩ (by simp [isBox]) (.inr (.inr (.inr ⟨by simp [ownE, c3], fun S => c5 S⟩)))
              · simp at h
            · simp at h
    · simp at h
  | [], _ :: _, _, _, es, h, _, _, _, _ => by simp [finish] at h
  | [], [], _ :: _, _, es, h, _, _, _, _ => by simp [finish] at h
  | [], [], [], _ :: _, es, h, _, _, _, _ => by simp [finish] at h
  | _ :: _, [], _, _, es, h, _, _, _, _ => by simp [finish] at h
  | _ :: _, _ :: _, [], _, es, h, _, _, _, _ => by simp [finish] at h
  | _ :: _, _ :: _, _ :: _, [], es, h, _, _, _, _ => by simp [finish] at h

/-! ### Where a callee begins -/
def initH : Nat → List (Ent Hd) → St Hd
  | _, [] => []
  | i, e :: r => (i, e) :: initH (i + 1) r
def initVH : Nat → List (Tr Hd) → St Hd
  | _, [] => []
  | i, e :: r => (i, .vir e) :: initVH (i + 1) r
theorem initH_er : ∀ (i : Nat) (E : List (Ent Hd)), erS (initH i E) = init i (E.map erE)
  | _, [] => rfl
  | i, e :: r => by simp only [initH, List.map_cons, init]; rw [← initH_er (i + 1) r]; rfl
theorem initVH_er : ∀ (i : Nat) (T : List (Tr Hd)), erS (initVH i T) = initV i (T.map erT)
  | _, [] => rfl
  | i, e :: r => by simp only [initVH, List.map_cons, initV]; rw [← initVH_er (i + 1) r]; rfl
theorem look_append {G : Type} : ∀ (l m : St G) (d : Nat), look (l ++ m) d = (look l d).or (look m d)
  | [], m, d => by simp [look]
  | (k, e) :: l, m, d => by
    simp only [List.cons_append, look]
    split
    · rfl
    · exact look_append l m d
theorem look_initH : ∀ (i : Nat) (E : List (Ent Hd)) (d : Nat), look (initH i E) d = if i ≤ d then E[d - i]? else none
  | i, [], d => by simp [initH, look]
  | i, e :: r, d => by
    simp only [initH, look]
    by_cases h : i = d
    · subst h; simp
    · rw [if_neg h, look_initH (i + 1) r d]
      by_cases h2 : i ≤ d
      · rw [if_pos h2, if_pos (by omega), show d - i = (d - (i + 1)) + 1 by omega]; simp
      · rw [if_neg h2, if_neg (by omega)]
theorem look_initVH : ∀ (i : Nat) (T : List (Tr Hd)) (d : Nat), look (initVH i T) d = if i ≤ d then (T[d - i]?).map .vir else none
  | i, [], d => by simp [initVH, look]
  | i, e :: r, d => by
    simp only [initVH, look]
    by_cases h : i = d
    · subst h; simp
    · rw [if_neg h, look_initVH (i + 1) r d]
      by_cases h2 : i ≤ d
      · rw [if_pos h2, if_pos (by omega), show d - i = (d - (i + 1)) + 1 by omega]; simp
      · rw [if_neg h2, if_neg (by omega)]
theorem keys_initH : ∀ (i : Nat) (E : List (Ent Hd)) (x : Nat × Ent Hd), x ∈ initH i E → i ≤ x.1 ∧ x.1 < i + E.length
  | _, [], x, h => by simp [initH] at h
  | i, e :: r, x, h => by
    simp only [initH, List.mem_cons] at h
    rcases h with rfl | h
    · simp
    · have := keys_initH (i + 1) r x h; simp; omega
theorem keys_initVH : ∀ (i : Nat) (E : List (Tr Hd)) (x : Nat × Ent Hd), x ∈ initVH i E → i ≤ x.1
  | _, [], x, h => by simp [initVH] at h
  | i, e :: r, x, h => by
    simp only [initVH, List.mem_cons] at h
    rcases h with rfl | h
    · simp
    · have := keys_initVH (i + 1) r x h; omega
theorem sorted_initH : ∀ (i : Nat) (E : List (Ent Hd)), (initH i E).Pairwise fun x y => x.1 < y.1
  | _, [] => .nil
  | i, e :: r => List.pairwise_cons.2 ⟨fun y hy => by have := keys_initH (i + 1) r y hy; simp only; omega, sorted_initH (i + 1) r⟩
theorem sorted_initVH : ∀ (i : Nat) (E : List (Tr Hd)), (initVH i E).Pairwise fun x y => x.1 < y.1
  | _, [] => .nil
  | i, e :: r => List.pairwise_cons.2 ⟨fun y hy => by have := keys_initVH (i + 1) r y hy; simp only; omega, sorted_initVH (i + 1) r⟩
theorem ownS_append : ∀ (l m : St Hd), ownS (l ++ m) = ownS l ++ ownS m
  | [], _ => rfl
  | (_, e) :: l, m => by simp [ownS, ownS_append l m]
theorem ownS_initH : ∀ (i : Nat) (E : List (Ent Hd)), ownS (initH i E) = E.flatMap ownE
  | _, [] => rfl
  | i, e :: r => by simp [initH, ownS, ownS_initH (i + 1) r]
theorem ownS_initVH : ∀ (i : Nat) (T : List (Tr Hd)), ownS (initVH i T) = T.flatMap ownT
  | _, [] => rfl
  | i, e :: r => by simp [initVH, ownS, ownE, ownS_initVH (i + 1) r]
def start (E : List (Ent Hd)) (T : List (Tr Hd)) : St Hd := initH 0 E ++ initVH 1000 T
theorem start_er (E : List (Ent Hd)) (T : List (Tr Hd)) : erS (start E T) = init 0 (E.map erE) ++ initV 1000 (T.map erT) := by
  rw [← initH_er, ← initVH_er]; simp [start, erS]
theorem look_start {E : List (Ent Hd)} {T : List (Tr Hd)} (hE : E.length < 999) (d : Nat) : look (start E T) d = if d < 1000 then E[d]? else (T[d - 1000]?).map .vir := by
  rw [start, look_append, look_initH, look_initVH]
  by_cases h : d < 1000
  · rw [if_pos h, if_pos (by omega), if_neg (by omega)]; simp
  · rw [if_neg h, if_pos (by omega), if_pos (by omega)]
    have : E[d - 0]? = none := by rw [List.getElem?_eq_none]; omega
    rw [this]; simp
theorem good_start {E : List (Ent Hd)} {T : List (Tr Hd)} {vals : Array Value} (hE : E.length < 999) (he : ∀ (d : Nat) e, E[d]? = some e → entOk ⟨vals, []⟩ w Z' d e) (ht : ∀ t ∈ T, memT w Z' true t) (hn : (E.flatMap ownE ++ T.flatMap ownT).Nodup)
    (hz : ∀ b ∈ E.flatMap ownE ++ T.flatMap ownT, ¬ Z'.b b ∧ b < w.heap.size) (hzb : ∀ b, Z'.b b → b < w.heap.size) (hr : ∀ e ∈ E, refOkE (start E T) e) : Good Z' (start E T) ⟨vals, []⟩ w := by
  have ho : ownS (start E T) = E.flatMap ownE ++ T.flatMap ownT := by rw [start, ownS_append, ownS_initH, ownS_initVH]
  refine ⟨List.pairwise_append.2 ⟨sorted_initH 0 E, sorted_initVH 1000 T, fun x hx y hy => ?_⟩, fun d e hl => ?_, by rw [ho]; exact hn, by rw [ho]; exact hz, hzb, fun d e hl => ?_⟩
  · have h1 := keys_initH 0 E x hx
    have h2 := keys_initVH 1000 T y hy
    omega
  · rw [look_start hE] at hl
    split at hl
    · exact he d e hl
    · cases ht' : T[d - 1000]? with
      | none => simp [ht'] at hl
      | some t => simp [ht'] at hl; subst hl; exact ht t (List.mem_of_getElem? ht')
  · rw [look_start hE] at hl
    split at hl
    · exact hr e (List.mem_of_getElem? hl)
    · cases ht' : T[d - 1000]? with
      | none => simp [ht'] at hl
      | some t => simp [ht'] at hl; subst hl; trivial
end Go.HT
end
section
namespace Go.HT
open Go
variable {P : Program} {Z Z' : Zone} {S : St Hd} {a : Act} {w w' : World}

/-! ### Behind a call -/
/-- What is laid into a state: it may only own this more. -/
structure Laid (S S' : St Hd) (N : List Nat) : Prop where
  own : ∀ b ∈ ownS S', b ∈ ownS S ∨ b ∈ N
  box : ∀ d g cs, look S d = some (.box g cs) → ∃ cs', look S' d = some (.box g cs') ∧ cs'.length = cs.length
  kind : SameK S S'
  addr : ∀ r st B row, rowAddrS S r st = some (B, row) → ∃ row', rowAddrS S' r st = some (B, row')
  vir : ∀ d t', look S' d = some (.vir t') → ∃ t, look S d = some (.vir t)
theorem Laid.refl (S : St Hd) : Laid S S [] := ⟨fun _ h => .inl h, fun _ _ cs h => ⟨cs, h, rfl⟩, .refl S, fun _ _ _ row h => ⟨row, h⟩, fun _ t h => ⟨t, h⟩⟩
theorem Laid.trans {S S1 S2 : St Hd} {N N' : List Nat} (h : Laid S S1 N) (h' : Laid S1 S2 N') : Laid S S2 (N ++ N') where
  own b hb := by
    rcases h'.own b hb with hb | hb
    · exact (h.own b hb).imp id fun h => List.mem_append.2 (.inl h)
    · exact .inr (List.mem_append.2 (.inr hb))
  box d g cs hl := by
    obtain ⟨c1, l1, e1⟩ := h.box d g cs hl
    obtain ⟨c2, l2, e2⟩ := h'.box d g c1 l1
    exact ⟨c2, l2, e2.trans e1⟩
  kind := h.kind.trans h'.kind
  addr r st B row ha := by
    obtain ⟨r1, h1⟩ := h.addr r st B row ha
    exact h'.addr r st B r1 h1
  vir d t' hl := by
    obtain ⟨t1, l1⟩ := h'.vir d t' hl
    exact h.vir d t1 l1
theorem Laid.mono {S S' : St Hd} {N N' : List Nat} (h : Laid S S' N) (hN : ∀ b ∈ N, b ∈ N') : Laid S S' N' :=
  ⟨fun b hb => (h.own b hb).imp id (hN b), h.box, h.kind, h.addr, h.vir⟩
/-- The world has turned in boxes whose cells are not told of. -/
theorem Good.shells (h : Good Z S a w) {G : List Nat} {L : List BI} (hsz : w.heap.size ≤ w'.heap.size) (hsame : ∀ b, b < w.heap.size → b ∉ G → w'.heap[b]? = w.heap[b]?) (hZ : ∀ b, Z.b b → b ∉ G)
    (hG : ∀ b ∈ ownS S, b ∈ G → ∃ i ∈ L, b ∈ blk i.g) (hL : ∀ i ∈ L, look S i.r = some (.box i.g (undefsH i.cs)))
    (hnew : ∀ i ∈ L, ∀ A, i.g.a = some A → ∃ cells e, w'.heap[A.block]? = some (.cells cells e (0, 0)) ∧ A.off + i.cs.length ≤ cells.size) : Good Z S a w' where
  sorted := h.sorted
  nd := h.nd
  zn b hb := ⟨(h.zn b hb).1, Nat.lt_of_lt_of_le (h.zn b hb).2 hsz⟩
  zb b hb := Nat.lt_of_lt_of_le (h.zb b hb) hsz
  refs := h.refs
  ent d e hl := by
    by_cases hd : ∃ i ∈ L, i.r = d
    · obtain ⟨i, hi, rfl⟩ := hd
      rw [hL i hi] at hl
      simp at hl; subst hl
      obtain ⟨h1, A, h2, h3, h4⟩ := h.ent _ _ (hL i hi)
      obtain ⟨cells, e, k1, k2⟩ := hnew i hi A h2
      refine ⟨h1, A, h2, h3, cells, e, k1, by simpa [undefsH] using k2, fun j c hj => ?_⟩
      obtain ⟨rfl, hlt⟩ := undefs_get hj
      have hlt' : A.off + j < cells.size := by omega
      exact ⟨⟨_, Array.getElem?_eq_getElem hlt', trivial⟩, trivial⟩
    · refine entOk_frame (fun b hb => ?_) rfl (h.ent d e hl)
      rcases hb with hb | hb
      · have hin := look_own hl b hb
        refine hsame b (h.zn b hin).2 fun hg => ?_
        obtain ⟨i, hi, hbi⟩ := hG b hin hg
        exact look_ne h.nd hl (hL i hi) (fun hh => hd ⟨i, hi, hh.symm⟩) b hb (by simp [ownE, hbi])
      · exact hsame b (h.zb b hb) (hZ b hb)
theorem poiN (S : St Hd) : poi noBad S = S := poi_noBad S
/-- The boxes hold what they hold then. -/
theorem backTo_ok : ∀ {L : List BI} {CS : List (List (AV Hd))} {S : St Hd} {K : W → Prop}, Good Z S a w → backTo (erS S) (L.map (·.r)) (CS.map erL) K → (∀ i ∈ L, look S i.r = some (.box i.g (undefsH i.cs))) → (L.map (·.r)).Nodup →
    (∀ (m : Nat) i c, L[m]? = some i → CS[m]? = some c → c.length = i.cs.length ∧ (∀ A, i.g.a = some A → boxOk w Z A c) ∧ ∀ S, refOkL S c) → (CS.flatMap ownAL).Nodup → (∀ b ∈ CS.flatMap ownAL, ¬ Z.b b ∧ b < w.heap.size ∧ b ∉ ownS S) →
    ∃ S', Good Z S' a w ∧ K ⟨erS S'⟩ ∧ Laid S S' (CS.flatMap ownAL) ∧ (∀ r, r ∉ L.map (·.r) → look S' r = look S r)
  | [], [], S, K, hG, h, _, _, _, _, _ => ⟨S, hG, h, .refl S, fun _ _ => rfl⟩
  | i :: L, c :: CS, S, K, hG, h, hL, hr, hc, hn, hz => by
    simp only [List.map_cons, backTo] at h
    obtain ⟨c1, c2, c3⟩ := hc 0 i c rfl rfl
    simp only [List.flatMap_cons] at hn hz
    have hli := hL i (by simp)
    have hk : Keeps S (put (poi noBad S) i.r (.box i.g c)) noBad := by
      rw [poiN]
      refine ⟨fun q _ g0 w0 rows hg => ?_, fun q _ B row ha => ?_⟩
      · have hq : q.root ≠ i.r := fun hq => noOwn_getC hli (undefs_no _) hq hg
        exact ⟨rows, by rw [getC_root (S := S) (by rw [look_put, if_neg hq])]; exact hg, rfl⟩
      · by_cases hq : q.root = i.r
        · rw [hq] at ha
          have hst := noOwn_addr hli (undefs_no _) ha
          rw [hst] at ha
          simp only [rowAddrS, hli, rowAddrE] at ha
          rw [hq, hst]
          simp only [rowAddrS, look_put, if_true, rowAddrE]
          cases hg : i.g.a with
          | none => simp [hg] at ha
          | some A => simp only [hg, rowAddrA, Option.some.injEq, Prod.mk.injEq] at ha ⊢; exact ⟨c, ha.1, rfl⟩
        · exact ⟨row, by rw [rowAddr_root (S := S) (by rw [look_put, if_neg hq])]; exact ha⟩
    have hG1 := hG.reBox hli hk c2 (nodup_append_left hn) (fun b hb => ⟨(hz b (by simp [hb])).1, (hz b (by simp [hb])).2.1⟩) (fun b hb => (hz b (by simp [hb])).2.2) (c3 _)
    rw [poiN] at hG1 hk
    have hl1 : Laid S (put S i.r (.box i.g c)) (ownAL c) := by
      obtain ⟨rest, p1, p2⟩ := put_perm S i.r hG.sorted
      simp only [oldE, hli, ownE, undefs_own, List.append_nil] at p1
      refine ⟨fun b hb => ?_, fun d g cs hl => ?_, fun d => ?_, fun r st B row ha => ?_, fun d t' hl => ?_⟩
      · rcases List.mem_append.1 ((p2 _).mem_iff.1 hb) with hb | hb
        · simp only [ownE, List.mem_append] at hb
          rcases hb with hb | hb
          · exact .inl (p1.mem_iff.2 (by simp [hb]))
          · exact .inr hb
        · exact .inl (p1.mem_iff.2 (by simp [hb]))
      · by_cases hd : d = i.r
        · subst hd
          rw [hli] at hl; simp at hl
          obtain ⟨rfl, rfl⟩ := hl
          exact ⟨c, by rw [look_put, if_pos rfl], by rw [c1]; simp [undefsH]⟩
        · exact ⟨cs, by rw [look_put, if_neg hd]; exact hl, rfl⟩
      · rw [look_put]; split
        · rename_i hd; subst hd; rw [hli]; rfl
        · rfl
      · exact hk.ptr ⟨r, st, 0⟩ rfl B row ha
      · rw [look_put] at hl; split at hl
        · simp at hl
        · exact ⟨t', hl⟩
    have hrr := List.nodup_cons.1 hr
    obtain ⟨S', g1, g2, g3, g4⟩ := backTo_ok (L := L) (CS := CS) (K := K) hG1 (by rw [put_er]; exact h) (fun j hj => by
        have hne : j.r ≠ i.r := fun hh => hrr.1 (List.mem_map.2 ⟨j, hj, hh⟩)
        rw [look_put, if_neg hne]; exact hL j (by simp [hj])) hrr.2 (fun m j c' h1 h2 => hc (m + 1) j c' (by simpa using h1) (by simpa using h2)) (nodup_append_right hn)
      (fun b hb => ⟨(hz b (by simp [hb])).1, (hz b (by simp [hb])).2.1, fun hc => by
        rcases hl1.own b hc with hc | hc
        · exact (hz b (by simp [hb])).2.2 hc
        · exact nodup_apart hn hc hb⟩)
    refine ⟨S', g1, g2, (hl1.trans g3), fun r hr' => ?_⟩
    simp only [List.map_cons, List.mem_cons, not_or] at hr'
    rw [g4 r hr'.2, look_put, if_neg hr'.1]
  | [], _ :: _, S, K, hG, h, _, _, _, _, _ => h.elim
  | _ :: _, [], S, K, hG, h, _, _, _, _, _ => h.elim
/-- A slice that was written into, as it was and as it is. -/
def ReV (i : VI) (t : Tr Hd) : Prop := hdT t = none ∨ hdT t = hdT i.t
theorem vbackTo_ok {S0 : St Hd} : ∀ {T : List VI} {TS : List (Tr Hd)} {S : St Hd} {K : W → Prop}, Good Z S a w → vbackTo (erS S) (T.map (·.q)) (TS.map erT) K → (∀ i ∈ T, At a w S i.q i.v ∧ IsT i.t i.v) →
    (∀ (m : Nat) i t, T[m]? = some i → TS[m]? = some t → ReV i t ∧ memT w Z true t) → (TS.flatMap ownT).Nodup → (∀ b ∈ TS.flatMap ownT, ¬ Z.b b ∧ b < w.heap.size ∧ b ∉ ownS S) →
    VirOk S0 S → (∀ i ∈ T, ∀ t0, look S0 i.q.root = some (.vir t0) → (∃ t, look S i.q.root = some (.vir t)) → i.q.st = [] → hdT i.t = hdT t0) →
    ∃ S', Good Z S' a w ∧ K ⟨erS S'⟩ ∧ Laid S S' (TS.flatMap ownT) ∧ VirOk S0 S'
  | [], [], S, K, hG, h, _, _, _, _, hv, _ => ⟨S, hG, h, .refl S, hv⟩
  | i :: T, t :: TS, S, K, hG, h, hat, hc, hn, hz, hv, hvi => by
    obtain ⟨c1, c2⟩ := hc 0 i t rfl rfl
    simp only [List.flatMap_cons] at hn hz
    obtain ⟨at1, at2⟩ := hat i (by simp)
    cases t with
    | sl κ g wd rows =>
      cases κ with
      | own =>
        simp only [List.map_cons, erT, vbackTo, getC_er] at h
        cases hc0 : getC S i.q with
        | none => simp [hc0] at h
        | some c0 =>
          simp only [hc0, Option.map_some] at h
          split at h
          · rename_i heq
            simp only [Option.some.injEq] at heq
            obtain ⟨t0, rfl, ht0⟩ := erA_tr heq
            have : t0 = .undef := by cases t0 <;> simp [erT] at ht0; rfl
            subst this
            have hset : (AV.tr (.sl .own () wd (erRows rows)) : UV) = erA (.tr (.sl .own g wd rows)) := by simp [erA, erT]
            rw [hset, setC_er] at h
            cases hs : setC S i.q (.tr (.sl .own g wd rows)) with
            | none => simp [hs] at h
            | some S1 =>
              simp only [hs, Option.map_some] at h
              have hhd : hdT i.t = some (g, wd, rows.length) := by
                rcases c1 with c1 | c1
                · simp [hdT] at c1
                · rw [← c1]; rfl
              have hi : IsT (.sl .own g wd rows) i.v := by
                cases hit : i.t with
                | sl κ' g' w' rows' =>
                  cases κ' with
                  | own =>
                    rw [hit] at hhd at2
                    simp only [hdT, Option.some.injEq, Prod.mk.injEq] at hhd
                    obtain ⟨rfl, rfl, h3⟩ := hhd
                    simp only [IsT] at at2 ⊢
                    rw [← h3]; exact at2
                  | _ => rw [hit] at hhd; simp [hdT] at hhd
                | _ => rw [hit] at hhd; simp [hdT] at hhd
              obtain ⟨k1, k2⟩ := hG.hold hs hc0 at1 hi c2 (nodup_append_left hn) (fun b hb => ⟨(hz b (by simp [hb])).1, (hz b (by simp [hb])).2.1⟩) (fun b hb => (hz b (by simp [hb])).2.2)
              have hkind : SameK S S1 := sameK_setC hs
              obtain ⟨e, e', l1, l2, hput⟩ := setC_look hs
              have hl1 : Laid S S1 (ownT (.sl .own g wd rows)) := by
                obtain ⟨old, rest, p0, p1, p2⟩ := setC_perm hG.sorted hs
                refine ⟨fun b hb => ?_, fun d g1 cs hl => ?_, hkind, fun r st B row ha => k2.ptr ⟨r, st, 0⟩ rfl B row ha, fun d t' hl => ?_⟩
                · rcases List.mem_append.1 (p2.mem_iff.1 hb) with hb | hb
                  · exact .inr hb
                  · exact .inl (p1.mem_iff.2 (by simp [hb]))
                · by_cases hd : d = i.q.root
                  · subst hd
                    rw [l1] at hl; simp at hl
                    obtain ⟨cs', m1, m2⟩ := setE_len l2 hl
                    exact ⟨cs', by rw [hput, look_put, if_pos rfl, m1], m2⟩
                  · exact ⟨cs, by rw [hput, look_put, if_neg hd]; exact hl, rfl⟩
                · have := hkind d
                  rw [hl] at this
                  exact kind_vir this.symm
              have hv1 : VirOk S0 S1 := by
                intro d t' hl
                rw [hput, look_put] at hl
                split at hl
                · rename_i hd; subst hd
                  simp at hl; subst hl
                  have hkk := set_kind l2
                  obtain ⟨t1, ht1⟩ := kind_vir (o := some e) (by rw [← hkk]; rfl)
                  simp at ht1; subst ht1
                  obtain ⟨t0, m1, m2⟩ := hv _ _ l1
                  refine ⟨t0, m1, ?_⟩
                  simp only [Ent.set] at l2
                  split at l2
                  · rename_i t2 hs'
                    simp at l2; subst l2
                    cases hst : i.q.st with
                    | nil =>
                      simp only [hst, setRowA] at hs'
                      split at hs'
                      · rename_i hlt
                        have h0 : i.q.off = 0 := by simpa using hlt
                        simp [h0] at hs'
                        subst hs'
                        right
                        rw [← hvi i (by simp) t0 m1 ⟨_, l1⟩ hst, hhd]; rfl
                      · simp at hs'
                    | cons x r =>
                      obtain ⟨o, j⟩ := x
                      rw [hst] at hs'
                      obtain ⟨g1, wd1, rows1, row1, t3, row3, e1, e3, e4, e5, e6⟩ := setRowA_cons hs'
                      cases o with
                      | zero =>
                        simp at e1; subst e1
                        simp at e6; subst e6
                        rcases m2 with m2 | m2
                        · simp [hdT] at m2
                        · right; rw [← m2]; simp [hdT]
                      | succ n => simp at e1
                  · simp at l2
                · exact hv d t' hl
              obtain ⟨S', g1, g2, g3, g4⟩ := vbackTo_ok (T := T) (TS := TS) (K := K) k1 h (fun j hj => ⟨(hat j (by simp [hj])).1.same hkind (fun B row ha => k2.ptr j.q rfl B row ha), (hat j (by simp [hj])).2⟩)
                (fun m j t' h1 h2 => hc (m + 1) j t' (by simpa using h1) (by simpa using h2)) (nodup_append_right hn)
                (fun b hb => ⟨(hz b (by simp [hb])).1, (hz b (by simp [hb])).2.1, fun hc => by
                  rcases hl1.own b hc with hc | hc
                  · exact (hz b (by simp [hb])).2.2 hc
                  · exact nodup_apart hn hc hb⟩) hv1 (fun j hj t0 m1 m2 => hvi j (by simp [hj]) t0 m1 (by obtain ⟨t, ht⟩ := m2; exact hl1.vir _ _ ht))
              exact ⟨S', g1, g2, hl1.trans g3, g4⟩
          · exact h.elim
      | _ => simp only [List.map_cons, erT, vbackTo] at h
    | _ => simp only [List.map_cons, erT, vbackTo] at h
  | [], _ :: _, S, K, hG, h, _, _, _, _, _, _ => by simp only [List.map_nil, List.map_cons, vbackTo] at h
  | _ :: _, [], S, K, hG, h, _, _, _, _, _, _ => by simp only [List.map_nil, List.map_cons, vbackTo] at h
end Go.HT
end
section
namespace Go.HT
open Go
variable {P : Program} {Z Z' : Zone} {S : St Hd} {a : Act} {w w' : World}

mutual
theorem memT_re (hs : ∀ k, Z.s k → Z'.s k) (hb : ∀ k, Z.b k → Z'.b k) : ∀ (al : Bool) (t : Tr Hd), memT w Z al t → (al = true → ∀ b ∈ ownT t, ¬ Z'.b b) → memT w Z' al t
  | _, .undef, _, _ => trivial
  | _, .int _ _, _, _ => trivial
  | _, .bool _, _, _ => trivial
  | _, .str _, _, _ => trivial
  | al, .sl κ g wd rows, ⟨h1, h2, h3⟩, ho => by
    refine ⟨⟨h1.1, fun A hA => ?_⟩, h2, memRows_re hs hb _ rows h3 (fun hal b hb' => ?_)⟩
    · obtain ⟨a1, a2, a3, a4⟩ := h1.2 A hA
      refine ⟨a1, a2, ?_, a4⟩
      cases κ with
      | own => exact ho (h2 rfl) _ (by simp [ownT, hA])
      | sh => exact hs _ a3
      | bo => exact hb _ a3
    · have hk : κ = .own := by simpa using (Bool.and_eq_true_iff.1 hal).2
      subst hk
      exact ho (Bool.and_eq_true_iff.1 hal).1 b (by simp [ownT, hb'])
theorem memRow_re (hs : ∀ k, Z.s k → Z'.s k) (hb : ∀ k, Z.b k → Z'.b k) : ∀ (al : Bool) (l : List (Tr Hd)), memRow w Z al l → (al = true → ∀ b ∈ ownRow l, ¬ Z'.b b) → memRow w Z' al l
  | _, [], _, _ => trivial
  | al, t :: r, ⟨h1, h2⟩, ho => ⟨memT_re hs hb al t h1 (fun h b hb' => ho h b (by simp [ownRow, hb'])), memRow_re hs hb al r h2 (fun h b hb' => ho h b (by simp [ownRow, hb']))⟩
theorem memRows_re (hs : ∀ k, Z.s k → Z'.s k) (hb : ∀ k, Z.b k → Z'.b k) : ∀ (al : Bool) (l : List (List (Tr Hd))), memRows w Z al l → (al = true → ∀ b ∈ ownRows l, ¬ Z'.b b) → memRows w Z' al l
  | _, [], _, _ => trivial
  | al, t :: r, ⟨h1, h2⟩, ho => ⟨memRow_re hs hb al t h1 (fun h b hb' => ho h b (by simp [ownRows, hb'])), memRows_re hs hb al r h2 (fun h b hb' => ho h b (by simp [ownRows, hb']))⟩
end
mutual
theorem memA_re (hs : ∀ k, Z.s k → Z'.s k) (hb : ∀ k, Z.b k → Z'.b k) : ∀ (v : AV Hd), memA w Z v → (∀ b ∈ ownA v, ¬ Z'.b b) → memA w Z' v
  | .tr t, h, ho => memT_re hs hb true t h (fun _ => ho)
  | .agg cs, h, ho => memL_re hs hb cs h ho
  | .tup cs, h, ho => memL_re hs hb cs h ho
  | .psh row o g, ⟨B, h1, h2, h3⟩, _ => ⟨B, h1, hb _ h2, fun j c hj => ⟨(h3 j c hj).1, memT_up hs hb c (h3 j c hj).2⟩⟩
  | .ref .., _, _ => trivial
  | .ptr .., _, _ => trivial
  | .fn .., _, _ => trivial
  | .ifc .., _, _ => trivial
theorem memL_re (hs : ∀ k, Z.s k → Z'.s k) (hb : ∀ k, Z.b k → Z'.b k) : ∀ (l : List (AV Hd)), memL w Z l → (∀ b ∈ ownAL l, ¬ Z'.b b) → memL w Z' l
  | [], _, _ => trivial
  | v :: r, ⟨h1, h2⟩, ho => ⟨memA_re hs hb v h1 (fun b hb' => ho b (by simp [ownAL, hb'])), memL_re hs hb r h2 (fun b hb' => ho b (by simp [ownAL, hb']))⟩
end
theorem boxOk_re (hs : ∀ k, Z.s k → Z'.s k) (hb : ∀ k, Z.b k → Z'.b k) {A : Addr} {cs : List (AV Hd)} (h : boxOk w Z A cs) (ho : ∀ b ∈ ownAL cs, ¬ Z'.b b) : boxOk w Z' A cs := by
  obtain ⟨cells, e, h1, h2, h3⟩ := h
  exact ⟨cells, e, h1, h2, fun j c hj => ⟨(h3 j c hj).1, memA_re hs hb c (h3 j c hj).2 (fun b hb' => ho b (mem_ownAL.2 ⟨c, List.mem_of_getElem? hj, hb'⟩))⟩⟩
theorem refOkL_trs {S : St Hd} {cs : List (AV Hd)} (h : ∀ c ∈ cs, ∃ t, c = .tr t ∧ t ≠ .undef) : refOkL S cs := refOkL_iff.2 fun v hv => by
  obtain ⟨t, rfl, _⟩ := h v hv; trivial

/-! ### What a callee leaves -/
structure BX where
  k : Nat
  g : Hd
  c : List (AV Hd)
def BX.ent (x : BX) : Nat × Ent Hd := (x.k, .box x.g x.c)
theorem filt_box (g : Hd) (cs : List (AV Hd)) (E : List (Ent Hd)) : (Ent.box g cs :: E).filter isBox = .box g cs :: E.filter isBox := rfl
theorem filt_tmp (v : AV Hd) (E : List (Ent Hd)) : (Ent.tmp v :: E).filter isBox = E.filter isBox := rfl
theorem filt_vir (t : Tr Hd) (E : List (Ent Hd)) : (Ent.vir t :: E).filter isBox = E.filter isBox := rfl
theorem outU_inv : ∀ {E : List (Ent Hd)} {i : Nat} {outs : List (List UV)} {m : St Hd}, erS m = outU i (E.map erE) outs → outs.length = boxesN (E.map erE) →
    ∃ X : List BX, m = X.map BX.ent ∧ outs = X.map (fun x => erL x.c) ∧ X.length = (E.filter isBox).length ∧ ∀ (j : Nat) x e, X[j]? = some x → (E.filter isBox)[j]? = some e → i ≤ x.k ∧ E[x.k - i]? = some e
  | [], i, outs, m, h, hl => by
    have hm : m = [] := by
      cases outs <;> simp [outU, erS] at h <;> exact h
    subst hm
    have : outs = [] := by simpa [boxesN] using hl
    subst this
    exact ⟨[], rfl, rfl, rfl, by simp⟩
  | e :: E, i, outs, m, h, hl => by
    cases e with
    | box g cs =>
      simp only [List.map_cons, erE, boxesN] at h hl
      cases outs with
      | nil => simp at hl
      | cons o outs =>
        simp only [outU] at h
        cases m with
        | nil => simp [erS] at h
        | cons x m =>
          obtain ⟨k, e'⟩ := x
          simp only [erS, List.map_cons, List.cons.injEq, Prod.mk.injEq] at h
          obtain ⟨⟨rfl, h1⟩, h2⟩ := h
          cases e' with
          | box g' c' =>
            simp only [erE, Ent.box.injEq, true_and] at h1
            obtain ⟨X, x1, x2, x3, x4⟩ := outU_inv (E := E) (i := k + 1) (outs := outs) (m := m) h2 (by simpa using hl)
            refine ⟨⟨k, g', c'⟩ :: X, by simp [x1, BX.ent], by simp [x2, h1], by rw [filt_box]; simp [x3], fun j x e hx he => ?_⟩
            rw [filt_box] at he
            cases j with
            | zero => simp at hx he; subst hx he; simp
            | succ j =>
              obtain ⟨y1, y2⟩ := x4 j x e (by simpa using hx) (by simpa using he)
              exact ⟨by omega, by rw [show x.k - k = (x.k - (k + 1)) + 1 by omega]; simpa using y2⟩
          | tmp v => simp [erE] at h1
          | vir t => simp [erE] at h1
    | tmp v =>
      simp only [List.map_cons, erE, boxesN, outU] at h hl
      obtain ⟨X, x1, x2, x3, x4⟩ := outU_inv (E := E) (i := i + 1) (outs := outs) (m := m) h hl
      refine ⟨X, x1, x2, by rw [filt_tmp]; exact x3, fun j x e hx he => ?_⟩
      obtain ⟨y1, y2⟩ := x4 j x e hx (by rw [filt_tmp] at he; exact he)
      exact ⟨by omega, by rw [show x.k - i = (x.k - (i + 1)) + 1 by omega]; simpa using y2⟩
    | vir v =>
      simp only [List.map_cons, erE, boxesN, outU] at h hl
      obtain ⟨X, x1, x2, x3, x4⟩ := outU_inv (E := E) (i := i + 1) (outs := outs) (m := m) h hl
      refine ⟨X, x1, x2, by rw [filt_vir]; exact x3, fun j x e hx he => ?_⟩
      obtain ⟨y1, y2⟩ := x4 j x e hx (by rw [filt_vir] at he; exact he)
      exact ⟨by omega, by rw [show x.k - i = (x.k - (i + 1)) + 1 by omega]; simpa using y2⟩
theorem initV_inv : ∀ {vouts : List UT} {i : Nat} {m : St Hd}, erS m = initV i vouts → ∃ TS : List (Tr Hd), m = initVH i TS ∧ vouts = TS.map erT
  | [], i, m, h => by
    have hm : m = [] := by simpa [initV, erS] using h
    subst hm
    exact ⟨[], rfl, rfl⟩
  | t :: r, i, m, h => by
    simp only [initV] at h
    cases m with
    | nil => simp [erS] at h
    | cons x m =>
      obtain ⟨k, e⟩ := x
      simp only [erS, List.map_cons, List.cons.injEq, Prod.mk.injEq] at h
      obtain ⟨⟨rfl, h1⟩, h2⟩ := h
      cases e with
      | vir t' =>
        simp only [erE, Ent.vir.injEq] at h1
        obtain ⟨TS, t1, t2⟩ := initV_inv h2
        exact ⟨t' :: TS, by simp [initVH, t1], by simp [t2, h1]⟩
      | tmp v => simp [erE] at h1
      | box g cs => simp [erE] at h1
theorem ownS_X : ∀ X : List BX, ownS (X.map BX.ent) = X.flatMap fun x => blk x.g ++ ownAL x.c
  | [] => rfl
  | x :: X => by simp [ownS, BX.ent, ownE, ownS_X X]
theorem flat_perm (X : List BX) : (X.flatMap fun x => blk x.g ++ ownAL x.c).Perm ((X.flatMap fun x => blk x.g) ++ (X.flatMap fun x => ownAL x.c)) := by
  induction X with
  | nil => exact .refl _
  | cons x X ih =>
    simp only [List.flatMap_cons]
    refine ((List.Perm.refl _).append ih).trans ?_
    refine List.perm_iff_count.2 fun b => ?_
    simp only [List.count_append]; omega
theorem call_run {o : Oper} {c : Call} {f : Operand} {fid : FuncId} {vs : Array Value} (hop : o.op = .call c) (hc : c.callee = .value f) (hf : a.eval f = .func (.func fid) #[] vs) (hent : enterOk P fid = true) (w : World) :
    (execOp a.eval o).run P w = .ok (.enter fid (c.args.map a.eval ++ vs)) w := by
  unfold enterOk at hent
  split at hent
  · rename_i fn hfn
    simp only [Bool.and_eq_true, bne_iff_ne, ne_eq] at hent
    obtain ⟨h1, h2⟩ := hent
    simp [execOp, hop, Go.resolve, hc, hf, Deferred.ofValue, invoke, callFunc, hfn, h1]
    intro h3
    simp [h3] at h2
  · simp at hent
end Go.HT
end
section
namespace Go.HT
open Go
variable {P : Program} {Z : Zone} {S : St Hd} {a : Act} {w w' : World}

/-- All that is told of a call's preparation. -/
structure Ready (Z Z' : Zone) (S S4 : St Hd) (a : Act) (w : World) (vals : Array Value) (E : List (Ent Hd)) (L : List BI) (T : List VI) (G : List Nat) : Prop where
  good : Good Z S4 a w
  less : Less S S4
  zs : ∀ k, Z'.s k → Z.s k
  zb : ∀ k, Z.b k → Z'.b k
  zG : ∀ k, Z'.b k → k ∉ G
  start : E.length < 999 → Good Z' (start E (T.map (·.t))) ⟨vals, []⟩ w
  size : vals.size = E.length
  boxes : E.filter isBox = L.map BI.ent
  shell : ∀ i ∈ L, look S4 i.r = some (.box i.g (undefsH i.cs))
  roots : (L.map (·.r)).Nodup
  at_ : ∀ i ∈ T, At a w S4 i.q i.v ∧ IsT i.t i.v
  root : ∀ i ∈ T, ∀ j ∈ L, i.q.root ≠ j.r
  vir : ∀ i ∈ T, ∀ t0, look S i.q.root = some (.vir t0) → (∃ t, look S4 i.q.root = some (.vir t)) → i.q.st = [] → hdT i.t = hdT t0
  own : ∀ b ∈ ownS (HT.start E (T.map (·.t))), b ∈ G
  Gin : ∀ b ∈ G, b ∈ ownS S
  G4 : ∀ b ∈ ownS S4, b ∈ G → ∃ i ∈ L, b ∈ blk i.g
theorem ownOs_of {E : List (Option (Ent Hd))} {e : Ent Hd} {j : Nat} (h : E[j]? = some (some e)) {b : Nat} (hb : b ∈ ownE e) : b ∈ ownOs E := by
  induction E generalizing j with
  | nil => simp at h
  | cons x r ih =>
    simp only [ownOs, List.mem_append]
    cases j with
    | zero => simp at h; subst h; exact .inl hb
    | succ j => exact .inr (ih (by simpa using h))
theorem ownOs_nil {E : List (Option (Ent Hd))} (h : ∀ (j : Nat) e, E[j]? = some (some e) → ownE e = []) : ownOs E = [] := by
  induction E with
  | nil => rfl
  | cons x r ih =>
    simp only [ownOs, ih fun j e he => h (j + 1) e (by simpa using he), List.append_nil]
    cases x with
    | none => rfl
    | some e => exact h 0 e rfl
theorem prep_ok (hG : Good Z S a w) {md : Nat → Nat} {args : List (Operand × TypeId)} {capsH : List (AV Hd)} {vs vals : Array Value} {p : Prep} (hvs : IsL capsH vs.toList) (hrc : refOkL S capsH) (hvals : vals.toList = args.map (fun xt => a.eval xt.1) ++ vs.toList)
    (h : prep P md (erS S) args (erL capsH) = some p) : ∃ (S4 : St Hd) (E : List (Ent Hd)) (L : List BI) (T : List VI) (Z' : Zone) (G : List Nat), E.map erE = p.es ∧ T.map (fun i => erT i.t) = p.vs ∧ L.map (·.r) = p.bs ∧ T.map (·.q) = p.vbs ∧ erS S4 = p.s ∧ Ready Z Z' S S4 a w vals E L T G ∧
      ((∀ i, i < args.length → md i = 0) → capsH = [] → G = []) := by
  unfold prep at h
  split at h
  case h_2 => simp at h
  rename_i A' U1 hA
  split at h
  case h_2 => simp at h
  rename_i B' bs U2 hB
  split at h
  case h_2 => simp at h
  rename_i es2 bs2 U3 hC
  split at h
  case h_2 => simp at h
  rename_i C' ts qs U4 hV
  split at h
  case h_2 => simp at h
  rename_i es hF
  simp only [Option.some.injEq] at h
  subst h
  have hAmd := passTake_md hA
  have hBmd := passBox_md hB
  obtain ⟨A, S1, a1, a2, a3, a4, a5, a6, a7⟩ := passTake_ok hG hA
  subst a1 a2
  obtain ⟨B, S2, L1, b1, b2, b3, b4, b5, b6, b7, b8, b9, b10⟩ := passBox_ok a3 hB
  subst b1 b2 b5
  obtain ⟨S3, L2, c1, c2, c3, c4, c5, c6, c7, c8⟩ := passCaps_ok hG b3 (a4.trans b4) hrc hC
  subst c1 c2 c5
  obtain ⟨C, T, S4, d1, d2, d3, d4, d5, d6, d7⟩ := passVir_ok c3 hV
  subst d1 d2 d3 d4
  have hL := b6.append c6 b3 c7.1 c4 b7.2
  have hC0 : ownOs C = [] := ownOs_nil fun j e he => by
    obtain ⟨v, xt, _, rfl, _, h4, _⟩ := d7 j e he
    simpa [ownE] using h4
  -- the blocks that are given
  let G := ownOs A ++ (((L1 ++ L2).flatMap fun i => ownE i.ent) ++ T.flatMap fun i => ownT i.t)
  have hGdef : G = ownOs A ++ (((L1 ++ L2).flatMap fun i => ownE i.ent) ++ T.flatMap fun i => ownT i.t) := rfl
  have hLin : ∀ b ∈ (L1 ++ L2).flatMap fun i => ownE i.ent, b ∈ ownS S1 := fun b hb => by
    obtain ⟨i, hi, hb⟩ := List.mem_flatMap.1 hb
    obtain ⟨cs0, f1, _, f3⟩ := hL.frm i hi
    exact look_own f1 b (f3 b hb)
  have hTin : ∀ b ∈ T.flatMap fun i => ownT i.t, b ∈ ownS S3 ∧ b ∉ ownS S4 := fun b hb => by
    obtain ⟨i, hi, hb⟩ := List.mem_flatMap.1 hb
    exact d6.inn i hi b hb
  have hGin : ∀ b ∈ G, b ∈ ownS S := fun b hb => by
    rw [hGdef] at hb
    rcases List.mem_append.1 hb with hb | hb
    · exact (a7 b hb).1
    · rcases List.mem_append.1 hb with hb | hb
      · exact a4.own b (hLin b hb)
      · exact a4.own b (b4.own b (c4.own b (hTin b hb).1))
  have hGnd : G.Nodup := by
    rw [hGdef]
    refine List.nodup_append.2 ⟨a6, List.nodup_append.2 ⟨hL.nd, d6.nd, fun x hx y hy hxy => ?_⟩, fun x hx y hy hxy => ?_⟩
    · subst hxy
      obtain ⟨i, hi, hb⟩ := List.mem_flatMap.1 hx
      simp only [BI.ent, ownE, List.mem_append] at hb
      rcases hb with hb | hb
      · obtain ⟨j, hj, hbj⟩ := List.mem_flatMap.1 hy
        exact d6.bx _ _ _ (hL.now i hi) (hL.ok i hi).2.2 j hj x hbj hb
      · exact hL.own i hi x hb (hTin x hy).1
    · subst hxy
      refine (a7 x hx).2 ?_
      rcases List.mem_append.1 hy with hy | hy
      · exact hLin x hy
      · exact b4.own x (c4.own x (hTin x hy).1)
  have hG4 : ∀ b ∈ ownS S4, b ∈ G → ∃ i ∈ L1 ++ L2, b ∈ blk i.g := fun b hb4 hb => by
    rw [hGdef] at hb
    rcases List.mem_append.1 hb with hb | hb
    · exact absurd (b4.own b (c4.own b (d6.less.own b hb4))) (a7 b hb).2
    · rcases List.mem_append.1 hb with hb | hb
      · obtain ⟨i, hi, hb⟩ := List.mem_flatMap.1 hb
        simp only [BI.ent, ownE, List.mem_append] at hb
        rcases hb with hb | hb
        · exact ⟨i, hi, hb⟩
        · exact absurd (d6.less.own b hb4) (hL.own i hi b hb)
      · exact absurd hb4 (hTin b hb).2
  let Z' : Zone := ⟨Z.s, fun k => k < w.heap.size ∧ k ∉ G, fun k hk => ⟨hG.zb k (Z.sub k hk), fun hc => (hG.zn k (hGin k hc)).1 (Z.sub k hk)⟩⟩
  have hzb : ∀ k, Z.b k → Z'.b k := fun k hk => ⟨hG.zb k hk, fun hc => (hG.zn k (hGin k hc)).1 hk⟩
  have hzs : ∀ k, Z.s k → Z'.s k := fun _ h => h
  have hnG : ∀ b ∈ G, ¬ Z'.b b := fun b hb hc => hc.2 hb
  have hshell : ∀ i ∈ L1 ++ L2, look S4 i.r = some (.box i.g (undefsH i.cs)) := fun i hi => d6.stay _ _ _ (hL.ok i hi).2.2 (hL.now i hi)
  have hown4 : ∀ r b, b ∈ slotC S4 r → Z'.b b := fun r b hb => by
    have hin : b ∈ ownS S4 := by
      have := slotC_slot hb
      simp only [slotB] at this
      cases hl : look S4 r with
      | none => simp [hl] at this
      | some e => simp only [hl] at this; exact look_own hl b this
    refine ⟨(d5.zn b hin).2, fun hc => ?_⟩
    obtain ⟨i, hi, hbi⟩ := hG4 b hin hc
    exact slotC_not_blk d5 hb (hshell i hi) hbi
  have hAin : ∀ b ∈ ownOs A, b ∈ G := fun b hb => by rw [hGdef]; simp [hb]
  have hLG : ∀ i ∈ L1 ++ L2, ∀ b ∈ ownE i.ent, b ∈ G := fun i hi b hb => by
    rw [hGdef]
    exact List.mem_append.2 (.inr (List.mem_append.2 (.inl (List.mem_flatMap.2 ⟨i, hi, hb⟩))))
  have hTG : ∀ i ∈ T, ∀ b ∈ ownT i.t, b ∈ G := fun i hi b hb => by
    rw [hGdef]
    exact List.mem_append.2 (.inr (List.mem_append.2 (.inr (List.mem_flatMap.2 ⟨i, hi, hb⟩))))
  have hLbox : ∀ i ∈ L1 ++ L2, ∃ A, i.g.a = some A ∧ A.spot = none ∧ boxOk w Z' A i.cs := fun i hi => by
    obtain ⟨⟨A, k1, k2, k3⟩, _⟩ := hL.ok i hi
    exact ⟨A, k1, k2, boxOk_re hzs hzb k3 fun b hb => hnG b (hLG i hi b (by simp [BI.ent, ownE, hb]))⟩
  obtain ⟨E, e1, e2, e3, e4, e5, e6, e7, e8⟩ := finish_ok d5 hzs hzb hown4 hF
    (fun j e xt h1 h2 => by
      obtain ⟨v, xt', k1, rfl, k3, k4, k5⟩ := a5 j e h1
      rw [h2] at k1; simp at k1; subst k1
      exact ⟨⟨k3, memA_re hzs hzb v k4 fun b hb => hnG b (hAin b (ownOs_of h1 (by simpa [ownE] using hb)))⟩, rfl⟩)
    (fun j e xt h1 h2 => by
      obtain ⟨xt', i, k1, k2, rfl, k4⟩ := b10 j e h1
      rw [h2] at k1; simp at k1; subst k1
      obtain ⟨A, m1, m2, m3⟩ := hLbox i (by simp [k2])
      exact ⟨k4, A, m1, m2, m3⟩)
    (fun j e xt h1 h2 => by
      obtain ⟨v, xt', k1, rfl, k3, k4, k5, k6⟩ := d7 j e h1
      rw [h2] at k1; simp at k1; subst k1
      exact ⟨⟨k3, k5 Z' hzs hzb⟩, rfl⟩)
    (fun j e e' h1 h2 => by
      have m1 := hAmd j (erE e) (by rw [List.getElem?_map, h1]; rfl)
      have m2 := hBmd j (erE e') (by rw [List.getElem?_map, h2]; rfl)
      omega)
  subst e1
  have hboxL : ∀ l : List BI, (l.map BI.ent).filter isBox = l.map BI.ent := fun l => by
    rw [List.filter_eq_self]
    intro x hx
    obtain ⟨i, _, rfl⟩ := List.mem_map.1 hx
    rfl
  have hvl : vs.toList = L2.map fun i => .pointer i.g.a := c8 _ hvs
  have hmix : (mix A B C).Perm (ownOs A ++ (L1.flatMap fun i => ownE i.ent)) := by
    refine (mix_perm e7 e8).trans ?_
    rw [hC0, b8]; simp
  have hEin : ∀ b ∈ (E ++ L2.map BI.ent).flatMap ownE, b ∈ G := fun b hb => by
    rw [List.flatMap_append] at hb
    rcases List.mem_append.1 hb with hb | hb
    · rcases List.mem_append.1 (hmix.mem_iff.1 (e6.subset hb)) with hb | hb
      · exact hAin b hb
      · obtain ⟨i, hi, hb⟩ := List.mem_flatMap.1 hb
        exact hLG i (by simp [hi]) b hb
    · simp only [List.flatMap_map] at hb
      obtain ⟨i, hi, hb⟩ := List.mem_flatMap.1 hb
      exact hLG i (by simp [hi]) b hb
  have hTmap : (T.map (·.t)).flatMap ownT = T.flatMap fun i => ownT i.t := by simp [List.flatMap_map]
  have hnd0 : ((E ++ L2.map BI.ent).flatMap ownE ++ (T.map (·.t)).flatMap ownT).Nodup := by
    rw [hTmap]
    have hsub : (E.flatMap ownE).Nodup ∧ ∀ b ∈ E.flatMap ownE, b ∈ ownOs A ∨ b ∈ L1.flatMap fun i => ownE i.ent := by
      refine ⟨e6.nodup (hmix.nodup_iff.2 ?_), fun b hb => List.mem_append.1 (hmix.mem_iff.1 (e6.subset hb))⟩
      rw [hGdef, List.flatMap_append, ← List.append_assoc, ← List.append_assoc] at hGnd
      have := nodup_append_left (nodup_append_left hGnd)
      exact this
    have h2 : ((L2.map BI.ent).flatMap ownE ++ T.flatMap fun i => ownT i.t).Nodup := by
      rw [hGdef, List.flatMap_append, List.append_assoc] at hGnd
      have := nodup_append_right (nodup_append_right hGnd)
      simpa [List.flatMap_map] using this
    rw [List.flatMap_append, List.append_assoc]
    refine List.nodup_append.2 ⟨hsub.1, h2, fun x hx y hy hxy => ?_⟩
    subst hxy
    have hy' : x ∈ (L2.flatMap fun i => ownE i.ent) ++ T.flatMap fun i => ownT i.t := by simpa [List.flatMap_map] using hy
    rw [hGdef, List.flatMap_append, List.append_assoc] at hGnd
    rcases hsub.2 x hx with h | h
    · exact nodup_apart hGnd h (List.mem_append.2 (.inr hy'))
    · exact nodup_apart (nodup_append_right hGnd) h hy'
  refine ⟨S4, E ++ L2.map BI.ent, L1 ++ L2, T, Z', G, by simp, rfl, by simp, rfl, rfl, ⟨d5, ((a4.trans b4).trans c4).trans d6.less, fun k hk => hk, hzb, fun k hk => hk.2, fun hlen => ?_, ?_, ?_, hshell, hL.roots, fun i hi => ⟨d6.at_ i hi, (d6.ok i hi).2.2⟩, fun i hi j hj => ?_, fun i hi t0 h1 h2 hst => ?_, fun b hb => ?_, hGin, hG4⟩, ?_⟩
  · refine good_start hlen (fun d e he => ?_) (fun t ht => ?_) hnd0 (fun b hb => ⟨?_, ?_⟩) (fun b hb => hb.1) (fun e he => ?_)
    · have hval : vals.getD d undef = (vals.toList[d]?).getD undef := by simp [Array.getD_eq_getD_getElem?]
      by_cases hd : d < E.length
      · rw [List.getElem?_append_left hd] at he
        obtain ⟨xt, hxt⟩ : ∃ xt, args[d]? = some xt := ⟨_, List.getElem?_eq_getElem (by omega)⟩
        have hv : vals.getD d undef = a.eval xt.1 := by
          rw [hval, hvals, List.getElem?_append_left (by simp; omega), List.getElem?_map, hxt]; rfl
        have heo := e2 d e xt he hxt
        cases e with
        | tmp v => exact ⟨by rw [hv]; exact heo.1, heo.2⟩
        | box g cs => exact ⟨by rw [hv]; exact heo.1, heo.2⟩
        | vir t => exact heo.elim
      · rw [List.getElem?_append_right (by omega), List.getElem?_map] at he
        cases hi : L2[d - E.length]? with
        | none => simp [hi] at he
        | some i =>
          simp [hi] at he; subst he
          have hv : vals.getD d undef = .pointer i.g.a := by
            rw [hval, hvals, List.getElem?_append_right (by simp; omega), hvl, List.getElem?_map]
            simp only [List.length_map]
            rw [← e3, hi]; rfl
          exact ⟨hv, hLbox i (by simp [List.mem_of_getElem? hi])⟩
    · obtain ⟨i, hi, rfl⟩ := List.mem_map.1 ht
      exact memT_re hzs hzb true _ (d6.ok i hi).1 fun _ b hb => hnG b (hTG i hi b hb)
    · refine hnG b ?_
      rcases List.mem_append.1 hb with hb | hb
      · exact hEin b hb
      · rw [hTmap] at hb
        obtain ⟨i, hi, hb⟩ := List.mem_flatMap.1 hb
        exact hTG i hi b hb
    · refine (hG.zn b (hGin b ?_)).2
      rcases List.mem_append.1 hb with hb | hb
      · exact hEin b hb
      · rw [hTmap] at hb
        obtain ⟨i, hi, hb⟩ := List.mem_flatMap.1 hb
        exact hTG i hi b hb
    · rcases List.mem_append.1 he with he | he
      · rcases e5 e he with h | h | h | h
        · obtain ⟨j, hj⟩ := List.getElem?_of_mem h
          obtain ⟨v, xt, _, rfl, _, _, k5⟩ := a5 j e hj
          exact k5 _
        · obtain ⟨j, hj⟩ := List.getElem?_of_mem h
          obtain ⟨xt, i, _, k2, rfl, _⟩ := b10 j e hj
          exact refOkL_trs (hL.ok i (by simp [k2])).2.1
        · obtain ⟨j, hj⟩ := List.getElem?_of_mem h
          obtain ⟨v, xt, _, rfl, _, _, _, k6⟩ := d7 j e hj
          refine k6 _ fun m i hm => ?_
          rw [look_start hlen, if_neg (by omega), show 1000 + m - 1000 = m by omega, List.getElem?_map, hm]
          rfl
        · exact h _
      · obtain ⟨i, hi, rfl⟩ := List.mem_map.1 he
        exact refOkL_trs (hL.ok i (by simp [hi])).2.1
  · rw [← Array.length_toList, hvals, hvl]
    simp [e3]
  · rw [List.filter_append, e4, b9, hboxL, hboxL]; simp
  · exact d6.root i hi _ _ _ (hL.ok j hj).2.2 (hL.now j hj)
  · obtain ⟨t4, h4⟩ := h2
    obtain ⟨t3, m1, _⟩ := d6.less.vir _ _ h4
    obtain ⟨t0', m2, m3⟩ := ((a4.trans b4).trans c4).vir _ _ m1
    rw [h1] at m2; simp at m2; subst m2
    have m4 := d6.vir i hi t3 m1 hst
    obtain ⟨g, wd, rows, hit⟩ := (d6.ok i hi).2.1
    rcases m3 with m3 | m3
    · rw [m3, hit] at m4; simp [hdT] at m4
    · rw [m4, m3]
  · have ho : ownS (start (E ++ L2.map BI.ent) (T.map (·.t))) = (E ++ L2.map BI.ent).flatMap ownE ++ (T.map (·.t)).flatMap ownT := by rw [start, ownS_append, ownS_initH, ownS_initVH]
    rw [ho] at hb
    rcases List.mem_append.1 hb with hb | hb
    · exact hEin b hb
    · rw [hTmap] at hb
      obtain ⟨i, hi, hb⟩ := List.mem_flatMap.1 hb
      exact hTG i hi b hb
  · intro h0 hc0
    subst hc0
    have hA0 : ownOs A = [] := ownOs_nil fun j e he => by
      exfalso
      have m1 := hAmd j (erE e) (by rw [List.getElem?_map, he]; rfl)
      obtain ⟨v, xt, k1, _⟩ := a5 j e he
      have := h0 j (List.getElem?_eq_some_iff.1 k1).1
      simp at m1; omega
    have hL2 : L2 = [] := by
      have := c8 _ hvs
      simp only [IsL] at hvs
      rw [hvs] at this
      simpa using this.symm
    have hL1 : L1 = [] := by
      cases hh : L1 with
      | nil => rfl
      | cons i l =>
        exfalso
        have : i.ent ∈ B.filterMap id := by rw [b9, hh]; simp
        obtain ⟨o, ho, ho2⟩ := List.mem_filterMap.1 this
        simp at ho2; subst ho2
        obtain ⟨j, hj⟩ := List.getElem?_of_mem ho
        have m1 := hBmd j (erE i.ent) (by rw [List.getElem?_map, hj]; rfl)
        obtain ⟨xt, i', k1, _⟩ := b10 j _ hj
        have := h0 j (List.getElem?_eq_some_iff.1 k1).1
        simp at m1; omega
    have hT0 : T = [] := by
      have := passVir_none hV (fun j hj => by have := h0 j hj; simp; omega)
      simpa using this
    rw [hGdef, hA0, hL1, hL2, hT0]; rfl
where
  passVir_none {md : Nat → Nat} : ∀ {args : List (Operand × TypeId)} {i : Nat} {V : List Place} {S : US} {k : Nat} {es : List (Option UE)} {ts : List UT} {qs : List Place} {U : US}, passVir P md i V S k args = some (es, ts, qs, U) → (∀ j, j < args.length → md (i + j) ≠ 2) → qs = []
    | [], i, V, S, k, es, ts, qs, U, h, _ => by simp only [passVir, Option.some.injEq, Prod.mk.injEq] at h; exact h.2.2.1.symm
    | (x, t) :: r, i, V, S, k, es, ts, qs, U, h, hm => by
      have h0 : md i ≠ 2 := by simpa using hm 0 (by simp)
      simp only [passVir, if_neg h0] at h
      split at h
      · rename_i es2 ts2 qs2 U2 hr
        simp only [Option.some.injEq, Prod.mk.injEq] at h
        obtain ⟨_, _, rfl, _⟩ := h
        exact passVir_none hr fun j hj => by have := hm (j + 1) (by simpa using hj); rwa [show i + (j + 1) = i + 1 + j by omega] at this
      · simp at h
end Go.HT
end
section
namespace Go.HT
open Go
variable {P : Program} {md : Modes} {Z : Zone} {S0 : St Hd} {w0 : World} {n : Nat} {pn : Nat → Option Value}
/-- A bare tree that is flat, taken for one with addresses. -/
def upT : UT → Tr Hd
  | .int k n => .int k n
  | .bool b => .bool b
  | .str s => .str s
  | _ => .undef
theorem er_up : ∀ {c : UT}, Tr.flat c = true → erT (upT c) = c
  | .undef, _ => rfl
  | .int .., _ => rfl
  | .bool .., _ => rfl
  | .str .., _ => rfl
  | .sl .., h => by simp [Tr.flat] at h
theorem isT_up : ∀ {c : UT} {v : Value}, IsU c v → IsT (upT c) v
  | .undef, _, _ => trivial
  | .int .., _, h => h
  | .bool .., _, h => h
  | .str .., _, h => h
  | .sl .., _, _ => trivial
def isDef : UT → Bool
  | .undef => false
  | _ => true
theorem isU_of : ∀ {t : Tr Hd} {v : Value}, Tr.flat (erT t) = true → isDef (erT t) = true → IsT t v → IsU (erT t) v
  | .undef, _, _, h, _ => by simp [erT, isDef] at h
  | .int .., _, _, _, h => h
  | .bool .., _, _, _, h => h
  | .str .., _, _, _, h => h
  | .sl .., _, h, _, _ => by simp [erT, Tr.flat] at h
theorem ownT_up : ∀ c : UT, ownT (upT c) = []
  | .undef => rfl
  | .int .. => rfl
  | .bool .. => rfl
  | .str .. => rfl
  | .sl .. => rfl
theorem memT_up' (w : World) (Z : Zone) (al : Bool) : ∀ c : UT, memT w Z al (upT c)
  | .undef => trivial
  | .int .. => trivial
  | .bool .. => trivial
  | .str .. => trivial
  | .sl .. => trivial
def upRows (rows : List (List UT)) : List (List (Tr Hd)) := rows.map fun r => r.map upT
theorem er_upRows {rows : List (List UT)} (h : flatRows rows = true) : erRows (upRows rows) = rows := by
  rw [erRows_map, upRows, List.map_map]
  refine (List.map_congr_left fun r hr => ?_).trans (List.map_id rows)
  simp only [Function.comp_apply, erRow_map, List.map_map, id_eq]
  refine (List.map_congr_left fun c hc => ?_).trans (List.map_id r)
  exact er_up (List.all_eq_true.1 (List.all_eq_true.1 h r hr) c hc)
theorem own_upRows (rows : List (List UT)) : ownRows (upRows rows) = [] := by
  rw [List.eq_nil_iff_forall_not_mem]
  intro b hb
  obtain ⟨r, hr, hb⟩ := mem_ownRows.1 hb
  obtain ⟨r0, _, rfl⟩ := List.mem_map.1 hr
  obtain ⟨c, hc, hb⟩ := mem_ownRow.1 hb
  obtain ⟨c0, _, rfl⟩ := List.mem_map.1 hc
  rw [ownT_up] at hb; simp at hb
theorem mem_upRows (w : World) (Z : Zone) (al : Bool) (rows : List (List UT)) : memRows w Z al (upRows rows) := by
  refine memRows_iff.2 fun r hr => memRow_iff.2 fun c hc => ?_
  obtain ⟨r0, _, rfl⟩ := List.mem_map.1 hr
  obtain ⟨c0, _, rfl⟩ := List.mem_map.1 hc
  exact memT_up' ..
theorem sort_ok {o : Oper} {c : Call} {f : Operand} {as : List (Operand × TypeId)} {fid : FuncId} {K : W → Prop} {Q : Exit → Act → World → Prop} {a : Act} {w : World} {S : St Hd}
    (hop : o.op = .call c) (hcal : c.callee = .value f) (has : as.map (·.1) = c.args.toList) (hd : ∀ d, o.dst = some d → d < n ∧ pn d = none) (hf1 : a.eval f = .func (.func fid) #[] #[])
    (hv : vcSort P (erS S) fid as o.dst K) (hG : Good Z S a w) (hf : Fr S0 w0 S w) (hs : a.tmps.size = n) (hrest : Rest pn a) : o.wp P a w (Now Z S0 w0 n pn K) Q := by
  unfold vcSort at hv
  split at hv
  case h_2 => exact hv.elim
  rename_i s hsa
  unfold sortK at hv
  obtain ⟨rows', ⟨hfl', hdf'⟩, ⟨⟨hent, hlen⟩, hC⟩, hk⟩ := hv
  unfold sortArgs at hsa
  split at hsa
  case h_2 => simp at hsa
  rename_i as' x t y u
  split at hsa
  case h_2 => simp at hsa
  rename_i ti q lo nn cp hx
  split at hsa
  case h_2 => simp at hsa
  rename_i g qb hy
  split at hsa
  case h_2 => simp at hsa
  rename_i wd rows hq
  split at hsa
  case isFalse => simp at hsa
  rename_i hcond
  obtain ⟨r1, r2, r3, r4, rfl, rfl, rfl, r8, r9, r10⟩ := hcond
  simp only [Option.some.injEq] at hsa
  subst hsa
  simp only at hlen hC hk
  obtain ⟨vx, x1, x2, _, x4, _, _⟩ := ev_ok hG hx
  obtain ⟨vy, y1, y2, _, y4, _, _⟩ := ev_ok hG hy
  -- the interface
  obtain ⟨gx, rfl⟩ : ∃ gx, vx = .ifc ti (.ref q 0 rows.length false gx) := by
    cases vx with
    | ifc t' v' =>
      simp only [erA, AV.ifc.injEq] at x1
      obtain ⟨rfl, x1⟩ := x1
      cases v' with
      | ref q' lo' n' cp' g' => simp only [erA, AV.ref.injEq] at x1; obtain ⟨rfl, rfl, rfl, rfl, _⟩ := x1; exact ⟨g', rfl⟩
      | _ => simp [erA] at x1
    | _ => simp [erA] at x1
  obtain ⟨gy, rfl⟩ : ∃ gy, vy = .fn g [.ptr qb gy] := by
    obtain ⟨cs, rfl, hcs⟩ := erA_fn y1
    cases cs with
    | nil => simp [erL] at hcs
    | cons v1 r =>
      simp only [erL, List.cons.injEq] at hcs
      cases r with
      | cons => simp [erL] at hcs
      | nil =>
        cases v1 with
        | ptr q' g' => simp only [erA, AV.ptr.injEq] at hcs; obtain ⟨⟨rfl, _⟩, _⟩ := hcs; exact ⟨g', rfl⟩
        | _ => simp [erA] at hcs
  -- the slice
  rw [getC_er] at hq
  cases hc0 : getC S q with
  | none => simp [hc0] at hq
  | some c0 =>
  rw [hc0] at hq
  simp only [Option.map_some, Option.some.injEq] at hq
  obtain ⟨t0, rfl, ht0⟩ := erA_tr hq
  obtain ⟨g0, rowsH, rfl, rfl⟩ : ∃ g0 rowsH, t0 = .sl .own g0 wd rowsH ∧ erRows rowsH = rows := by
    cases t0 with
    | sl κ g0 wd0 r0 => simp only [erT, Tr.sl.injEq] at ht0; obtain ⟨rfl, _, rfl, rfl⟩ := ht0; exact ⟨g0, r0, rfl, rfl⟩
    | _ => simp [erT] at ht0
  rw [erRows_length] at x1 x2 x4 hlen hC
  -- the interface's header
  obtain ⟨g0', wd', rows0, z1, z2⟩ := x4
  rw [hc0] at z1
  simp only [Option.some.injEq, AV.tr.injEq, Tr.sl.injEq, true_and] at z1
  obtain ⟨rfl, rfl, rfl⟩ := z1
  have hgx : gx = g0 := z2.2.2.2.2.1 rfl rfl rfl
  subst hgx
  obtain ⟨ux, hux, hux2⟩ := x2
  simp only [IsA] at hux2
  subst hux2
  -- the box
  obtain ⟨vsy, hvy, hvy2⟩ := y2
  obtain ⟨pv, rest, hp1, hp2, hp3⟩ := hvy2
  simp only [IsL] at hp3
  subst hp3
  simp only [IsA] at hp2
  subst hp2
  obtain ⟨⟨B, row, b1, b2⟩, _⟩ := y4
  rw [r3, ← r1] at b1
  rw [r4] at b2
  simp only [rowAddrS] at b1
  cases hl : look S q.root with
  | none => simp [hl] at b1
  | some eB =>
  rw [hl] at b1
  have hbx : ∃ gB, eB = .box gB row ∧ gB.a = some B := by
    cases eB with
    | box gB cs =>
      simp only [rowAddrE] at b1
      cases hgB : gB.a with
      | none => simp [hgB] at b1
      | some A => simp [hgB, rowAddrA] at b1; obtain ⟨rfl, rfl⟩ := b1; exact ⟨gB, rfl, hgB⟩
    | tmp v => simp [rowAddrE] at b1
    | vir v => simp [rowAddrE] at b1
  obtain ⟨gB, rfl, hgB⟩ := hbx
  have hentB := hG.ent _ _ hl
  obtain ⟨_, A', a1, a2, bcells, be, a3, a4, a5⟩ := hentB
  rw [hgB] at a1; simp only [Option.some.injEq] at a1; subst a1
  have hrow : row[q.off]? = some (.tr (.sl .own gx wd rowsH)) := by
    have := hc0
    simp only [getC, rowOf, hl, r2, Ent.cells, stepRow] at this
    exact this
  obtain ⟨⟨vh, v1, v2⟩, v3⟩ := a5 _ _ hrow
  simp only [IsA, IsT] at v2
  subst v2
  obtain ⟨hh1, hh2, hh3⟩ := v3
  obtain ⟨hn0, hA⟩ := hh1
  have hne : rowsH ≠ [] := by rintro rfl; simp [erRows] at r8
  cases hga : gx.a with
  | none => exact absurd (hn0 hga).1 hne
  | some A =>
  obtain ⟨A1, A2, A3, cs, e, fr, c1, c2, c3⟩ := hA A hga
  obtain ⟨rfl, c2'⟩ := c2 rfl
  have hAin : A.block ∈ ownAL row := ownAL_get hrow (by simp [ownA, ownT, hga])
  have hndE := hG.ownE_nodup hl
  have hAB : A.block ≠ B.block := by
    intro hc
    simp only [ownE, blk, hgB] at hndE
    exact nodup_apart hndE (x := B.block) (by simp) (hc ▸ hAin)
  have hAS : A.block ∈ ownS S := look_own hl _ (by simp [ownE, hAin])
  have hBS : B.block ∈ ownS S := look_own hl _ (by simp [ownE, blk, hgB])
  have hrows : HasRows cs A.off wd (erRows rowsH) := by
    intro i row' hi
    rw [erRows_get] at hi
    cases hri : rowsH[i]? with
    | none => simp [hri] at hi
    | some rH =>
      simp only [hri, Option.map_some, Option.some.injEq] at hi
      subst hi
      obtain ⟨k1, k2⟩ := c3 i rH hri
      refine ⟨by rw [erRow_map, List.length_map]; exact k1, fun j c hj => ?_⟩
      rw [erRow_map, List.getElem?_map] at hj
      cases hrj : rH[j]? with
      | none => simp [hrj] at hj
      | some tH =>
        simp only [hrj, Option.map_some, Option.some.injEq] at hj
        subst hj
        obtain ⟨v, k3, k4⟩ := k2 j tH hrj
        have hm1 : erRow rH ∈ erRows rowsH := by rw [erRows_map]; exact List.mem_map.2 ⟨rH, List.mem_of_getElem? hri, rfl⟩
        have hm2 : erT tH ∈ erRow rH := by rw [erRow_map]; exact List.mem_map.2 ⟨tH, List.mem_of_getElem? hrj, rfl⟩
        exact ⟨v, k3, isU_of (List.all_eq_true.1 (List.all_eq_true.1 r9 _ hm1) _ hm2) (List.all_eq_true.1 (List.all_eq_true.1 r10 _ hm1) _ hm2) k4⟩
  have hcalls := hC w B A gx.cap cs bcells e be hAB A1 A2 a3 (by rw [hga] at v1; exact v1) c1 c2' hrows
  have hargs : c.args.map a.eval ++ #[] = #[.iface ti (.slice (some A) rowsH.length gx.cap), .func (.func g) #[] #[.pointer (some ⟨B.block, B.off, none⟩)]] := by
    have h1 : c.args = #[x, y] := by
      apply Array.ext'
      rw [← has]; rfl
    have h2 : vsy = #[.pointer (some ⟨B.block, B.off, none⟩)] := by
      apply Array.ext'
      rw [hp1, b2]; rfl
    rw [h1, ← hga, ← h2, ← hux, ← hvy]
    simp
  split at hk
  case h_2 => exact hk.elim
  rename_i U htake
  obtain ⟨S', v, t1, t2, t3, _⟩ := gaveV_one hG hc0 (V := []) (by simp) htake
  subst t1
  unfold Oper.wp
  rw [call_run hop hcal hf1 hent w, hargs]
  simp only [Oper.upon_enter]
  refine Calls.mono hcalls fun ex w' h => ?_
  cases ex with
  | panicked ch => exact h.elim
  | outgrown => exact h.elim
  | returned vr =>
    obtain ⟨rfl, hos, htp, hout, hsz, hblk, cells', d1, d2, d3⟩ := h
    simp only
    have hiT : (⟨q, .sl .own gx wd rowsH, v⟩ : VI) ∈ [(⟨q, .sl .own gx wd rowsH, v⟩ : VI)] := by simp
    have hnA : A.block ∉ ownS S' := (t3.inn _ hiT A.block (by simp [ownT, hga])).2
    have hzA : ¬ Z.b A.block := (hG.zn _ hAS).1
    have hG' : Good Z S' a w' := t2.frame (fun b hb => by
        rcases hb with hb | hb
        · exact hblk b (t2.zn b hb).2 (fun hc => hnA (hc ▸ hb))
        · exact hblk b (t2.zb b hb) (fun hc => hzA (hc ▸ hb))) hsz (fun _ _ _ => rfl)
    have hat : At a w' S' q v := by
      rcases t3.at_ _ hiT with ⟨B1, row1, m1, m2⟩ | hat
      · refine .inl ⟨B1, row1, m1, ?_⟩
        have hB1 : B1.block ∈ ownS S' := by
          simp only [rowAddrS] at m1
          cases hl1 : look S' q.root with
          | none => simp [hl1] at m1
          | some e1 => simp only [hl1] at m1; exact look_own hl1 _ (rowAddrE_own (t2.ent _ _ hl1) m1)
        rw [cell_same (hblk B1.block (t2.zn _ hB1).2 (fun hc => hnA (hc ▸ hB1)))]
        exact m2
      · exact .inr hat
    have hmem : memT w' Z true (.sl .own gx wd (upRows rows')) := by
      refine ⟨⟨fun hh => by rw [hga] at hh; simp at hh, fun A' hA' => ?_⟩, fun _ => rfl, mem_upRows ..⟩
      rw [hga] at hA'; simp only [Option.some.injEq] at hA'; subst hA'
      refine ⟨A1, by rw [upRows, List.length_map, hlen]; exact A2, A3, cells', e, (0, 0), d1, fun _ => ⟨rfl, by rw [d2]; exact c2'⟩, fun i r hi => ?_⟩
      simp only [upRows, List.getElem?_map] at hi
      cases hri : rows'[i]? with
      | none => simp [hri] at hi
      | some r0 =>
        simp only [hri, Option.map_some, Option.some.injEq] at hi
        subst hi
        obtain ⟨k1, k2⟩ := d3 i r0 hri
        refine ⟨by simpa using k1, fun j c hj => ?_⟩
        simp only [List.getElem?_map] at hj
        cases hrj : r0[j]? with
        | none => simp [hrj] at hj
        | some tc =>
          simp only [hrj, Option.map_some, Option.some.injEq] at hj
          subst hj
          obtain ⟨v, k3, k4⟩ := k2 j tc hrj
          exact ⟨v, k3, isT_up k4⟩
    have hown : ownT (.sl .own gx wd (upRows rows') : Tr Hd) = [A.block] := by simp [ownT, hga, own_upRows]
    have hk' : vbackTo (erS S') (([⟨q, .sl .own gx wd rowsH, v⟩] : List VI).map (·.q)) (([.sl .own gx wd (upRows rows')] : List (Tr Hd)).map erT) (fun S2 => K ⟨putR S2.s o.dst (.tmp (.tup []))⟩) := by
      simp only [List.map_cons, List.map_nil, erT, er_upRows hfl']
      exact hk
    obtain ⟨S6, y1, y2, y3, y4⟩ := vbackTo_ok (S0 := S) hG' hk' (fun i hi => by simp at hi; subst hi; exact ⟨hat, (t3.ok _ hiT).2.2⟩)
      (fun m i t hi ht => by
        cases m with
        | succ m => simp at hi
        | zero =>
          simp at hi ht; subst hi ht
          exact ⟨.inr (by simp [hdT, upRows, hlen]), hmem⟩)
      (by simp [hown]) (fun b hb => by
        simp [hown] at hb; subst hb
        exact ⟨hzA, Nat.lt_of_lt_of_le (hG.zn _ hAS).2 hsz, hnA⟩)
      t3.less.vir (fun i hi t1 h1 _ hst => t3.vir i hi t1 h1 hst)
    have hFr : Fr S w S6 w' := by
      refine ⟨hos, htp, hout, hsz, fun b hb1 hb2 => hblk b hb1 (fun hc => hb2 (hc ▸ hAS)), fun b hb => ?_, fun d g cs1 A9 cells e9 hl9 hg9 hc9 => ?_, y4⟩
      · rcases y3.own b hb with hb | hb
        · exact .inl (t3.less.own b hb)
        · simp [hown] at hb; subst hb; exact .inl hAS
      · have hin : A9.block ∈ ownE (.box g cs1 : Ent Hd) := by simp [ownE, blk, hg9]
        have hne9 : A9.block ≠ A.block := by
          intro hc
          by_cases hd9 : d = q.root
          · subst hd9
            rw [hl] at hl9; simp only [Option.some.injEq, Ent.box.injEq] at hl9
            obtain ⟨rfl, rfl⟩ := hl9
            rw [hgB] at hg9; simp only [Option.some.injEq] at hg9; subst hg9
            exact hAB hc.symm
          · exact look_ne hG.nd hl9 hl hd9 A9.block hin (by rw [hc]; simp [ownE, hAin])
        refine ⟨⟨cells, ?_, rfl, fun _ _ => rfl⟩, ?_⟩
        · rw [hblk A9.block (hG.zn _ (look_own hl9 _ hin)).2 hne9]; exact hc9
        · obtain ⟨cs4, l4, n4⟩ := t3.less.box d g cs1 hl9
          obtain ⟨cs6, l6, n6⟩ := y3.box d g cs4 l4
          exact .inl ⟨cs6, l6, by omega⟩
    cases hdst : o.dst with
    | none =>
      rw [hdst] at y2
      exact ⟨S6, y1, y2, hf.trans hFr, hs, hrest⟩
    | some d =>
      rw [hdst] at y2
      have hd' := hd d hdst
      obtain ⟨g1, g2, g3⟩ := put_lands (Z := Z) (S := S6) (a := a) (d := d) (e := .tmp (.tup [])) (val := .tuple #[]) y1 (.refl S6) (fun _ _ => rfl) rfl rfl rfl (Nat.le_refl _) ⟨⟨#[], put_tmp_eq a d (.tuple #[]) (by rw [hs]; exact hd'.1), by simp [IsL]⟩, trivial⟩ (by simp [ownE, ownA, ownAL]) (by simp [ownE, ownA, ownAL]) (by simp [ownE, ownA, ownAL]) (by simp [ownE, ownA, ownAL]) trivial
      exact ⟨_, g1, by rw [g2]; exact y2, hf.trans (hFr.trans g3), by rw [put_size]; exact hs, rest_put hrest (fun x hx => (hd x (by rw [hdst]; exact hx)).2) _⟩
end Go.HT
end
section
namespace Go.HT
open Go
variable {P : Program} {md : Modes} {Z : Zone} {S0 : St Hd} {w0 : World} {n : Nat} {pn : Nat → Option Value}

theorem callOf_ok {o : Oper} {f : Operand} {as : List (Operand × TypeId)} (h : callOf o = some (f, as)) : ∃ c, o.op = .call c ∧ c.callee = .value f ∧ as.map (·.1) = c.args.toList ∧ as.length = c.args.size := by
  unfold callOf at h
  split at h
  · rename_i c hop
    split at h
    · rename_i f' hc
      split at h
      · rename_i hs
        simp only [Option.some.injEq, Prod.mk.injEq] at h
        obtain ⟨rfl, rfl⟩ := h
        refine ⟨c, hop, hc, ?_, ?_⟩
        · rw [List.map_fst_zip]; simp [hs]
        · simp [hs]
      · simp at h
    · simp at h
  · simp at h
theorem noBo_all {outs : List (List UV)} (h : (outs.all noBoL) = true) {m : Nat} {o : List UV} (ho : outs[m]? = some o) : noBoL o = true := List.all_eq_true.1 h o (List.mem_of_getElem? ho)
theorem noBoRow_get : ∀ {l : List UT} {m : Nat} {t : UT}, noBoRow l = true → l[m]? = some t → noBoT t = true
  | t :: r, 0, t', h, he => by simp at he; subst he; simp only [noBoRow, Bool.and_eq_true] at h; exact h.1
  | t :: r, m + 1, t', h, he => by simp only [noBoRow, Bool.and_eq_true] at h; exact noBoRow_get h.2 (by simpa using he)
theorem boxesN_er : ∀ E : List (Ent Hd), boxesN (E.map erE) = (E.filter isBox).length
  | [] => rfl
  | .box g cs :: E => by rw [filt_box]; simp [erE, boxesN, boxesN_er E]
  | .tmp v :: E => by rw [filt_tmp]; simp [erE, boxesN, boxesN_er E]
  | .vir v :: E => by rw [filt_vir]; simp [erE, boxesN, boxesN_er E]
theorem ownE_999 {e : Ent Hd} {m1 m2 : St Hd} : ownS (m1 ++ ((999, e) :: m2)) = ownS m1 ++ (ownE e ++ ownS m2) := by rw [ownS_append]; rfl
theorem er_split {S' : St Hd} {l1 l2 : US} {e : Nat × UE} (h : erS S' = l1 ++ e :: l2) : ∃ m1 e' m2, S' = m1 ++ (e.1, e') :: m2 ∧ erS m1 = l1 ∧ erE e' = e.2 ∧ erS m2 = l2 := by
  unfold erS at h
  obtain ⟨m1, r, rfl, h1, h2⟩ := List.map_eq_append_iff.1 h
  cases r with
  | nil => simp at h2
  | cons x m2 =>
    simp only [List.map_cons, List.cons.injEq] at h2
    obtain ⟨h2, h3⟩ := h2
    obtain ⟨k, e'⟩ := x
    rw [← h2]
    exact ⟨m1, e', m2, rfl, h1, rfl, h3⟩
theorem call_ok : CallOk P md Z S0 w0 n pn := by
  intro o f as fid caps K Q a w S hc hd he hv hG hf hs hrest
  obtain ⟨c, hop, hcal, has, hlen⟩ := callOf_ok hc
  obtain ⟨v', e1, e2, e3, e4, _, _⟩ := ev_ok hG he
  obtain ⟨capsH, rfl, hcaps⟩ := erA_fn e1
  obtain ⟨vs, hf1, hf2⟩ := e2
  subst hcaps
  unfold vcCall at hv
  split at hv
  · rename_i h4
    obtain ⟨hc0, hv⟩ := hv
    have hvs : vs = #[] := by
      cases capsH with
      | cons x r => simp [erL] at hc0
      | nil => exact Array.ext' (by simpa [IsL] using hf2)
    subst hvs
    refine Oper.wp_mono (fun a' w' h => ⟨h, fun hq b hb => ?_⟩) (sort_ok hop hcal has hd hf1 hv hG hf hs hrest)
    exfalso
    have hpos : 0 < c.args.size := by
      rw [← hlen]
      cases as with
      | nil => exact absurd hv (by simp [vcSort, sortArgs])
      | cons => simp
    unfold quietC at hq
    rw [hop] at hq
    simp only [hcal] at hq
    split at hq
    · rename_i f' hcf
      have hfe : f = .func f' := by simpa using hcf
      subst hfe
      simp [ev] at he
      obtain ⟨rfl, he2⟩ := he
      have := List.all_eq_true.1 hq 0 (by rw [List.mem_range]; exact hpos)
      simp [h4] at this
    · simp at hq
  rename_i h4
  split at hv
  case h_2 => exact hv.elim
  rename_i p hp
  obtain ⟨r, outs, vouts, hcall, hback⟩ := hv
  have hvals : (c.args.map a.eval ++ vs).toList = as.map (fun xt => a.eval xt.1) ++ vs.toList := by
    have : as.map (fun xt => a.eval xt.1) = (as.map (·.1)).map a.eval := by simp
    rw [this, has]; simp
  obtain ⟨S4, E, L, T, Z', G, p1, p2, p3, p4, p5, R, hquiet⟩ := prep_ok hG hf2 e4 hvals hp
  obtain ⟨⟨q1, q2, q3, q4, q5, q6, q7⟩, hcalls⟩ := hcall
  rw [← p1] at q6 q7 hcalls
  rw [← p2] at q5 hcalls
  have hE : E.length < 999 := by simpa using q7
  have hstart := R.start hE
  have hT : T.map (fun i => erT i.t) = (T.map (·.t)).map erT := by simp
  rw [hT] at hcalls
  have hC := hcalls Z' w (c.args.map a.eval ++ vs) (start E (T.map (·.t))) (start_er _ _) (by rw [R.size]; simp) hstart
  unfold Oper.wp
  rw [call_run hop hcal hf1 q1 w]
  simp only [Oper.upon_enter]
  refine Calls.mono hC fun e w' h => ?_
  cases e with
  | panicked ch => exact h.elim
  | outgrown => exact h.elim
  | returned v =>
    obtain ⟨S', a', g1, g2, g3, g4, g5⟩ := h
    simp only
    -- what the callee leaves
    obtain ⟨m1, r', m2, hS', h1, h2, h3⟩ := er_split g2
    simp only at h2
    obtain ⟨X, x1, x2, x3, x4⟩ := outU_inv h1 (by rw [q6])
    obtain ⟨TS, t1, t2⟩ := initV_inv h3
    subst x1 t1
    have hXL : X.length = L.length := by rw [x3, R.boxes]; simp
    have hnd := g1.nd
    have hownS' : ownS S' = ownS (X.map BX.ent) ++ (ownE r' ++ ownS (initVH 1000 TS)) := by rw [hS', ownE_999]
    have hndP : (((X.flatMap fun x => blk x.g) ++ (X.flatMap fun x => ownAL x.c)) ++ (ownE r' ++ TS.flatMap ownT)).Nodup := by
      rw [hownS', ownS_X, ownS_initVH] at hnd
      exact ((flat_perm X).append_right _).nodup_iff.1 hnd
    have hmem : ∀ b, b ∈ ((X.flatMap fun x => blk x.g) ++ (X.flatMap fun x => ownAL x.c)) ++ (ownE r' ++ TS.flatMap ownT) → b ∈ ownS S' := fun b hb => by
      rw [hownS', ownS_X, ownS_initVH]
      exact ((flat_perm X).append_right _).mem_iff.2 hb
    have hlookX : ∀ x ∈ X, look S' x.k = some (.box x.g x.c) := fun x hx => by
      have := look_mem g1.sorted (x := (x.k, .box x.g x.c)) (by rw [hS']; exact List.mem_append.2 (.inl (List.mem_map.2 ⟨x, hx, rfl⟩)))
      exact this
    have hlookR : look S' 999 = some r' := look_mem g1.sorted (x := (999, r')) (by rw [hS']; simp)
    have hlookT : ∀ m t, TS[m]? = some t → look S' (1000 + m) = some (.vir t) := fun m t ht => by
      have : (1000 + m, Ent.vir t) ∈ initVH 1000 TS := mem_initVH 1000 TS m t ht
      exact look_mem g1.sorted (x := (1000 + m, .vir t)) (by rw [hS']; simp [this])
    -- boxes of the caller and of the callee
    have hXi : ∀ (j : Nat) x i, X[j]? = some x → L[j]? = some i → x.g = i.g ∧ x.c.length = i.cs.length ∧ E[x.k]? = some i.ent := by
      intro j x i hx hi
      obtain ⟨_, y2⟩ := x4 j x i.ent hx (by rw [R.boxes, List.getElem?_map, hi]; rfl)
      have y3 : E[x.k]? = some i.ent := by simpa using y2
      have hk : x.k < E.length := (List.getElem?_eq_some_iff.1 y3).1
      obtain ⟨cs', k1, k2⟩ := g4 x.k i.g i.cs (by rw [look_start hE, if_pos (by omega)]; exact y3)
      rw [hlookX x (List.mem_of_getElem? hx)] at k1
      simp at k1
      exact ⟨k1.1, by rw [k1.2]; exact k2, y3⟩
    have hzs := R.zs
    have hzb := R.zb
    have hnZ : ∀ b ∈ ownS S', ¬ Z.b b ∧ b < w'.heap.size := fun b hb => ⟨fun hc => (g1.zn b hb).1 (hzb b hc), (g1.zn b hb).2⟩
    have hblkX : ∀ i ∈ L, ∀ b ∈ blk i.g, b ∈ X.flatMap fun x => blk x.g := fun i hi b hb => by
      obtain ⟨j, hj⟩ := List.getElem?_of_mem hi
      have hjX : j < X.length := by rw [hXL]; exact (List.getElem?_eq_some_iff.1 hj).1
      obtain ⟨k1, _⟩ := hXi j X[j] i (List.getElem?_eq_getElem hjX) hj
      exact List.mem_flatMap.2 ⟨X[j], List.getElem_mem hjX, by rw [k1]; exact hb⟩
    have hfresh : ∀ b, b ∈ (X.flatMap fun x => ownAL x.c) ++ (ownE r' ++ TS.flatMap ownT) → b ∉ ownS S4 := fun b hb hc => by
      have hbS' : b ∈ ownS S' := hmem b (by rw [List.append_assoc]; exact List.mem_append.2 (.inr hb))
      have hlt := (R.good.zn b hc).2
      rcases g5.own b hbS' with h | h
      · obtain ⟨i, hi, hbi⟩ := R.G4 b hc (R.own b h)
        rw [List.append_assoc] at hndP
        exact nodup_apart hndP (hblkX i hi b hbi) hb
      · omega
    have hsame : ∀ b, b < w.heap.size → b ∉ G → w'.heap[b]? = w.heap[b]? := fun b hb hn => g5.block b hb fun hc => hn (R.own b hc)
    have hentX : ∀ x ∈ X, noBoL (erL x.c) = true ∧ entOk a' w' Z x.k (.box x.g x.c) ∧ ∀ S, refOkE S (.box x.g x.c) := fun x hx => by
      have hn : noBoL (erL x.c) = true := List.all_eq_true.1 q3 _ (by rw [x2]; exact List.mem_map.2 ⟨x, hx, rfl⟩)
      obtain ⟨k1, k2⟩ := entOk_zone hzs hzb (g1.ent _ _ (hlookX x hx)) (by simpa [erE, noBoR] using hn)
      exact ⟨hn, k1, k2⟩
    have hG4' : Good Z S4 a w' := by
      refine R.good.shells (G := G) (L := L) g5.size hsame (fun b hb => R.zG b (hzb b hb)) (fun b hb hg => R.G4 b hb hg) R.shell (fun i hi A hA => ?_)
      obtain ⟨j, hj⟩ := List.getElem?_of_mem hi
      have hjX : j < X.length := by rw [hXL]; exact (List.getElem?_eq_some_iff.1 hj).1
      obtain ⟨k1, k2, _⟩ := hXi j X[j] i (List.getElem?_eq_getElem hjX) hj
      obtain ⟨_, ⟨_, A', m2, m3, cells, e, m4, m5, _⟩, _⟩ := hentX X[j] (List.getElem_mem hjX)
      rw [k1, hA] at m2; simp at m2; subst m2
      exact ⟨cells, e, m4, by rw [← k2]; exact m5⟩
    -- boxes are laid back
    have hbs : L.map (·.r) = p.bs := p3
    have houts : outs = (X.map (·.c)).map erL := by rw [x2]; simp
    rw [← p5, ← p3, houts] at hback
    have hflat : ∀ X : List BX, (X.map (·.c)).flatMap ownAL = X.flatMap fun x => ownAL x.c := fun X => by simp [List.flatMap_map]
    have hN : ((X.flatMap fun x => ownAL x.c) ++ (ownE r' ++ TS.flatMap ownT)).Nodup := by
      rw [List.append_assoc] at hndP; exact nodup_append_right hndP
    have hNz : ∀ b ∈ (X.flatMap fun x => ownAL x.c) ++ (ownE r' ++ TS.flatMap ownT), ¬ Z.b b ∧ b < w'.heap.size ∧ b ∉ ownS S4 := fun b hb =>
      ⟨(hnZ b (hmem b (by rw [List.append_assoc]; exact List.mem_append.2 (.inr hb)))).1, (hnZ b (hmem b (by rw [List.append_assoc]; exact List.mem_append.2 (.inr hb)))).2, hfresh b hb⟩
    obtain ⟨S5, u1, u2, u3, u4⟩ := backTo_ok hG4' hback R.shell R.roots (fun m i c hi hc => by
        rw [List.getElem?_map] at hc
        cases hx : X[m]? with
        | none => simp [hx] at hc
        | some x =>
          simp [hx] at hc; subst hc
          obtain ⟨k1, k2, _⟩ := hXi m x i hx hi
          obtain ⟨_, ⟨_, A', m2, m3, m4⟩, m5⟩ := hentX x (List.mem_of_getElem? hx)
          refine ⟨k2, fun A hA => ?_, fun S => m5 S⟩
          rw [k1, hA] at m2; simp at m2; subst m2; exact m4)
      (by rw [hflat]; exact nodup_append_left hN) (fun b hb => hNz b (by rw [hflat] at hb; simp [hb]))
    rw [hflat] at u3
    -- slices are laid back
    have hatw : ∀ i ∈ T, At a w' S4 i.q i.v ∧ IsT i.t i.v := fun i hi => by
      obtain ⟨k1, k2⟩ := R.at_ i hi
      refine ⟨?_, k2⟩
      rcases k1 with ⟨B, row, m1, m2⟩ | k1
      · refine .inl ⟨B, row, m1, ?_⟩
        have hB : B.block ∈ slotB S4 i.q.root := by
          simp only [rowAddrS] at m1
          simp only [slotB]
          cases hl : look S4 i.q.root with
          | none => simp [hl] at m1
          | some e => simp only [hl] at m1; exact rowAddrE_own (R.good.ent _ _ hl) m1
        have hBin : B.block ∈ ownS S4 := by
          simp only [slotB] at hB
          cases hl : look S4 i.q.root with
          | none => simp [hl] at hB
          | some e => simp only [hl] at hB; exact look_own hl _ hB
        rw [cell_same (hsame B.block (R.good.zn _ hBin).2 fun hg => ?_)]
        · exact m2
        · obtain ⟨j, hj, hbj⟩ := R.G4 _ hBin hg
          have : B.block ∈ slotB S4 j.r := by simp only [slotB, R.shell j hj, ownE]; simp [hbj]
          exact R.root i hi j hj (slotB_ne R.good hB this)
      · exact .inr k1
    have hat5 : ∀ i ∈ T, At a w' S5 i.q i.v ∧ IsT i.t i.v := fun i hi => ⟨(hatw i hi).1.same u3.kind (fun B row ha => u3.addr _ _ B row ha), (hatw i hi).2⟩
    have hv4 : VirOk S S4 := R.less.vir
    have hv5 : VirOk S S5 := by
      intro d t' hl
      have hne : d ∉ L.map (·.r) := by
        intro hc
        obtain ⟨i, hi, rfl⟩ := List.mem_map.1 hc
        obtain ⟨cs', k1, _⟩ := u3.box _ _ _ (R.shell i hi)
        rw [hl] at k1; simp at k1
      rw [u4 d hne] at hl
      exact hv4 d t' hl
    rw [t2, ← p4] at u2
    have hTL : TS.length = T.length := by
      have := q5
      rw [t2] at this
      simpa using this
    obtain ⟨S6, y1, y2, y3, y4⟩ := vbackTo_ok (S0 := S) u1 u2 hat5 (fun m i t hi ht => by
        have hlt : m < T.length := (List.getElem?_eq_some_iff.1 hi).1
        have k1 : look (start E (T.map (·.t))) (1000 + m) = some (.vir i.t) := by
          rw [look_start hE, if_neg (by omega), show 1000 + m - 1000 = m by omega, List.getElem?_map, hi]; rfl
        obtain ⟨t0, k2, k3⟩ := g5.vir _ _ (hlookT m t ht)
        rw [k1] at k2; simp at k2; subst k2
        refine ⟨k3, memT_zone hzs hzb true t (g1.ent _ _ (hlookT m t ht)) (noBoRow_get (m := m) q4 (by rw [t2, List.getElem?_map, ht]; rfl))⟩)
      (nodup_append_right (nodup_append_right hN)) (fun b hb => by
        obtain ⟨k1, k2, k3⟩ := hNz b (by simp [hb])
        refine ⟨k1, k2, fun hc => ?_⟩
        rcases u3.own b hc with hc | hc
        · exact k3 hc
        · exact nodup_apart hN hc (by simp [hb]))
      hv5 (fun i hi t0 h1 h2 hst => R.vir i hi t0 h1 (by obtain ⟨t, ht⟩ := h2; exact u3.vir _ _ ht) hst)
    -- the result
    have hlaid := u3.trans y3
    obtain ⟨rk1, rk2⟩ := entOk_zone hzs hzb (g1.ent _ _ hlookR) (by rw [h2]; exact q2)
    have hr6 : ∀ b ∈ ownE r', b ∉ ownS S6 := fun b hb hc => by
      rcases hlaid.own b hc with hc | hc
      · exact hfresh b (by simp [hb]) hc
      · rcases List.mem_append.1 hc with hc | hc
        · exact nodup_apart hN hc (by simp [hb])
        · exact nodup_apart (nodup_append_right hN) hb hc
    have hrnv : ∀ t, r' ≠ .vir t := by rintro t rfl; rw [← h2] at q2; simp [erE, noBoR] at q2
    have hFr : ∀ S7 : St Hd, (∀ b ∈ ownS S7, b ∈ ownS S6 ∨ b ∈ ownE r') → (∀ d g cs, look S6 d = some (.box g cs) → (∃ cs', look S7 d = some (.box g cs') ∧ cs'.length = cs.length) ∨ ∀ A, g.a = some A → A.block ∉ ownS S7) → VirOk S6 S7 → Fr S w S7 w' := by
      intro S7 ho hb hvv
      refine ⟨g5.os, g5.tape, g5.output, g5.size, fun b hb1 hb2 => hsame b hb1 fun hg => hb2 (R.Gin b hg), fun b hb1 => ?_, fun d g cs A cells e hl hg hcl => ?_, y4.trans hvv⟩
      · have hN' : b ∈ ownS S' → b ∈ ownS S ∨ w.heap.size ≤ b := fun h => (g5.own b h).imp (fun h => R.Gin b (R.own b h)) id
        rcases ho b hb1 with h | h
        · rcases hlaid.own b h with h | h
          · exact .inl (R.less.own b h)
          · refine hN' (hmem b ?_)
            rcases List.mem_append.1 h with h | h <;> simp [h]
        · exact hN' (hmem b (by simp [h]))
      · obtain ⟨cs4, l4, n4⟩ := R.less.box d g cs hl
        obtain ⟨cs6, l6, n6⟩ := hlaid.box d g cs4 l4
        refine ⟨?_, ?_⟩
        · by_cases hdL : ∃ i ∈ L, i.r = d
          · obtain ⟨i, hi, rfl⟩ := hdL
            rw [R.shell i hi] at l4
            simp at l4
            obtain ⟨rfl, rfl⟩ := l4
            obtain ⟨j, hj⟩ := List.getElem?_of_mem hi
            have hjX : j < X.length := by rw [hXL]; exact (List.getElem?_eq_some_iff.1 hj).1
            obtain ⟨_, _, k3⟩ := hXi j X[j] i (List.getElem?_eq_getElem hjX) hj
            have hk : X[j].k < E.length := (List.getElem?_eq_some_iff.1 k3).1
            obtain ⟨⟨cells', c1, c2, c3⟩, _⟩ := g5.box X[j].k i.g i.cs A cells e (by rw [look_start hE, if_pos (by omega)]; exact k3) hg hcl
            refine ⟨cells', c1, c2, fun o ho => c3 o ?_⟩
            have : i.cs.length = cs.length := by simpa [undefsH] using n4
            rw [this]; exact ho
          · refine ⟨cells, ?_, rfl, fun _ _ => rfl⟩
            have hin4 : A.block ∈ ownS S4 := look_own l4 _ (by simp [ownE, blk, hg])
            rw [hsame A.block (R.good.zn _ hin4).2 fun hgG => ?_]
            · exact hcl
            · obtain ⟨j, hj, hbj⟩ := R.G4 _ hin4 hgG
              exact look_ne R.good.nd l4 (R.shell j hj) (fun hh => hdL ⟨j, hj, hh.symm⟩) A.block (by simp [ownE, blk, hg]) (by simp [ownE, hbj])
        · rcases hb d g cs6 l6 with ⟨cs7, k1, k2⟩ | k1
          · exact .inl ⟨cs7, k1, by omega⟩
          · exact .inr (k1 A hg)
    refine ⟨?_, fun hq b hb => ?_⟩
    · cases hdst : o.dst with
      | none =>
        rw [hdst] at y2
        exact ⟨S6, y1, y2, hf.trans (hFr S6 (fun b h => .inl h) (fun d g cs h => .inl ⟨cs, h, rfl⟩) (.refl S6)), hs, hrest⟩
      | some d =>
        rw [hdst] at y2
        have hd' := hd d hdst
        have hval : a'.tmps.getD 999 undef = v := g3
        have hent : entOk (a.put (some d) v) w' Z d r' := by
          have hp := put_tmp_eq a d v (by rw [hs]; exact hd'.1)
          cases r' with
          | tmp u => exact ⟨by rw [hp, ← hval]; exact rk1.1, rk1.2⟩
          | box g cs => exact ⟨by rw [hp, ← hval]; exact rk1.1, rk1.2⟩
          | vir t => exact absurd rfl (hrnv t)
        have hrr : refOkE S6 r' := rk2 S6
        have hrn : (ownE r').Nodup := nodup_append_left (nodup_append_right hN)
        have hgood := y1.putE (a' := a.put (some d) v) (w' := w') d r' (fun _ _ => rfl) (Nat.le_refl _) (fun d' e' hne _ => put_tmp_ne a d d' v hne) (entOk_poi _ hent) hrn
          (fun b hb => hnZ b (hmem b (by simp [hb]))) (fun b hb hc => hr6 b hb (sub_put y1.sorted d hc)) hrr
        obtain ⟨rest, pp1, pp2⟩ := put_perm S6 d y1.sorted
        have pe : (ownS (put (poi (badRoot d) S6) d (r'.poi (badRoot d)))).Perm (ownE r' ++ rest) := by
          rw [ownS_put_poi]; exact (pp2 _).trans (by rw [ownE_poi])
        have y2' : K ⟨erS (put (poi (badRoot d) S6) d (r'.poi (badRoot d)))⟩ := by
          rw [← putP_er y1 d r' hrr, h2]; exact y2
        refine ⟨_, hgood, y2', hf.trans (hFr _ (fun b hb => ?_) (fun d0 g cs h => ?_) ((virOk_poi _ _).trans (virOk_put _ _ _ (poi_not_vir hrnv)))), by rw [put_size]; exact hs, rest_put hrest (fun x hx => (hd x (by rw [hdst]; exact hx)).2) v⟩
        · rcases List.mem_append.1 (pe.mem_iff.1 hb) with hb | hb
          · exact .inr hb
          · exact .inl (pp1.mem_iff.2 (by simp [hb]))
        · by_cases hd0 : d0 = d
          · right
            subst hd0
            intro A hg hn
            have hin : A.block ∈ ownE (.box g cs : Ent Hd) := by simp [ownE, blk, hg]
            rcases List.mem_append.1 (pe.mem_iff.1 hn) with hb | hb
            · exact hr6 _ hb (look_own h _ hin)
            · have := pp1.nodup_iff.1 y1.nd
              simp only [oldE, h] at this
              exact nodup_apart this hin hb
          · left
            exact ⟨poiL (badRoot d) cs, by rw [look_put, if_neg hd0, look_poi, h]; rfl, by rw [poiL_map]; simp⟩
    · have hG0 : G = [] := by
        unfold quietC at hq
        rw [hop] at hq
        simp only [hcal] at hq
        split at hq
        · rename_i f' hcf
          have hfe : f = .func f' := by simpa using hcf
          subst hfe
          simp [ev] at he
          obtain ⟨rfl, he2⟩ := he
          refine hquiet (fun i hi => ?_) ?_
          · have := List.all_eq_true.1 hq i (by rw [List.mem_range]; omega)
            simpa using this
          · cases capsH with
            | nil => rfl
            | cons x r => simp [erL] at he2
        · simp at hq
      exact hsame b hb (by rw [hG0]; simp)
where
  mem_initVH : ∀ (k : Nat) (TS : List (Tr Hd)) (m : Nat) (t : Tr Hd), TS[m]? = some t → (k + m, Ent.vir t) ∈ initVH k TS
    | k, [], m, t, h => by simp at h
    | k, t0 :: r, 0, t, h => by simp at h; subst h; simp [initVH]
    | k, t0 :: r, m + 1, t, h => by
      have := mem_initVH (k + 1) r m t (by simpa using h)
      simp only [initVH, List.mem_cons]
      right
      rwa [show k + (m + 1) = k + 1 + m by omega]
end Go.HT
end
section
namespace Go.HT
open Go
variable {P : Program} {md : Modes} {Z : Zone} {S S0 : St Hd} {a : Act} {w w0 : World}

/-! ### States with sorted keys, by what lies where -/
theorem look_of_sorted {G : Type} {S : St G} (h : S.Pairwise fun x y => x.1 < y.1) {x : Nat × Ent G} (hx : x ∈ S) : look S x.1 = some x.2 := look_mem h hx
theorem mem_of_look {G : Type} : ∀ {S : St G} {d : Nat} {e : Ent G}, look S d = some e → (d, e) ∈ S
  | (k, e') :: r, d, e, h => by
    simp only [look] at h
    split at h
    · rename_i hk; simp at h; subst hk h; simp
    · exact List.mem_cons_of_mem _ (mem_of_look h)
theorem sorted_ext {G : Type} : ∀ {S S' : St G}, (S.Pairwise fun x y => x.1 < y.1) → (S'.Pairwise fun x y => x.1 < y.1) → (∀ d, look S d = look S' d) → S = S'
  | [], [], _, _, _ => rfl
  | [], (k, e) :: r, _, _, h => by have := h k; simp [look] at this
  | (k, e) :: r, [], _, _, h => by have := h k; simp [look] at this
  | (k, e) :: r, (k', e') :: r', h1, h2, h => by
    have p1 := List.pairwise_cons.1 h1
    have p2 := List.pairwise_cons.1 h2
    have hkk : k = k' := by
      rcases Nat.lt_trichotomy k k' with hlt | heq | hgt
      · have := h k
        simp only [look, if_pos] at this
        rw [if_neg (by omega), look_none_of_lt fun x hx => Nat.lt_trans hlt (p2.1 x hx)] at this
        simp at this
      · exact heq
      · have := h k'
        simp only [look, if_pos] at this
        rw [if_neg (by omega), look_none_of_lt fun x hx => Nat.lt_trans hgt (p1.1 x hx)] at this
        simp at this
    subst hkk
    have he : e = e' := by have := h k; simpa [look] using this
    subst he
    congr 1
    refine sorted_ext p1.2 p2.2 fun d => ?_
    have := h d
    simp only [look] at this
    by_cases hd : k = d
    · subst hd
      rw [look_none_of_lt fun x hx => p1.1 x hx, look_none_of_lt fun x hx => p2.1 x hx]
    · rwa [if_neg hd, if_neg hd] at this
theorem erS_sorted {S : St Hd} (h : S.Pairwise fun x y => x.1 < y.1) : (erS S).Pairwise fun x y => x.1 < y.1 := by
  unfold erS
  rw [List.pairwise_map]
  exact h
def boxAt (args : List UE) (d : Nat) : Bool := match args[d]? with
  | some (.box _ _) => true
  | _ => false
theorem keys_outU : ∀ {args : List UE} {i : Nat} {outs : List (List UV)} {x : Nat × UE}, x ∈ outU i args outs → i ≤ x.1 ∧ x.1 < i + args.length
  | [], i, outs, x, h => by cases outs <;> simp [outU] at h
  | e :: r, i, outs, x, h => by
    cases e with
    | box g cs =>
      cases outs with
      | nil =>
        simp only [outU] at h
        have := keys_outU (args := r) h
        simp; omega
      | cons o outs =>
        simp only [outU, List.mem_cons] at h
        rcases h with rfl | h
        · simp
        · have := keys_outU (args := r) h; simp; omega
    | tmp v => simp only [outU] at h; have := keys_outU (args := r) h; simp; omega
    | vir v => simp only [outU] at h; have := keys_outU (args := r) h; simp; omega
theorem sorted_outU : ∀ {args : List UE} {i : Nat} {outs : List (List UV)}, (outU i args outs).Pairwise fun x y => x.1 < y.1
  | [], i, outs => by cases outs <;> simp [outU]
  | e :: r, i, outs => by
    cases e with
    | box g cs =>
      cases outs with
      | nil => simp only [outU]; exact sorted_outU
      | cons o outs =>
        simp only [outU]
        exact List.pairwise_cons.2 ⟨fun y hy => by have := keys_outU hy; simp only; omega, sorted_outU⟩
    | tmp v => simp only [outU]; exact sorted_outU
    | vir v => simp only [outU]; exact sorted_outU
theorem look_outU {U : US} : ∀ {args : List UE} {i : Nat}, stillE U i args = true → ∀ d, look (outU i args (outsOf U i args)) d = if i ≤ d ∧ boxAt args (d - i) = true then (look U d).map (fun e => match e with | .box _ cs => .box () cs | e => e) else none
  | [], i, _, d => by simp [outU, outsOf, look, boxAt]
  | e :: r, i, h, d => by
    have hstep : ∀ d, i + 1 ≤ d → boxAt (e :: r) (d - i) = boxAt r (d - (i + 1)) := fun d hd => by
      simp only [boxAt, show d - i = (d - (i + 1)) + 1 by omega, List.getElem?_cons_succ]
    have other : boxAt (e :: r) 0 = false → (if i ≤ d ∧ boxAt (e :: r) (d - i) = true then (look U d).map (fun e => match e with | .box _ cs => Ent.box () cs | e => e) else none) = if i + 1 ≤ d ∧ boxAt r (d - (i + 1)) = true then (look U d).map (fun e => match e with | .box _ cs => Ent.box () cs | e => e) else none := by
      intro h0
      by_cases hd : i + 1 ≤ d
      · rw [hstep d hd]; simp [hd, show i ≤ d by omega]
      · by_cases hd2 : i ≤ d
        · have : d = i := by omega
          subst this
          rw [if_neg (by simp [h0]), if_neg (by omega)]
        · rw [if_neg (by omega), if_neg (by omega)]
    cases e with
    | box g cs =>
      simp only [stillE, Bool.and_eq_true] at h
      simp only [outsOf, outU, look]
      by_cases hd : i = d
      · subst hd
        rw [if_pos rfl]
        cases hl : look U i with
        | none => simp [hl] at h
        | some e =>
          cases e with
          | box g1 c1 => simp [boxAt, hl]
          | tmp v => simp [hl] at h
          | vir v => simp [hl] at h
      · rw [if_neg hd, look_outU h.2 d]
        by_cases hd2 : i + 1 ≤ d
        · rw [hstep d hd2]; simp [hd2, show i ≤ d by omega]
        · rw [if_neg (by omega), if_neg (by omega)]
    | tmp v =>
      simp only [stillE] at h
      simp only [outsOf, outU]
      rw [look_outU h d, other (by simp [boxAt])]
    | vir v =>
      simp only [stillE] at h
      simp only [outsOf, outU]
      rw [look_outU h d, other (by simp [boxAt])]
theorem look_voutsOf {U : US} : ∀ {vs : List UT} {i : Nat}, stillV U i vs = true → ∀ d, look (initV i (voutsOf U i vs)) d = if i ≤ d ∧ d < i + vs.length then look U d else none
  | [], i, _, d => by
    simp only [voutsOf, initV, look, List.length_nil]
    rw [if_neg (by omega)]
  | t :: r, i, h, d => by
    simp only [stillV, Bool.and_eq_true] at h
    simp only [voutsOf, initV, look]
    by_cases hd : i = d
    · subst hd
      rw [if_pos rfl, if_pos (by simp)]
      cases hl : look U i with
      | none => simp [hl] at h
      | some e =>
        cases e with
        | vir t => simp
        | tmp v => simp [hl] at h
        | box g c => simp [hl] at h
    · rw [if_neg hd, look_voutsOf h.2 d]
      simp only [List.length_cons]
      by_cases hd2 : i + 1 ≤ d ∧ d < i + 1 + r.length
      · rw [if_pos hd2, if_pos (by omega)]
      · rw [if_neg hd2, if_neg (by omega)]
theorem look_init : ∀ (i : Nat) (E : List UE) (d : Nat), look (init i E) d = if i ≤ d then E[d - i]? else none
  | i, [], d => by simp [init, look]
  | i, e :: r, d => by
    simp only [init, look]
    by_cases h : i = d
    · subst h; simp
    · rw [if_neg h, look_init (i + 1) r d]
      by_cases h2 : i ≤ d
      · rw [if_pos h2, if_pos (by omega), show d - i = (d - (i + 1)) + 1 by omega]; simp
      · rw [if_neg h2, if_neg (by omega)]
theorem look_initV_box : ∀ (i : Nat) (vs : List UT) (d : Nat) (cs : List UV), look (initV i vs) d ≠ some (.box () cs)
  | i, [], d, cs => by simp [initV, look]
  | i, t :: r, d, cs => by
    simp only [initV, look]
    split
    · simp
    · exact look_initV_box (i + 1) r d cs
theorem noBoV_poi {bad : Place → Bool → Bool} {v : UV} (h : noBoV v = true) : poiA bad v = v := by
  cases v with
  | tr t => rfl
  | agg cs =>
    have : ∀ {cs : List UV}, noBoL cs = true → poiL bad cs = cs := by
      intro cs
      induction cs with
      | nil => intro _; rfl
      | cons c r ih =>
        intro h
        cases c with
        | tr t => simp only [noBoL, Bool.and_eq_true] at h; simp [poiL, poiA, ih h.2]
        | _ => simp [noBoL] at h
    simp only [poiA, this (by simpa [noBoV] using h)]
  | _ => simp [noBoV] at h
theorem noBoR_poi {bad : Place → Bool → Bool} {e : UE} (h : noBoR e = true) : e.poi bad = e := by
  cases e with
  | vir t => rfl
  | box g cs =>
    have := noBoV_poi (bad := bad) (v := .agg cs) (by simpa [noBoR, noBoV] using h)
    simp only [poiA, AV.agg.injEq] at this
    simp only [Ent.poi, this]
  | tmp v =>
    cases v with
    | tup vs =>
      have : ∀ {vs : List UV}, vs.all noBoV = true → poiL bad vs = vs := by
        intro vs
        induction vs with
        | nil => intro _; rfl
        | cons c r ih => intro h; simp only [List.all_cons, Bool.and_eq_true] at h; simp [poiL, noBoV_poi h.1, ih h.2]
      simp only [Ent.poi, poiA, this (by simpa [noBoR] using h)]
    | _ => simp only [Ent.poi]; rw [noBoV_poi (by simpa [noBoR] using h)]
theorem outsOf_length {U : US} : ∀ (args : List UE) (i : Nat), (outsOf U i args).length = boxesN args
  | [], i => rfl
  | e :: r, i => by cases e <;> simp [outsOf, boxesN, outsOf_length r (i + 1)]
theorem voutsOf_length {U : US} : ∀ (vs : List UT) (i : Nat), (voutsOf U i vs).length = vs.length
  | [], i => rfl
  | e :: r, i => by simp [voutsOf, voutsOf_length r (i + 1)]
theorem sorted_initV : ∀ (i : Nat) (E : List UT), (initV i E).Pairwise fun x y => x.1 < y.1
  | _, [] => .nil
  | i, e :: r => List.pairwise_cons.2 ⟨fun y hy => by have := keys (i + 1) r y hy; simp only; omega, sorted_initV (i + 1) r⟩
where
  keys : ∀ (i : Nat) (E : List UT) (x : Nat × UE), x ∈ initV i E → i ≤ x.1
    | _, [], x, h => by simp [initV] at h
    | i, e :: r, x, h => by
      simp only [initV, List.mem_cons] at h
      rcases h with rfl | h
      · simp
      · have := keys (i + 1) r x h; omega
/-- A box is given up; it hangs free. -/
theorem dropBox_ok2 (hG : Good Z S a w) {d : Nat} {g : Hd} {cs : List (AV Hd)} (hl : look S d = some (.box g cs)) :
    ∃ S1, erS S1 = putP (erS S) d (.tmp (.tr .undef)) ∧ Good Z S1 a w ∧ Fr S w S1 w ∧ (∀ b ∈ ownE (.box g cs : Ent Hd), b ∈ ownS S ∧ b ∉ ownS S1) := by
  obtain ⟨g1, g2, g3⟩ := put_lands (Z := Z) (S := S) (a := a) (d := d) (e := .tmp (.tr .undef)) (val := a.tmps.getD d undef) hG (.refl S) (fun _ _ => rfl) rfl rfl rfl (Nat.le_refl _)
    ⟨trivial, trivial⟩ (by simp [ownE, ownA, ownT]) (by simp [ownE, ownA, ownT]) (by simp [ownE, ownA, ownT]) (by simp [ownE, ownA, ownT]) trivial
  have hact : ∀ d', (a.put (some d) (a.tmps.getD d undef)).tmps.getD d' undef = a.tmps.getD d' undef := by
    intro d'
    by_cases hd : d' = d
    · subst hd
      by_cases hlt : d' < a.tmps.size
      · rw [put_tmp_eq a d' _ hlt]
      · simp [Act.put, Array.getD, hlt]
    · exact put_tmp_ne a d d' _ hd
  obtain ⟨rest, p1, p2⟩ := put_perm S d hG.sorted
  simp only [oldE, hl] at p1
  have pe : (ownS (put (poi (badRoot d) S) d ((Ent.tmp (.tr .undef)).poi (badRoot d)))).Perm rest := by
    rw [ownS_put_poi]; exact (p2 _).trans (by simp [Ent.poi, poiA, ownE, ownA, ownT])
  have hnd := p1.nodup_iff.1 hG.nd
  exact ⟨_, g2, g1.frame (fun _ _ => rfl) (Nat.le_refl _) (fun d' e' _ => (hact d').symm), g3, fun b hb => ⟨p1.mem_iff.2 (by simp [hb]), fun hc => nodup_apart hnd hb (pe.mem_iff.1 hc)⟩⟩
def tupH : List (AV Hd) → AV Hd
  | [v] => v
  | vs => .tup vs
theorem tupH_er (vs : List (AV Hd)) : erA (tupH vs) = tupOf (erL vs) := by
  match vs with
  | [] => rfl
  | [v] => rfl
  | v :: u :: r => rfl
theorem tupH_own (vs : List (AV Hd)) : ownA (tupH vs) = ownAL vs := by
  match vs with
  | [] => rfl
  | [v] => simp [tupH, ownAL]
  | v :: u :: r => rfl
theorem tupH_mem {vs : List (AV Hd)} (h : memL w Z vs) : memA w Z (tupH vs) := by
  match vs with
  | [] => exact h
  | [v] => exact h.1
  | v :: u :: r => exact h
theorem results_run {fn : Func} {tmps : Array Value} {vals : List Value} (h : (fn.results.toList.mapM (resVal tmps)).run P w = .ok vals w) : (results fn tmps).run P w = .ok (if vals.length = 1 then vals.getD 0 undef else .tuple vals.toArray) w := by
  have h1 : fn.results.mapM (resVal tmps) = (do let l ← fn.results.toList.mapM (resVal tmps); pure l.toArray) := by
    rw [Array.mapM_eq_mapM_toList]; rfl
  have h2 : results fn tmps = (do let vs ← fn.results.mapM (resVal tmps); pure (if h : vs.size = 1 then vs[0] else .tuple vs)) := rfl
  rw [h2, h1]
  simp only [Sem.run_bind, h, Result.andThen_ok, Sem.run_pure]
  congr 1
  match vals with
  | [] => rfl
  | [v] => rfl
  | v :: u :: r => simp
theorem tupH_is {vs : List (AV Hd)} {vals : List Value} (h : IsL vs vals) : IsA (tupH vs) (if vals.length = 1 then vals.getD 0 undef else .tuple vals.toArray) := by
  match vs with
  | [] => simp only [IsL] at h; subst h; exact ⟨#[], rfl, rfl⟩
  | [v] => obtain ⟨u, us, rfl, h1, h2⟩ := h; simp only [IsL] at h2; subst h2; simpa [tupH] using h1
  | v :: u :: r =>
    have hl := IsL_length h
    have : ¬ vals.length = 1 := by rw [hl]; simp
    rw [if_neg this]
    exact ⟨vals.toArray, rfl, by simpa using h⟩
/-- What a function hands back. -/
theorem retE_ok (hG : Good Z S a w) {fn : Func} {r : UE} {U : US} (h : retE P (erS S) fn.results.toList = some (r, U)) (hn : noBoR r = true) :
    ∃ (r' : Ent Hd) (S1 : St Hd) (val : Value), erE r' = r ∧ erS S1 = U ∧ Good Z S1 a w ∧ Fr S w S1 w ∧ (results fn a.tmps).run P w = .ok val w ∧
      (match r' with | .tmp v => IsA v val ∧ memA w Z v | .box g cs => val = .pointer g.a ∧ ∃ A, g.a = some A ∧ A.spot = none ∧ boxOk w Z A cs | .vir _ => False) ∧ (ownE r').Nodup ∧ (∀ b ∈ ownE r', b ∈ ownS S ∧ b ∉ ownS S1) ∧ ∀ S, refOkE S r' := by
  unfold retE at h
  split at h
  · rename_i q hq
    split at hq
    · rename_i d hres
      split at hq
      · rename_i q' u hev
        simp at hq; subst hq
        split at h
        · rename_i hst
          rw [look_er] at h
          cases hl : look S q'.root with
          | none => simp [hl] at h
          | some e =>
            simp only [hl, Option.map_some] at h
            cases e with
            | tmp v => simp [erE] at h
            | vir t => simp [erE] at h
            | box g cs =>
              simp only [erE, Option.some.injEq, Prod.mk.injEq] at h
              obtain ⟨rfl, rfl⟩ := h
              obtain ⟨S1, k1, k2, k3, k4⟩ := dropBox_ok2 hG hl
              obtain ⟨v', h1, h2, h3, h4, h5, h6⟩ := ev_ok hG hev
              obtain ⟨g', rfl⟩ := erA_ptr h1
              obtain ⟨B, row, r1, r2⟩ := h4
              obtain ⟨b1, A, b2, b3, b4⟩ := hG.ent _ _ hl
              have hga : a.tmps.getD d undef = .pointer g.a := by
                have e1 : a.eval (.tmp d) = .pointer g'.a := h2
                have e2 : a.tmps.getD d undef = .pointer g'.a := e1
                rw [e2, r2]
                rw [hst.1] at r1
                simp only [rowAddrS, hl, rowAddrE, b2, rowAddrA, Option.some.injEq, Prod.mk.injEq] at r1
                obtain ⟨rfl, _⟩ := r1
                rw [hst.2, b2]
                obtain ⟨bb, oo, sp⟩ := A
                simp at b3; subst b3; rfl
              refine ⟨.box g cs, S1, .pointer g.a, rfl, k1, k2, k3, ?_, ⟨rfl, A, b2, b3, b4⟩, hG.ownE_nodup hl, k4, fun S => refOkL_noBo (by simpa [erE, noBoR] using hn)⟩
              have := results_run (P := P) (w := w) (fn := fn) (tmps := a.tmps) (vals := [a.tmps.getD d undef]) (by rw [hres]; simp [resVal])
              simpa [hga] using this
        · simp at h
      · simp at hq
    · simp at hq
  · split at h
    · rename_i vs U1 hr
      simp only [Option.some.injEq, Prod.mk.injEq] at h
      obtain ⟨rfl, rfl⟩ := h
      obtain ⟨vs', S1, vals, f1, f2, f3, f4, f5, f6, f7, f8, f9⟩ := retVals_ok hG hr
      subst f1 f2
      refine ⟨.tmp (tupH vs'), S1, _, by simp [erE, tupH_er], rfl, f3, f4, results_run f5, ⟨tupH_is f6, tupH_mem f7⟩, by simpa [ownE, tupH_own] using f8, by simpa [ownE, tupH_own] using f9, fun S => ?_⟩
      have := (entOk_zone (a := ⟨#[], []⟩) (Z := Z) (Z' := Z) (w := w) (d := 0) (e := .tmp (tupH vs')) (fun _ h => h) (fun _ h => h))
      exact refOk_noBoR (by rw [tupH_er]; simpa [noBoR] using hn) S
    · simp at h
where
  refOk_noBoR {v : AV Hd} (h : noBoR (.tmp (erA v)) = true) (S : St Hd) : refOk S v := by
    cases v with
    | tup vs =>
      have hn' : ((erL vs).all noBoV) = true := by simpa [erA, noBoR] using h
      exact refOkL_iff.2 fun v hv => one (List.all_eq_true.1 hn' (erA v) (by rw [erL_map]; exact List.mem_map.2 ⟨v, hv, rfl⟩)) S
    | _ => exact one (by simpa [erA, noBoR] using h) S
  one {v : AV Hd} (h : noBoV (erA v) = true) (S : St Hd) : refOk S v := by
    cases v with
    | tr t => trivial
    | agg cs => exact refOkL_noBo (by simpa [erA, noBoV] using h)
    | _ => simp [erA, noBoV] at h
end Go.HT
namespace Go.HT
open Go
variable {P : Program} {md : Modes} {Z : Zone} {S S0 : St Hd} {a : Act} {w w0 : World}
def keepIds (args : List UE) (nv : Nat) : List Nat := (List.range args.length).filter (boxAt args) ++ (List.range nv).map (1000 + ·)
theorem mem_keepIds {args : List UE} {nv d : Nat} : (keepIds args nv).contains d = true ↔ boxAt args d = true ∨ (1000 ≤ d ∧ d < 1000 + nv) := by
  simp only [keepIds, List.contains_iff_mem, List.mem_append, List.mem_filter, List.mem_range, List.mem_map]
  constructor
  · rintro (⟨_, h⟩ | ⟨k, h1, rfl⟩)
    · exact .inl h
    · exact .inr ⟨by omega, by omega⟩
  · rintro (h | ⟨h1, h2⟩)
    · refine .inl ⟨?_, h⟩
      simp only [boxAt] at h
      cases hd : args[d]? with
      | none => simp [hd] at h
      | some e => exact (List.getElem?_eq_some_iff.1 hd).1
    · exact .inr ⟨d - 1000, by omega, by omega⟩
theorem outs_get {U : US} : ∀ {args : List UE} {i d : Nat} {cs : List UV}, stillE U i args = true → boxAt args d = true → look U (i + d) = some (.box () cs) → cs ∈ outsOf U i args
  | [], i, d, cs, _, h, _ => by simp [boxAt] at h
  | e :: r, i, d, cs, hs, h, hl => by
    cases d with
    | zero =>
      cases e with
      | box g c => simp only [Nat.add_zero] at hl; simp [outsOf, hl]
      | tmp v => simp [boxAt] at h
      | vir v => simp [boxAt] at h
    | succ d =>
      have h' : boxAt r d = true := by simpa [boxAt] using h
      have hl' : look U (i + 1 + d) = some (.box () cs) := by rw [← hl]; congr 1; omega
      cases e with
      | box g c =>
        simp only [stillE, Bool.and_eq_true] at hs
        simp only [outsOf, List.mem_cons]
        exact .inr (outs_get hs.2 h' hl')
      | tmp v => simp only [stillE] at hs; simp only [outsOf]; exact outs_get hs h' hl'
      | vir v => simp only [stillE] at hs; simp only [outsOf]; exact outs_get hs h' hl'
theorem still_box {U : US} : ∀ {args : List UE} {i d : Nat}, stillE U i args = true → boxAt args d = true → ∃ cs, look U (i + d) = some (.box () cs)
  | [], i, d, _, h => by simp [boxAt] at h
  | e :: r, i, d, hs, h => by
    cases d with
    | zero =>
      cases e with
      | box g c =>
        simp only [stillE, Bool.and_eq_true] at hs
        simp only [Nat.add_zero]
        cases hl : look U i with
        | none => simp [hl] at hs
        | some e => cases e with
          | box g1 c1 => exact ⟨c1, rfl⟩
          | tmp v => simp [hl] at hs
          | vir v => simp [hl] at hs
      | tmp v => simp [boxAt] at h
      | vir v => simp [boxAt] at h
    | succ d =>
      have h' : boxAt r d = true := by simpa [boxAt] using h
      have key : stillE U (i + 1) r = true := by
        cases e with
        | box g c => simp only [stillE, Bool.and_eq_true] at hs; exact hs.2
        | tmp v => simpa only [stillE] using hs
        | vir v => simpa only [stillE] using hs
      obtain ⟨cs, h2⟩ := still_box key h'
      exact ⟨cs, by rw [← h2]; congr 1; omega⟩
theorem still_vir {U : US} : ∀ {vs : List UT} {i d : Nat}, stillV U i vs = true → i ≤ d ∧ d < i + vs.length → ∃ t, look U d = some (.vir t)
  | [], i, d, _, h => by simp at h; omega
  | t :: r, i, d, hs, h => by
    simp only [stillV, Bool.and_eq_true] at hs
    by_cases hd : i = d
    · subst hd
      cases hl : look U i with
      | none => simp [hl] at hs
      | some e => cases e with
        | vir t => exact ⟨t, rfl⟩
        | tmp v => simp [hl] at hs
        | box g c => simp [hl] at hs
    · simp only [List.length_cons] at h
      exact still_vir hs.2 ⟨by omega, by omega⟩
theorem poiL_noBo {bad : Place → Bool → Bool} : ∀ {cs : List UV}, noBoL cs = true → poiL bad cs = cs
  | [], _ => rfl
  | c :: r, h => by
    cases c with
    | tr t => simp only [noBoL, Bool.and_eq_true] at h; simp [poiL, poiA, poiL_noBo h.2]
    | _ => simp [noBoL] at h
/-- The regions of a function's code are sound. -/
def AllOk (P : Program) (md : Modes) (n : Nat) (bx : Nat → Bool) (c : Code) : Prop := ∀ (Z : Zone) (S0 : St Hd) (w0 : World) (pn : Nat → Option Value), (∀ d, bx d = false → pn d = none) → AllReg P md Z S0 w0 n pn c
theorem bodyQ_ok {fn : Func} {args : List UE} {vs : List UT} {r : UE} {outs : List (List UV)} {vouts : List UT} {U : US} (h : match retE P U fn.results.toList with
    | some (rs, S1) => rs = r ∧ stillE S1 0 args = true ∧ stillV S1 1000 vs = true ∧ outsOf S1 0 args = outs ∧ voutsOf S1 1000 vs = vouts
    | none => False) : ∃ U1, retE P U fn.results.toList = some (r, U1) ∧ stillE U1 0 args = true ∧ stillV U1 1000 vs = true ∧ outsOf U1 0 args = outs ∧ voutsOf U1 1000 vs = vouts := by
  split at h
  · rename_i rs U1 hret
    obtain ⟨rfl, h⟩ := h
    exact ⟨U1, hret, h⟩
  · exact h.elim
theorem ACall_of (md : Modes) {f : FuncId} {fn : Func} {c : Code} {args : List UE} {vs : List UT} {r : UE} {outs : List (List UV)} {vouts : List UT} (hf : P.funcs[f]? = some fn) (hb : fn.body = some c) (hent : enterOk P f = true) (hn : args.length < 999) (hnt : args.length ≤ fn.ntmps)
    (hr : noBoR r = true) (hou : (outs.all noBoL) = true) (hvo : noBoRow vouts = true) (hvl : vouts.length = vs.length) (hol : outs.length = boxesN args)
    (hreg : AllOk P md fn.ntmps (boxAt args) c) (h : vc P md c ⟨init 0 args ++ initV 1000 vs⟩ (bodyQ P fn args vs r outs vouts)) : ACall P f args vs r outs vouts := by
  refine ⟨⟨hent, hr, hou, hvo, hvl, hol, hn⟩, ?_⟩
  intro Z w vals S0 hS0 hsz hG
  let a0 : Act := ⟨vals ++ Array.replicate (fn.ntmps - vals.size) undef, []⟩
  have ha0 : ∀ d, a0.tmps.getD d undef = vals.getD d undef := fun d => by
    simp only [a0, Array.getD_eq_getD_getElem?]
    by_cases hd : d < vals.size
    · rw [Array.getElem?_append_left hd]
    · rw [Array.getElem?_append_right (by omega), Array.getElem?_eq_none (xs := vals) (by omega), Array.getElem?_replicate]
      split <;> rfl
  have hG0 : Good Z S0 a0 w := hG.frame (fun _ _ => rfl) (Nat.le_refl _) fun d e _ => ha0 d
  let pn : Nat → Option Value := fun d => if boxAt args d = true then some (vals.getD d undef) else none
  have hnow : Now Z S0 w fn.ntmps pn (fun S => vc P md c S (bodyQ P fn args vs r outs vouts)) a0 w := by
    refine ⟨S0, hG0, by rw [hS0]; exact h, fr_of_less (.refl S0), by simp [a0]; omega, rfl, fun d v hp => ?_⟩
    simp only [pn] at hp
    split at hp
    · simp only [Option.some.injEq] at hp; rw [ha0]; exact hp
    · simp at hp
  have hwp := vc_ok c (hreg Z S0 w pn (fun d hd => by simp [pn, hd])) (bodyQ P fn args vs r outs vouts) a0 w hnow
  refine calls_of_wp hf hb (wp_mono hwp fun e a w' he => ?_)
  have fin : ∀ o, Now Z S0 w fn.ntmps pn (bodyQ P fn args vs r outs vouts o) a w' → a.defers = [] ∧ ∃ v, (results fn a.tmps).run P w' = .ok v w' ∧ ∃ S' a', Good Z S' a' w' ∧ erS S' = outU 0 args outs ++ ((999, r) :: initV 1000 vouts) ∧ a'.tmps.getD 999 undef = v ∧
      (∀ d g cs, look S0 d = some (.box g cs) → ∃ cs', look S' d = some (.box g cs') ∧ cs'.length = cs.length) ∧ Fr S0 w S' w' := by
    rintro o ⟨S, hGS, hq, hFr, _, hrest⟩
    refine ⟨hrest.1, ?_⟩
    have hq' : ∃ U1, retE P (erS S) fn.results.toList = some (r, U1) ∧ stillE U1 0 args = true ∧ stillV U1 1000 vs = true ∧ outsOf U1 0 args = outs ∧ voutsOf U1 1000 vs = vouts := by
      cases o with
      | exit i => exact hq.elim
      | normal => exact bodyQ_ok hq
      | ret => exact bodyQ_ok hq
    obtain ⟨U1, hret, b1, b2, b3, b4⟩ := hq'
    obtain ⟨r', S1, val, c1, c2, c3, c4, c5, c6, c7, c8, c9⟩ := retE_ok hGS hret hr
    subst c1 c2
    have hFr1 := hFr.trans c4
    let ks := keepIds args vs.length
    let a1 : Act := ⟨a.tmps ++ Array.replicate 1000 undef, []⟩
    have ha1 : ∀ d, a1.tmps.getD d undef = a.tmps.getD d undef := fun d => by
      simp only [a1, Array.getD_eq_getD_getElem?]
      by_cases hd : d < a.tmps.size
      · rw [Array.getElem?_append_left hd]
      · rw [Array.getElem?_append_right (by omega), Array.getElem?_eq_none (xs := a.tmps) (by omega), Array.getElem?_replicate]
        split <;> rfl
    have hG2 : Good Z (keepH ks S1) a1 w' := (c3.keep ks).frame (fun _ _ => rfl) (Nat.le_refl _) fun d e _ => ha1 d
    have hsub := (keep_own ks S1).subset
    have hp999 : (a1.put (some 999) val).tmps.getD 999 undef = val := put_tmp_eq a1 999 val (by simp [a1])
    have hent9 : entOk (a1.put (some 999) val) w' Z 999 r' := by
      cases r' with
      | tmp v => exact ⟨by rw [hp999]; exact c6.1, c6.2⟩
      | box g cs => exact ⟨by rw [hp999]; exact c6.1, c6.2⟩
      | vir t => exact c6.elim
    have hG3 := hG2.putE (a' := a1.put (some 999) val) (w' := w') 999 r' (fun _ _ => rfl) (Nat.le_refl _) (fun d' e' hne _ => put_tmp_ne a1 999 d' val hne) (entOk_poi _ hent9) c7
      (fun b hb => hGS.zn b (c8 b hb).1) (fun b hb hc => (c8 b hb).2 (hsub (sub_put hG2.sorted 999 hc))) (c9 _)
    -- where the boxes are
    have hbx : ∀ d g cs, look S0 d = some (.box g cs) → boxAt args d = true ∧ ∃ cs', look S1 d = some (.box g cs') ∧ cs'.length = cs.length := by
      intro d g cs hl
      have hd : boxAt args d = true := by
        have h1 : look (erS S0) d = some (.box () (erL cs)) := by rw [look_er, hl]; rfl
        rw [hS0, look_append, look_init] at h1
        simp only [boxAt]
        cases ha : args[d]? with
        | none =>
          simp only [Nat.zero_le, if_true, Nat.sub_zero, ha, Option.none_or] at h1
          exact absurd h1 (look_initV_box 1000 vs d _)
        | some e => simp only [Nat.zero_le, if_true, Nat.sub_zero, ha, Option.some_or, Option.some.injEq] at h1; rw [h1]
      refine ⟨hd, ?_⟩
      obtain ⟨e1, A, e2, e3, cells, e0, e4, _⟩ := hG.ent _ _ hl
      rcases (hFr1.box d g cs A cells e0 hl e2 e4).2 with h | h
      · exact h
      · exfalso
        apply h
        obtain ⟨c1, hc1⟩ := still_box b1 hd
        rw [Nat.zero_add, look_er] at hc1
        cases hl1 : look S1 d with
        | none => simp [hl1] at hc1
        | some e =>
          simp only [hl1, Option.map_some, Option.some.injEq] at hc1
          cases e with
          | box g1 cs1 =>
            obtain ⟨m1, A1, m2, m3, _⟩ := c3.ent _ _ hl1
            have hpin := hrest.2 d (vals.getD d undef) (by simp [pn, hd])
            have e1' : vals.getD d undef = .pointer g.a := e1
            rw [hpin, e1'] at m1
            simp only [Value.pointer.injEq] at m1
            refine look_own hl1 A.block ?_
            simp [ownE, blk, ← m1, e2]
          | tmp v => simp [erE] at hc1
          | vir t => simp [erE] at hc1
    have hlook : ∀ d e, d ≠ 999 → look (put (poi (badRoot 999) (keepH ks S1)) 999 (r'.poi (badRoot 999))) d = some e → ∃ e0, look S1 d = some e0 ∧ ks.contains d = true ∧ e = (e0.poi (keepB ks)).poi (badRoot 999) := by
      intro d e hd hl
      rw [look_put, if_neg hd, look_poi] at hl
      cases hk : look (keepH ks S1) d with
      | none => simp [hk] at hl
      | some e1 =>
        simp [hk] at hl
        obtain ⟨q1, e0, q2, rfl⟩ := look_keepH hk
        exact ⟨e0, q2, by simpa using q1, hl.symm⟩
    refine ⟨val, c5, _, a1.put (some 999) val, hG3, ?_, hp999, ?_, ?_⟩
    · refine sorted_ext (erS_sorted hG3.sorted) (List.pairwise_append.2 ⟨sorted_outU, List.pairwise_cons.2 ⟨fun y hy => ?_, sorted_initV 1000 vouts⟩, fun x hx y hy => ?_⟩) fun d => ?_
      · have := sorted_initV.keys 1000 vouts y hy
        simp only; omega
      · have h1 := keys_outU hx
        rcases List.mem_cons.1 hy with rfl | hy
        · simp only; omega
        · have := sorted_initV.keys 1000 vouts y hy; omega
      · have hU : outU 0 args outs = outU 0 args (outsOf (erS S1) 0 args) := by rw [b3]
        have hV : initV 1000 vouts = initV 1000 (voutsOf (erS S1) 1000 vs) := by rw [b4]
        rw [look_append, look, hU, hV, look_outU b1 d, look_voutsOf b2 d, look_er]
        by_cases hd9 : d = 999
        · subst hd9
          rw [look_put, if_pos rfl]
          have hno : boxAt args 999 = false := by simp only [boxAt]; rw [List.getElem?_eq_none (by omega)]
          simp only [Option.map_some, poiE_er, noBoR_poi hr, Nat.sub_zero, hno]
          simp
        · rw [look_put, if_neg hd9, look_poi, keepH, look_poi, look_filter]
          by_cases hbd : boxAt args d = true
          · rw [if_pos (mem_keepIds.2 (.inl hbd))]
            obtain ⟨cs, hcs⟩ := still_box b1 hbd
            rw [Nat.zero_add] at hcs
            have hmem := outs_get b1 hbd (by rw [Nat.zero_add]; exact hcs)
            rw [b3] at hmem
            have hnb : noBoL cs = true := List.all_eq_true.1 hou cs hmem
            have hpoi : ∀ bad, (Ent.box () cs : UE).poi bad = .box () cs := fun bad => noBoR_poi (by simpa [noBoR] using hnb)
            simp only [Nat.sub_zero, hbd, Nat.zero_le, and_self, if_true, hcs, Option.map_some, Option.some_or]
            rw [look_er] at hcs
            cases hl : look S1 d with
            | none => simp [hl] at hcs
            | some e =>
              simp only [hl, Option.map_some, Option.some.injEq] at hcs
              simp only [Option.map_some, poiE_er, hcs, hpoi]
          · have hb0 : ¬ (0 ≤ d ∧ boxAt args (d - 0) = true) := by simpa using hbd
            rw [if_neg hb0, Option.none_or, if_neg (show ¬ 999 = d from fun h => hd9 h.symm)]
            by_cases hv : 1000 ≤ d ∧ d < 1000 + vs.length
            · rw [if_pos (mem_keepIds.2 (.inr hv)), if_pos hv, look_er]
              cases hl : look S1 d with
              | none => rfl
              | some e =>
                have hvt := still_vir b2 hv
                rw [look_er, hl] at hvt
                obtain ⟨t, ht⟩ := hvt
                simp only [Option.map_some, Option.some.injEq] at ht
                simp only [Option.map_some, poiE_er, ht]
                rfl
            · rw [if_neg (fun h => (mem_keepIds.1 h).elim hbd hv), if_neg hv]; rfl
    · intro d g cs hl
      obtain ⟨hd, cs', l1, l2⟩ := hbx d g cs hl
      have hd9 : d ≠ 999 := by
        rintro rfl
        simp only [boxAt] at hd
        rw [List.getElem?_eq_none (by omega)] at hd
        simp at hd
      refine ⟨poiL (badRoot 999) (poiL (keepB ks) cs'), ?_, by rw [poiL_map, poiL_map]; simpa using l2⟩
      rw [look_put, if_neg hd9, look_poi, keepH, look_poi, look_filter, if_pos (mem_keepIds.2 (.inl hd)), l1]
      rfl
    · have hown3 : ∀ b ∈ ownS (put (poi (badRoot 999) (keepH ks S1)) 999 (r'.poi (badRoot 999))), b ∈ ownS S1 ∨ b ∈ ownE r' := fun b hb => by
        obtain ⟨rest, p1, p2⟩ := put_perm (keepH ks S1) 999 hG2.sorted
        rw [ownS_put_poi] at hb
        rcases List.mem_append.1 ((p2 _).mem_iff.1 hb) with hb | hb
        · rw [ownE_poi] at hb; exact .inr hb
        · exact .inl (hsub (p1.mem_iff.2 (by simp [hb])))
      refine ⟨hFr1.os, hFr1.tape, hFr1.output, hFr1.size, hFr1.block, fun b hb => ?_, fun d g cs A cells e hl hg hc => ⟨(hFr1.box d g cs A cells e hl hg hc).1, ?_⟩, fun d t' hl => ?_⟩
      · rcases hown3 b hb with h | h
        · exact hFr1.own b h
        · exact hFr.own b (c8 b h).1
      · obtain ⟨hd, cs', l1, l2⟩ := hbx d g cs hl
        have hd9 : d ≠ 999 := by
          rintro rfl
          simp only [boxAt] at hd
          rw [List.getElem?_eq_none (by omega)] at hd
          simp at hd
        refine .inl ⟨poiL (badRoot 999) (poiL (keepB ks) cs'), ?_, by rw [poiL_map, poiL_map]; simpa using l2⟩
        rw [look_put, if_neg hd9, look_poi, keepH, look_poi, look_filter, if_pos (mem_keepIds.2 (.inl hd)), l1]
        rfl
      · by_cases hd9 : d = 999
        · subst hd9
          rw [look_put, if_pos rfl] at hl
          simp at hl
          cases r' with
          | tmp v => simp [Ent.poi] at hl
          | box g cs => simp [Ent.poi] at hl
          | vir t => exact c6.elim
        · obtain ⟨e0, q1, q2, q3⟩ := hlook d _ hd9 hl
          cases e0 with
          | vir t => simp [Ent.poi] at q3; subst q3; exact hFr1.vir d t' q1
          | tmp v => simp [Ent.poi] at q3
          | box g cs => simp [Ent.poi] at q3
  cases e with
  | normal =>
    obtain ⟨h1, v, h2, h3⟩ := fin .normal he
    exact ⟨h1, v, h2, h3⟩
  | ret =>
    obtain ⟨h1, v, h2, h3⟩ := fin .ret he
    exact ⟨h1, v, h2, h3⟩
  | exit i => obtain ⟨S, _, hq, _⟩ := he; exact hq.elim
  | outgrown => exact he.elim
  | panic ch => exact he.elim
  | goto l => exact he.elim
end Go.HT
end
section
namespace Go.HT
open Go
variable {P : Program} {Z : Zone} {S : St Hd} {a : Act} {w : World} {α β : Type} {E : World → World → Prop}

/-- Whoever asks in another world is told the same, and nothing turns. -/
def Calm (P : Program) (E : World → World → Prop) (s : Go.Sem α) : Prop := ∀ w v w1, s.run P w = .ok v w1 → w1 = w ∧ ∀ w', E w w' → s.run P w' = .ok v w'
/-- No way out but by a panic. -/
def Dead (P : Program) (s : Go.Sem α) : Prop := ∀ w v w1, s.run P w ≠ .ok v w1
theorem Dead.calm {s : Go.Sem α} (h : Dead P s) : Calm P E s := fun w v w1 hr => absurd hr (h w v w1)
theorem calm_pure (v : α) : Calm P E (pure v : Go.Sem α) := fun w u w1 h => by
  simp only [Sem.run_pure, Result.ok.injEq] at h
  obtain ⟨rfl, rfl⟩ := h
  exact ⟨rfl, fun w' _ => Sem.run_pure ..⟩
theorem calm_bind {s : Go.Sem α} {f : α → Go.Sem β} (h : Calm P E s) (hf : ∀ v, Calm P E (f v)) : Calm P E (s >>= f) := fun w v w1 hr => by
  rw [Sem.run_bind] at hr
  cases hs : s.run P w with
  | ok u w2 =>
    rw [hs] at hr
    simp only [Result.andThen_ok] at hr
    obtain ⟨rfl, h2⟩ := h w u w2 hs
    obtain ⟨rfl, h3⟩ := hf u _ v w1 hr
    refine ⟨rfl, fun w' he => ?_⟩
    rw [Sem.run_bind, h2 w' he]
    exact h3 w' he
  | halt x w2 => rw [hs] at hr; simp [Result.andThen] at hr
theorem calm_bind' {s : Go.Sem α} {f : α → Go.Sem β} (h : Calm P E s) (hf : ∀ v w, s.run P w = .ok v w → Calm P E (f v)) : Calm P E (s >>= f) := fun w v w1 hr => by
  rw [Sem.run_bind] at hr
  cases hs : s.run P w with
  | ok u w2 =>
    rw [hs] at hr
    simp only [Result.andThen_ok] at hr
    obtain ⟨rfl, h2⟩ := h w u w2 hs
    obtain ⟨rfl, h3⟩ := hf u _ hs _ v w1 hr
    refine ⟨rfl, fun w' he => ?_⟩
    rw [Sem.run_bind, h2 w' he]
    exact h3 w' he
  | halt x w2 => rw [hs] at hr; simp [Result.andThen] at hr
theorem dead_bind {s : Go.Sem α} {f : α → Go.Sem β} (hf : ∀ v, Dead P (f v)) : Dead P (s >>= f) := fun w v w1 hr => by
  rw [Sem.run_bind] at hr
  cases hs : s.run P w with
  | ok u w2 => rw [hs] at hr; exact hf u _ _ _ hr
  | halt x w2 => rw [hs] at hr; simp [Result.andThen] at hr
theorem dead_left {s : Go.Sem α} {f : α → Go.Sem β} (hf : Dead P s) : Dead P (s >>= f) := fun w v w1 hr => by
  rw [Sem.run_bind] at hr
  cases hs : s.run P w with
  | ok u w2 => exact hf _ _ _ hs
  | halt x w2 => rw [hs] at hr; simp [Result.andThen] at hr
theorem dead_stuck (m : String) : Dead P (stuck m : Go.Sem α) := fun w v w1 h => by simp [stuck, Sem.run] at h
theorem dead_unsup (m : Unsupported) : Dead P (unsupported m : Go.Sem α) := fun w v w1 h => by simp [unsupported, Sem.run] at h
theorem dead_goPanic (m : Value) : Dead P (goPanic m : Go.Sem α) := fun w v w1 h => by simp [goPanic, Sem.run] at h
theorem dead_panic (e : RuntimeError) : Dead P (runtimePanic e : Go.Sem α) := by
  unfold runtimePanic
  refine dead_bind fun p => ?_
  dsimp only
  split
  all_goals first
    | exact dead_goPanic _
    | exact dead_bind fun _ => dead_bind fun _ => dead_goPanic _
theorem dead_bounds (k : IntKind) (x y : Int) (c : BoundsCode) : Dead P (boundsPanic k x y c : Go.Sem α) := by
  unfold boundsPanic
  dsimp only
  split
  all_goals exact dead_bind fun _ => dead_panic _
theorem calm_program : Calm P E program := fun w v w1 h => by
  simp only [program, Sem.run, Result.ok.injEq] at h
  obtain ⟨rfl, rfl⟩ := h
  exact ⟨rfl, fun _ _ => rfl⟩
theorem calm_typeInfo (t : TypeId) : Calm P E (typeInfo t) := by
  unfold typeInfo
  refine calm_bind calm_program fun p => ?_
  split
  · exact calm_pure _
  · exact (dead_stuck _).calm
theorem calm_underlying (t : TypeId) : Calm P E (underlying t) := by
  unfold underlying
  refine calm_bind calm_program fun p => ?_
  split
  · exact calm_pure _
  · exact (dead_stuck _).calm
theorem calm_sizeOf (t : TypeId) : Calm P E (sizeOf t) := calm_bind (calm_typeInfo t) fun _ => calm_pure _
theorem calm_zero (t : TypeId) : Calm P E (zeroValue t) := by
  unfold zeroValue
  refine calm_bind (calm_typeInfo t) fun i => ?_
  split
  · exact calm_pure _
  · exact (dead_unsup _).calm
theorem calm_isAgg (t : TypeId) : Calm P E (isAgg t) := by
  unfold isAgg
  refine calm_bind (calm_underlying t) fun d => ?_
  split <;> exact calm_pure _
theorem calm_asInt (v : Value) : Calm P E (asIntOf v) := by
  unfold asIntOf
  split
  · exact calm_pure _
  · exact (dead_unsup _).calm
  · exact (dead_stuck _).calm
theorem calm_asBool (v : Value) : Calm P E (asBool v) := by
  unfold asBool
  split
  · exact calm_pure _
  · exact (dead_stuck _).calm
theorem calm_part (t : TypeId) (cs : Array Value) (off : Nat) : Calm P E (part t cs off) := by
  unfold part
  refine calm_bind (calm_isAgg t) fun b => ?_
  split
  · exact calm_bind (calm_sizeOf t) fun _ => calm_pure _
  · split
    · exact calm_pure _
    · exact (dead_stuck _).calm
theorem calm_sure (v : Value) : Calm P E (Instr.sureAddr v) := by
  unfold Instr.sureAddr
  split
  · exact calm_pure _
  · exact (dead_stuck _).calm
theorem calm_asAddr (v : Value) : Calm P E (asAddr v) := by
  unfold asAddr
  split
  · exact calm_pure _
  · exact (dead_panic _).calm
  · exact (dead_stuck _).calm
theorem calm_bound (x : Value) (y : Nat) (c : BoundsCode) : Calm P E (Instr.sliceBound x y c) := by
  unfold Instr.sliceBound
  refine calm_bind (calm_asInt x) fun i => ?_
  dsimp only
  split
  · exact calm_pure _
  · exact (dead_bounds _ _ _ _).calm
theorem calm_bounds (b : Bool) (l c : Nat) (lo hi mx : Option Value) : Calm P E (Instr.sliceBounds b l c lo hi mx) := by
  have low : ∀ (h : Nat) (m : Nat) (lo : Option Value) (mx : Option Value), Calm P E (match lo with
      | some v => do let l ← Instr.sliceBound v h (if mx.isSome = true then BoundsCode.slice3C else BoundsCode.sliceB); pure (l, h, m)
      | none => do let l ← pure 0; pure (l, h, m) : Go.Sem (Nat × Nat × Nat)) := by
    intro h m lo mx
    split
    · exact calm_bind (calm_bound _ _ _) fun _ => calm_pure _
    · exact calm_bind (calm_pure _) fun _ => calm_pure _
  unfold Instr.sliceBounds
  dsimp only
  split
  · refine calm_bind (calm_bound _ _ _) fun m => ?_
    split
    all_goals first
      | exact calm_bind (calm_bound _ _ _) fun h => low h m lo _
      | exact calm_bind (calm_pure _) fun h => low h m lo _
      | exact (dead_stuck _).calm
      | exact (dead_bind fun _ => dead_stuck _).calm
      | exact calm_bind (dead_stuck _).calm fun h => low h m lo _
  · refine calm_bind (calm_pure _) fun m => ?_
    split
    all_goals first
      | exact calm_bind (calm_bound _ _ _) fun h => low h m lo _
      | exact calm_bind (calm_pure _) fun h => low h m lo _
      | exact (dead_stuck _).calm
      | exact calm_bind (dead_stuck _).calm fun h => low h m lo _
theorem calm_slice (t : TypeId) (x : Value) (lo hi mx : Option Value) : Calm P E (Instr.slice t x lo hi mx) := by
  unfold Instr.slice
  refine calm_bind (calm_underlying t) fun d => ?_
  split
  · split
    · exact (dead_bind (P := P) (s := pure ()) fun _ => dead_stuck _).calm
    · exact calm_bind (calm_bounds _ _ _ _ _ _) fun _ => calm_pure _
  · exact calm_bind (calm_bounds _ _ _ _ _ _) fun _ => calm_bind (calm_sizeOf _) fun _ => calm_pure _
  · refine calm_bind (calm_asAddr _) fun A => calm_bind (calm_underlying _) fun d => ?_
    split
    · exact calm_bind (calm_bounds _ _ _ _ _ _) fun _ => calm_bind (calm_sizeOf _) fun _ => calm_pure _
    · exact (dead_stuck _).calm
  · exact (dead_stuck _).calm
theorem calm_sliceAt (t : TypeId) (x : Value) (lo hi mx : Option Value) : Calm P E (Instr.sliceAt t x lo hi mx) := by
  unfold Instr.sliceAt
  refine calm_bind (calm_underlying t) fun d => ?_
  split
  · exact calm_bind (calm_sure _) fun A => calm_bind (calm_bounds _ _ _ _ _ _) fun _ => calm_bind (calm_sizeOf _) fun _ => calm_pure _
  · exact calm_slice _ _ _ _ _
theorem calm_index (t : TypeId) (x i : Value) : Calm P E (Instr.index t x i) := by
  unfold Instr.index
  refine calm_bind (calm_asInt i) fun k => calm_bind (calm_underlying t) fun d => ?_
  split
  · split
    · exact calm_bind (calm_sizeOf _) fun _ => calm_part _ _ _
    · exact (dead_bounds _ _ _ _).calm
  · split
    · exact calm_pure _
    · exact (dead_bounds _ _ _ _).calm
  · exact (dead_stuck _).calm
theorem calm_indexAt (t : TypeId) (x i : Value) : Calm P E (Instr.indexAt t x i) := by
  unfold Instr.indexAt
  refine calm_bind (calm_asInt i) fun k => calm_bind (calm_underlying t) fun d => ?_
  have rest : ∀ r : Option Addr × Nat × TypeId, Calm P E (match r with
      | (base, len, elem) => do
        let d ← underlying t
        have tiny : Bool := decide (len ≤ 1) && match d with | .array .. => true | _ => false
        match base with
        | some a => if 0 ≤ k.snd ∧ k.snd < (len : Int) then do pure (.pointer (some (a.add (k.snd.toNat * (← sizeOf elem))))) else if tiny then unsupported (.noEntry "op/indexAddr.an index out of range at an array of length 0 or 1 (ledger 616)") else boundsPanic k.fst k.snd len .index
        | none => boundsPanic k.fst k.snd 0 .index : Go.Sem Value) := by
    rintro ⟨base, len, elem⟩
    refine calm_bind (calm_underlying t) fun d => ?_
    dsimp only
    split
    · split
      · exact calm_bind (calm_sizeOf _) fun _ => calm_pure _
      · repeat' split
        all_goals first
          | exact (dead_unsup _).calm
          | exact (dead_bounds _ _ _ _).calm
    · exact (dead_bounds _ _ _ _).calm
  dsimp only
  split
  · exact calm_bind (calm_sure _) fun A => calm_bind (calm_pure _) fun r => rest r
  · exact calm_bind (calm_pure _) fun r => rest r
  · exact (dead_left (dead_stuck _)).calm
theorem calm_extract (t : Value) (i : Nat) : Calm P E (Instr.extract t i) := by
  unfold Instr.extract
  split
  · split
    · exact calm_pure _
    · exact (dead_stuck _).calm
  · exact (dead_stuck _).calm
theorem calm_iface (t : TypeId) (x : Value) : Calm P E (Instr.makeInterface t x) := by
  unfold Instr.makeInterface
  refine calm_bind (calm_underlying t) fun d => ?_
  split
  · exact (dead_stuck _).calm
  · exact calm_pure _
theorem calm_mapM {f : α → Go.Sem β} (hf : ∀ x, Calm P E (f x)) : ∀ l : List α, Calm P E (l.mapM f)
  | [] => by simp only [List.mapM_nil]; exact calm_pure _
  | x :: r => by
    simp only [List.mapM_cons]
    exact calm_bind (hf x) fun _ => calm_bind (calm_mapM hf r) fun _ => calm_pure _
theorem calm_mapA {f : α → Go.Sem β} (hf : ∀ x, Calm P E (f x)) (l : Array α) : Calm P E (l.mapM f) := by
  rw [Array.mapM_eq_mapM_toList]
  exact calm_bind (calm_mapM hf _) fun _ => calm_pure _
theorem calm_build (t : TypeId) (parts : Array (Nat × Value)) : Calm P E (Instr.build t parts) := by
  unfold Instr.build
  refine calm_bind (calm_zero t) fun z => calm_bind (calm_underlying t) fun d => ?_
  split
  · refine calm_bind (calm_mapA (fun f => calm_bind (calm_sizeOf _) fun _ => calm_pure _) _) fun pl => ?_
    split
    · exact calm_pure _
    · exact (dead_stuck _).calm
  · refine calm_bind (calm_sizeOf _) fun n => ?_
    split
    · exact calm_pure _
    · exact (dead_stuck _).calm
  · exact (dead_stuck _).calm
/-! ### Operations that only yield -/
def EL (b : Nat) : World → World → Prop := fun w w' => (∃ cs e fr, w.heap[b]? = some (.cells cs e fr)) ∧ w'.heap[b]? = w.heap[b]?
theorem calm_load {A : Addr} {b : Nat} (hb : A.block = b) : Calm P (EL b) (load A) := fun w v w1 h => by
  subst hb
  simp only [load, Sem.run] at h
  cases hc : w.cell? A with
  | some u =>
    simp only [hc, Result.ok.injEq] at h
    obtain ⟨rfl, rfl⟩ := h
    refine ⟨rfl, fun w' ⟨_, he⟩ => ?_⟩
    have : w'.cell? A = some u := by rw [← hc]; simp only [World.cell?, he]
    simp only [load, Sem.run, this]
  | none =>
    simp only [hc] at h
    split at h
    · rename_i u l hf
      simp only [Result.ok.injEq] at h
      obtain ⟨rfl, rfl⟩ := h
      refine ⟨rfl, fun w' ⟨⟨cs, e, fr, hcs⟩, _⟩ => ?_⟩
      simp [World.farLoad, hcs] at hf
    · simp at h
theorem calm_cells {A : Addr} {b : Nat} (hb : A.block = b) (hs : A.spot = none) : ∀ (n i : Nat) (acc : Array Value), Calm P (EL b) (loadCellsFrom A i n acc)
  | 0, i, acc => by unfold loadCellsFrom; exact calm_pure _
  | n + 1, i, acc => by
    unfold loadCellsFrom
    refine calm_bind (calm_load ?_) fun v => calm_cells hb hs n (i + 1) _
    obtain ⟨bb, oo, sp⟩ := A
    simp only at hs hb ⊢
    subst hs
    simpa [spot_add] using hb
theorem calm_loadVar {A : Addr} {b : Nat} (t : TypeId) (hb : A.block = b) (hs : A.spot = none) : Calm P (EL b) (loadVar t A) := by
  unfold loadVar
  refine calm_bind (calm_isAgg t) fun c => ?_
  split
  · exact calm_bind (calm_sizeOf t) fun n => calm_bind (calm_cells hb hs _ _ _) fun _ => calm_pure _
  · exact calm_load hb
theorem calm_of_run {s : Go.Sem α} {v : α} (h : ∀ w, s.run P w = .ok v w) : Calm P E s := fun w u w1 hr => by
  rw [h w] at hr
  simp only [Result.ok.injEq] at hr
  obtain ⟨rfl, rfl⟩ := hr
  exact ⟨rfl, fun w' _ => h w'⟩
def pureK (P : Program) (o : Oper) : Bool := match o.op with
  | .move _ | .assign _ | .pick .. | .load .. | .nilCheck _ | .binOp .. | .unOp .. | .fieldAddr .. | .indexAddr .. | .index .. | .extract .. | .build .. | .makeInterface .. | .makeFunc .. | .slice .. => true
  | .call c => (match c.callee with
    | .builtin .len => true
    | .builtin .min => true
    | .builtin .max => true
    | _ => false)
  | .convert _ dst _ => (intTy P dst).isSome
  | _ => false
def loadK (o : Oper) : Bool := match o.op with
  | .load .. => true
  | _ => false
/-- An operation of this form yields, and does nothing else. -/
def Form (P : Program) (a : Act) (w : World) (o : Oper) : Prop := ∃ (E : World → World → Prop) (s : Go.Sem Value), (∀ w v w1, (execOp a.eval o).run P w = .ok v w1 ↔ ∃ u, s.run P w = .ok u w1 ∧ v = .value u) ∧ Calm P E s ∧ ∀ w', (loadK o = true → Ext w w') → E w w'
theorem Form.of {a : Act} {w : World} {o : Oper} {s : Go.Sem Value} (hs : execOp a.eval o = (do pure (.value (← s)))) (hc : Calm P (fun _ _ => True) s) : Form P a w o := by
  refine ⟨_, s, fun w v w1 => ?_, hc, fun _ _ => trivial⟩
  rw [hs, Sem.run_bind]
  constructor
  · intro h
    cases hr : s.run P w with
    | ok u w2 => rw [hr] at h; simp only [Result.andThen_ok, Sem.run_pure, Result.ok.injEq] at h; exact ⟨u, by rw [h.2], h.1.symm⟩
    | halt x w2 => rw [hr] at h; simp [Result.andThen] at h
  · rintro ⟨u, hu, rfl⟩
    rw [hu]; simp
theorem form_ok (hG : Good Z S a w) {o : Oper} {br : Nat → Bool} {U : US} {p : Prop} (hk : pureK P o = true) (h : exec1 P br (erS S) o = some (p, ⟨U⟩)) (hp : p) : Form P a w o := by
  unfold exec1 at h
  split at h
  · rename_i x hop; exact .of (s := pure (a.eval x)) (by simp [execOp, hop]) (calm_pure _)
  · rename_i x hop; exact .of (s := pure (a.eval x)) (by simp [execOp, hop]) (calm_pure _)
  · rename_i c x y hop; exact .of (s := do pure (if ← asBool (a.eval c) then a.eval x else a.eval y)) (by simp [execOp, hop]) (calm_bind (calm_asBool _) fun _ => calm_pure _)
  · rename_i hop; simp [pureK, hop] at hk
  · rename_i hop; simp [pureK, hop] at hk
  · rename_i t x hop
    have hblk : ∃ A : Addr, a.eval x = .pointer (some A) ∧ A.spot = none ∧ ∃ cs e fr, w.heap[A.block]? = some (.cells cs e fr) := by
      unfold xLoad at h
      split at h
      · rename_i q u hv
        obtain ⟨v', h1, h2, h3, h4, _⟩ := ev_ok hG hv
        obtain ⟨g, rfl⟩ := erA_ptr h1
        obtain ⟨B, row, r1, r2⟩ := h4
        obtain ⟨cs, e, c1, _⟩ := hG.row r1
        simp only [IsA, r2] at h2
        exact ⟨_, h2, rfl, cs, e, _, c1⟩
      · rename_i row i u hv
        obtain ⟨v', h1, h2, h3, h4, _⟩ := ev_ok hG hv
        obtain ⟨r', g, rfl, hr⟩ := erA_psh h1
        obtain ⟨B, b1, b2, b3⟩ := h3
        simp only [IsA, b1] at h2
        refine ⟨_, h2, rfl, ?_⟩
        have hne : ∃ (j : Nat) (c : Tr Hd), r'[j]? = some c := by
          split at h
          · simp only [Option.some.injEq, Prod.mk.injEq] at h
            obtain ⟨rfl, _⟩ := h
            have := tyOk_pos hp.1
            have hl : 0 < row.length := by omega
            rw [← hr, erRow_length] at hl
            exact ⟨0, r'[0], List.getElem?_eq_getElem hl⟩
          · split at h
            · rename_i c hc
              rw [← hr, erRow_get] at hc
              cases hc2 : r'[i]? with
              | none => simp [hc2] at hc
              | some c2 => exact ⟨i, c2, hc2⟩
            · simp at h
        obtain ⟨j, c, hj⟩ := hne
        obtain ⟨⟨v, hv1, _⟩, _⟩ := b3 j c hj
        simp only [World.cell?] at hv1
        simp only
        split at hv1
        · rename_i cs e fr hcs; exact ⟨_, _, _, hcs⟩
        · simp at hv1
      · simp at h
    obtain ⟨A, hA, hs, cs, e, fr, hc⟩ := hblk
    refine ⟨EL A.block, loadVar t A, fun w v w1 => ?_, calm_loadVar t rfl hs, fun w' he => ⟨⟨cs, e, fr, hc⟩, he (by simp [loadK, hop]) A.block (Array.getElem?_eq_some_iff.1 hc).1⟩⟩
    simp only [execOp, hop, Instr.loadAt, hA, Instr.sureAddr, Sem.run_bind, Sem.run_pure, Result.andThen_ok]
    constructor
    · intro h
      cases hr : (loadVar t A).run P w with
      | ok u w2 => rw [hr] at h; simp only [Result.andThen_ok, Sem.run_pure, Result.ok.injEq] at h; exact ⟨u, by rw [h.2], h.1.symm⟩
      | halt x w2 => rw [hr] at h; simp [Result.andThen] at h
    · rintro ⟨u, hu, rfl⟩
      rw [hu]; simp
  · rename_i hop; simp [pureK, hop] at hk
  · rename_i x hop
    have hptr : ∃ A, a.eval x = .pointer (some A) := by
      unfold xNil at h
      split at h
      · rename_i q u hv
        obtain ⟨v', h1, h2, h3, h4, _⟩ := ev_ok hG hv
        obtain ⟨g, rfl⟩ := erA_ptr h1
        obtain ⟨B, row, r1, r2⟩ := h4
        simp only [IsA, r2] at h2
        exact ⟨_, h2⟩
      · rename_i row i u hv
        obtain ⟨v', h1, h2, h3, h4, _⟩ := ev_ok hG hv
        obtain ⟨r', g, rfl, _⟩ := erA_psh h1
        obtain ⟨B, b1, _⟩ := h3
        simp only [IsA, b1] at h2
        exact ⟨_, h2⟩
      · simp at h
    obtain ⟨A, hA⟩ := hptr
    exact .of (s := pure (.pointer (some A))) (by simp [execOp, hop, hA]) (calm_pure _)
  · rename_i op t x y bb hop
    unfold xBin at h
    split at h
    · rename_i va vb ha hb
      obtain ⟨v1, k1, k2, _⟩ := ev_ok hG ha
      obtain ⟨v2, k3, k4, _⟩ := ev_ok hG hb
      split at h
      · rename_i p0 v hbin
        have gen : (∀ w, (eqGuard op t x y (a.eval x) (a.eval y)).run P w = .ok () w) → Calm P (fun _ _ => True) (binOp op t (a.eval x) (a.eval y)) → Form P a w o := fun h1 h2 =>
          .of (s := do eqGuard op t x y (a.eval x) (a.eval y); binOp op t (a.eval x) (a.eval y)) (by simp [execOp, hop]) (calm_bind (calm_of_run h1) fun _ => h2)
        unfold bin at hbin
        split at hbin
        · rename_i k n k' m
          obtain ⟨t1, rfl, ht1⟩ := erA_tr k1
          obtain ⟨t2, rfl, ht2⟩ := erA_tr k3
          have := erT_int ht1; subst this
          have := erT_int ht2; subst this
          simp only [IsA, IsT] at k2 k4
          rw [k2, k4] at gen
          refine gen (fun w => by cases op <;> simp [eqGuard]) ?_
          unfold binOp
          cases op <;> simp only [Op.intArith, Op.intDiv, Op.intCmp, Op.intBits, Op.shift]
          all_goals (repeat' split)
          all_goals first
            | exact calm_pure _
            | exact (dead_stuck _).calm
            | exact (dead_panic _).calm
            | (simp [binI] at hbin; done)
        · rename_i s1 s2
          obtain ⟨t1, rfl, ht1⟩ := erA_tr k1
          obtain ⟨t2, rfl, ht2⟩ := erA_tr k3
          have := erT_str ht1; subst this
          have := erT_str ht2; subst this
          simp only [IsA, IsT] at k2 k4
          rw [k2, k4] at gen
          refine gen (fun w => by cases op <;> simp [eqGuard]) ?_
          unfold binOp
          cases op <;> simp only [Op.stringOp]
          all_goals (repeat' split)
          all_goals first
            | exact calm_pure _
            | exact (dead_stuck _).calm
            | exact (dead_unsup _).calm
        · rename_i b1 b2
          have e1 := ev_bool hG ha
          have e2 := ev_bool hG hb
          simp only [retIf, Option.some.injEq, Prod.mk.injEq, W.mk.injEq] at h
          obtain ⟨rfl, _⟩ := h
          rw [e1, e2] at gen
          split at hbin
          · simp only [Option.some.injEq, Prod.mk.injEq] at hbin
            obtain ⟨rfl, _⟩ := hbin
            exact gen (fun w => by simp [eqGuard]) (calm_of_run fun w => (run_binOp_bool (boolOk_spec hp) b1 b2 w).1)
          · simp only [Option.some.injEq, Prod.mk.injEq] at hbin
            obtain ⟨rfl, _⟩ := hbin
            exact gen (fun w => by simp [eqGuard]) (calm_of_run fun w => (run_binOp_bool (boolOk_spec hp) b1 b2 w).2)
          · simp at hbin
        · simp at hbin
      · simp at h
    · simp at h
  · rename_i op t x hop
    refine .of (s := Op.unary op (a.eval x)) (by simp [execOp, hop]) ?_
    unfold xUn at h
    split at h
    · split at h
      · rename_i b hv
        rw [ev_bool hG hv]; exact calm_pure _
      · simp at h
    · split at h
      · rename_i k n hv
        rw [ev_int hG hv]; exact calm_pure _
      · simp at h
    · simp at h
  · rename_i t x f hop
    unfold xField at h
    split at h
    · rename_i v k ft hv hf
      obtain ⟨v', h1, h2, h3, h4, _⟩ := ev_ok hG hv
      split at h
      · rename_i q u
        obtain ⟨g, rfl⟩ := erA_ptr h1
        obtain ⟨B, row, r1, r2⟩ := h4
        simp only [IsA, r2] at h2
        simp only [retIf, Option.some.injEq, Prod.mk.injEq, W.mk.injEq] at h
        obtain ⟨rfl, _⟩ := h
        exact .of (s := Instr.fieldAt t (a.eval x) f) (by simp [execOp, hop]) (calm_of_run fun w => by rw [h2]; exact run_fieldAt' hf hp _ _ w)
      · rename_i row i u
        obtain ⟨r', g, rfl, _⟩ := erA_psh h1
        obtain ⟨B, b1, _⟩ := h3
        simp only [IsA, b1] at h2
        simp only [retIf, Option.some.injEq, Prod.mk.injEq, W.mk.injEq] at h
        obtain ⟨rfl, _⟩ := h
        exact .of (s := Instr.fieldAt t (a.eval x) f) (by simp [execOp, hop]) (calm_of_run fun w => by rw [h2]; exact run_fieldAt' hf hp _ _ w)
      · simp at h
    · simp at h
  · rename_i t x i hop; exact .of (s := Instr.indexAt t (a.eval x) (a.eval i)) (by simp [execOp, hop]) (calm_indexAt _ _ _)
  · rename_i t x i hop; exact .of (s := Instr.index t (a.eval x) (a.eval i)) (by simp [execOp, hop]) (calm_index _ _ _)
  · rename_i x i hop; exact .of (s := Instr.extract (a.eval x) i) (by simp [execOp, hop]) (calm_extract _ _)
  · rename_i t parts hop; exact .of (s := Instr.build t (parts.map fun (i, x) => (i, a.eval x))) (by simp [execOp, hop]) (calm_build _ _)
  · rename_i hop; simp [pureK, hop] at hk
  · rename_i hop; simp [pureK, hop] at hk
  · rename_i fn first caps hop; exact .of (s := Instr.makeFunc fn (first.map a.eval) (caps.map a.eval)) (by simp [execOp, hop]) (calm_pure _)
  · rename_i t x hop; exact .of (s := Instr.makeInterface t (a.eval x)) (by simp [execOp, hop]) (calm_iface _ _)
  · rename_i t x lo hi mx hop; exact .of (s := Instr.sliceAt t (a.eval x) (lo.map a.eval) (hi.map a.eval) (mx.map a.eval)) (by simp [execOp, hop]) (calm_sliceAt _ _ _ _ _)
  · rename_i c hop
    split at h
    · rename_i b hc
      have hb : b = .len ∨ b = .min ∨ b = .max := by
        cases b <;> simp [pureK, hop, hc] at hk ⊢
      rcases hb with hb | hb | hb
      case inr.inl =>
        subst hb
        unfold xBuiltin at h
        simp only at h
        split at h
        · rename_i x y hxy
          have ha : c.args = #[x, y] := by apply Array.ext'; simpa using hxy
          refine .of (s := Builtin.min_ c.argTypes o.type #[a.eval x, a.eval y]) (by simp [execOp, hop, Go.resolve, hc, invoke, ha, builtin]) ?_
          unfold xMin at h
          split at h
          · rename_i k n k' m hA hB
            exact calm_of_run (v := .int k (if m < n then m else n)) fun w => by rw [ev_int hG hA, ev_int hG hB]; simp [Builtin.min_, Builtin.min2]
          · rename_i n m hA hB
            exact calm_of_run (E := fun _ _ => True) fun w => by rw [ev_str hG hA, ev_str hG hB]; exact run_min_str n m w
          · simp at h
        · simp at h
      case inr.inr =>
        subst hb
        unfold xBuiltin at h
        simp only at h
        split at h
        · rename_i x y hxy
          have ha : c.args = #[x, y] := by apply Array.ext'; simpa using hxy
          refine .of (s := Builtin.max_ c.argTypes o.type #[a.eval x, a.eval y]) (by simp [execOp, hop, Go.resolve, hc, invoke, ha, builtin]) ?_
          unfold xMax at h
          split at h
          · rename_i k n k' m hA hB
            exact calm_of_run (v := .int k (if n < m then m else n)) fun w => by rw [ev_int hG hA, ev_int hG hB]; simp [Builtin.max_, Builtin.max2]
          · rename_i n m hA hB
            exact calm_of_run (E := fun _ _ => True) fun w => by rw [ev_str hG hA, ev_str hG hB]; exact run_max_str n m w
          · simp at h
        · simp at h
      subst hb
      unfold xBuiltin at h
      split at h
      · split at h
        · rename_i x t hx ht
          have ha : c.args = #[x] := by apply Array.ext'; simpa using hx
          have hta : c.argTypes = #[t] := by apply Array.ext'; simpa using ht
          have hexec : execOp a.eval o = (do pure (.value (← Builtin.len_ #[t] o.type #[a.eval x]))) := by
            simp [execOp, hop, Go.resolve, hc, invoke, ha, hta, builtin]
          refine .of hexec ?_
          unfold xLen at h
          split at h
          · rename_i v hv
            split at h
            · rename_i p0 n hlen
              simp only [retIf, Option.some.injEq, Prod.mk.injEq, W.mk.injEq] at h
              obtain ⟨rfl, rfl⟩ := h
              obtain ⟨v', h1, h2, h3, h4, h5, h6⟩ := ev_ok hG hv
              unfold lenOf at hlen
              split at hlen
              · obtain ⟨t', rfl, ht⟩ := erA_tr h1
                obtain ⟨g, rows', rfl, rfl⟩ := erT_sl ht
                simp only [IsA, IsT] at h2
                simp only [Option.some.injEq, Prod.mk.injEq, erRows_length] at hlen
                obtain ⟨rfl, rfl⟩ := hlen
                obtain ⟨s1, s2⟩ := slOk_elem hp
                exact calm_of_run (v := .int .i64 rows'.length) fun w => by rw [h2, run_len_slice w t _ _ _ _ s1]; rfl
              · rename_i q lo n0 cp u
                obtain ⟨g, rfl⟩ := erA_ref h1
                simp only [IsA] at h2
                simp only [Option.some.injEq, Prod.mk.injEq] at hlen
                obtain ⟨rfl, rfl⟩ := hlen
                obtain ⟨s1, s2⟩ := slOk_elem hp
                exact calm_of_run (v := .int .i64 n0) fun w => by rw [h2, run_len_slice w t _ _ _ _ s1]; rfl
              · rename_i s0
                obtain ⟨t', rfl, ht⟩ := erA_tr h1
                have := erT_str ht
                subst this
                simp only [IsA, IsT] at h2
                simp only [Option.some.injEq, Prod.mk.injEq] at hlen
                obtain ⟨rfl, rfl⟩ := hlen
                exact calm_of_run (v := .int .i64 s0.length) fun w => by rw [h2]; simp [Builtin.len_, run_underlying (strOk_spec hp.1), goInt]; rfl
              · simp at hlen
            · simp at h
          · simp at h
        · simp at h
      all_goals first
        | (exfalso; rename_i h1 h2 h3 h4; exact h1 rfl)
        | (exfalso; rename_i h1 h2 h3; exact h1 rfl)
        | (rename_i heq; simp at heq; done)
        | (exfalso; simp_all; done)
    · simp at h
  · rename_i src dst x hop
    simp only [pureK, hop, Option.isSome_iff_exists] at hk
    obtain ⟨k, hk⟩ := hk
    unfold xConvert at h
    simp only [hk] at h
    split at h
    · rename_i k' n hv
      simp only [retIf, Option.some.injEq, Prod.mk.injEq, W.mk.injEq] at h
      obtain ⟨rfl, _⟩ := h
      have e1 := ev_int hG hv
      exact .of (s := convert src dst (a.eval x)) (by simp [execOp, hop]) (calm_of_run fun w => by rw [e1]; exact run_conv_int hp.1 hk hp.2 w)
    · simp at h
  · simp at h
end Go.HT
end
section
namespace Go.HT
open Go
variable {P : Program} {md : Modes} {Z : Zone} {S S0 : St Hd} {a : Act} {w w0 : World} {α β : Type} {n : Nat} {pn : Nat → Option Value}

/-! ### Operations that leave what is there as it is -/
theorem Ext.refl (w : World) : Ext w w := fun _ _ => rfl
theorem Ext.trans {w w1 w2 : World} (h : Ext w w1) (h' : Ext w1 w2) : Ext w w2 := fun b hb => by
  have h1 := h b hb
  have : b < w1.heap.size := by
    have h2 : w1.heap[b]? = some w.heap[b] := by rw [h1]; exact Array.getElem?_eq_getElem hb
    exact (Array.getElem?_eq_some_iff.1 h2).1
  rw [h' b this, h1]
def Grow (P : Program) (s : Go.Sem α) : Prop := ∀ w v w1, s.run P w = .ok v w1 → Ext w w1
theorem Calm.grow {s : Go.Sem α} (h : Calm P (fun _ _ => True) s) : Grow P s := fun w v w1 hr => by
  obtain ⟨rfl, _⟩ := h w v w1 hr
  exact .refl _
theorem grow_bind {s : Go.Sem α} {f : α → Go.Sem β} (h : Grow P s) (hf : ∀ v, Grow P (f v)) : Grow P (s >>= f) := fun w v w1 hr => by
  rw [Sem.run_bind] at hr
  cases hs : s.run P w with
  | ok u w2 => rw [hs] at hr; exact (h w u w2 hs).trans (hf u _ _ _ hr)
  | halt x w2 => rw [hs] at hr; simp [Result.andThen] at hr
theorem grow_new (o : Obj) : Grow P (newObj o) := fun w v w1 hr => by
  simp only [newObj, Sem.run, Result.ok.injEq] at hr
  obtain ⟨_, rfl⟩ := hr
  exact fun b hb => by simp only; rw [Array.getElem?_push_lt hb, Array.getElem?_eq_getElem hb]
theorem grow_row (e : TypeId) (cs : Array Value) : Grow P (newRow e cs) := grow_bind (grow_new _) fun _ => (calm_pure _).grow
theorem grow_room (n : Nat) : Grow P (askRoom n) := fun w v w1 hr => by
  unfold askRoom at hr
  split at hr
  · simp only [mark, Sem.run, Result.ok.injEq] at hr; obtain ⟨_, rfl⟩ := hr; exact .refl _
  · simp only [Sem.run_pure, Result.ok.injEq] at hr; obtain ⟨_, rfl⟩ := hr; exact .refl _
theorem grow_alloc (e : TypeId) : Grow P (Instr.alloc e true (.tuple #[])) := by
  unfold Instr.alloc
  exact grow_bind (calm_zero e).grow fun _ => grow_bind (grow_row _ _) fun _ => (calm_pure _).grow
theorem grow_box (e : TypeId) (v : Value) : Grow P (Instr.box e v) := grow_bind (grow_row _ _) fun _ => (calm_pure _).grow
theorem grow_buildSlice (t : TypeId) (n : Nat) (parts : Array (Nat × Value)) : Grow P (Instr.buildSlice t n parts) := by
  unfold Instr.buildSlice
  refine grow_bind (calm_underlying t).grow fun d => ?_
  split
  · refine grow_bind (calm_sizeOf _).grow fun size => ?_
    dsimp only
    split
    · exact (dead_left (dead_unsup _)).calm.grow
    · split
      · refine grow_bind (calm_pure _).grow fun z => ?_
        split
        · exact grow_bind (grow_row _ _) fun _ => (calm_pure _).grow
        · exact (dead_stuck _).calm.grow
      · refine grow_bind (calm_zero _).grow fun z0 => grow_bind (calm_pure _).grow fun z => ?_
        split
        · exact grow_bind (grow_row _ _) fun _ => (calm_pure _).grow
        · exact (dead_stuck _).calm.grow
  · exact (dead_stuck _).calm.grow
theorem grow_makeSlice (t : TypeId) (l c : Value) : Grow P (Instr.makeSlice t l c) := by
  unfold Instr.makeSlice
  refine grow_bind (calm_underlying t).grow fun d => ?_
  split
  · refine grow_bind (calm_bind (calm_asInt _) fun _ => calm_pure _).grow fun l => grow_bind (calm_bind (calm_asInt _) fun _ => calm_pure _).grow fun c => grow_bind (calm_typeInfo _).grow fun i => ?_
    dsimp only
    split
    · split
      · exact (dead_left (dead_panic _)).calm.grow
      · split
        · exact (dead_left (dead_panic _)).calm.grow
        · exact (dead_bind fun _ => dead_left (dead_panic _)).calm.grow
    · refine grow_bind (grow_room _) fun _ => grow_bind (calm_sizeOf _).grow fun n => ?_
      split
      · exact grow_bind (calm_pure _).grow fun z => grow_bind (grow_row _ _) fun _ => (calm_pure _).grow
      · exact grow_bind (calm_zero _).grow fun z0 => grow_bind (calm_pure _).grow fun z => grow_bind (grow_row _ _) fun _ => (calm_pure _).grow
  · exact (dead_stuck _).calm.grow
/-- Operations that leave all blocks as they are. -/
def growK (o : Oper) : Bool := match o.op with
  | .alloc _ | .box .. | .makeSlice .. | .buildSlice .. => true
  | _ => false
def quietO (P : Program) (md : Modes) (o : Oper) : Bool := pureK P o || growK o || quietC md o
theorem grow_op {o : Oper} (hk : growK o = true) {nx : Next} {w w1 : World} (h : (execOp a.eval o).run P w = .ok nx w1) : Ext w w1 := by
  have key : ∀ s : Go.Sem Value, execOp a.eval o = (do pure (.value (← s))) → Grow P s → Ext w w1 := fun s hs hg => by
    rw [hs] at h
    exact grow_bind hg (fun _ => (calm_pure _).grow) w nx w1 h
  unfold growK at hk
  split at hk
  · rename_i e hop; exact key (Instr.alloc e true (.tuple #[])) (by simp [execOp, hop]) (grow_alloc e)
  · rename_i e x hop; exact key (Instr.box e (a.eval x)) (by simp [execOp, hop]) (grow_box _ _)
  · rename_i t x y hop; exact key (Instr.makeSlice t (a.eval x) (a.eval y)) (by simp [execOp, hop]) (grow_makeSlice _ _ _)
  · rename_i t n parts hop; exact key (Instr.buildSlice t n (parts.map fun (i, x) => (i, a.eval x))) (by simp [execOp, hop]) (grow_buildSlice _ _ _)
  · simp at hk

/-! ### Whatever order is drawn -/
section
variable {ops : Array Oper} {Q : Exit → Act → World → Prop} {A : Nat → Prop} {bf : Nat → Nat → Bool}
def wpAnyR (P : Program) (ops : Array Oper) (Q : Exit → Act → World → Prop) (A : Nat → Prop) : Nat → Array Bool → Act → World → Prop
  | 0, listed, a, w => Region.ready .any ops listed = [] ∧ Q .normal a w
  | fuel + 1, listed, a, w =>
    (Region.ready .any ops listed = [] → Q .normal a w) ∧
    ∀ i ∈ Region.ready .any ops listed, wpOp P ops Q i (fun a' w' => (A i → Ext w w') ∧ wpAnyR P ops Q A fuel (listed.setIfInBounds i true) a' w') a w
theorem wpAny_of_R : ∀ (fuel : Nat) (listed : Array Bool) (a : Act) (w : World), wpAnyR P ops Q A fuel listed a w → wpAny P .any ops Q fuel listed a w
  | 0, _, _, _, h => h
  | fuel + 1, _, _, _, h => ⟨h.1, fun i hi => wpOp_mono (fun a' w' h' => wpAny_of_R fuel _ a' w' h'.2) (h.2 i hi)⟩
theorem YieldsIf.mono' {S T : World → Prop} {o : Oper} {v : Value} {a : Act} (h : YieldsIf P ops S o v a) (hst : ∀ w, T w → S w) : YieldsIf P ops T o v a :=
  h.imp (fun ⟨h1, h2⟩ => ⟨h1, fun w hw => h2 w (hst w hw)⟩) id
theorem wpAnyR_first (hb : BfOk .any ops bf) {i : Nat} {oi : Oper} {v : Value} {ld : Prop} (hi : ops[i]? = some oi) (hsel : ∀ (j : Nat) (o : Oper) cs b, ops[j]? = some o → o.op ≠ .select cs b)
    (hQ : ∀ c a w, Q (.panic c) (a.put oi.dst v) w → Q (.panic c) a w) :
    ∀ (fuel : Nat) (listed : Array Bool) (a : Act) (w : World), Shut bf listed →
      (∀ j oj, ops[j]? = some oj → j ≠ i → listed.getD j true = false → bf i j = false → oi.apart ops oj = true ∧ (ld → A j)) →
      i ∈ Region.ready .any ops listed → YieldsIf P ops (fun w' => ld → Ext w w') oi v a →
      wpAnyR P ops Q A fuel (listed.setIfInBounds i true) (a.put oi.dst v) w → wpAnyR P ops Q A (fuel + 1) listed a w := by
  intro fuel
  induction fuel with
  | zero =>
    intro listed a w hsh _ hr hy H
    refine ⟨fun h => (by rw [h] at hr; cases hr), fun j hj => ?_⟩
    by_cases hji : j = i
    · subst hji; exact hy.wpOp hi (fun _ => .refl w) ⟨fun _ => .refl w, H⟩
    · have := ready_mono hj hji
      rw [H.1] at this
      cases this
  | succ fuel ih =>
    intro listed a w hsh hfree hr hy H
    refine ⟨fun h => (by rw [h] at hr; cases hr), fun j hj => ?_⟩
    by_cases hji : j = i
    · subst hji; exact hy.wpOp hi (fun _ => .refl w) ⟨fun _ => .refl w, H⟩
    · have h1 := H.2 j (ready_mono hj hji)
      obtain ⟨hjun, oj, hoj, hall⟩ := mem_ready.1 hj
      have hun : ¬ (listed.getD i false = true) := by
        intro h
        have h0 := (mem_ready.1 hr).1
        rcases Nat.lt_or_ge i listed.size with h' | h'
        · simp [h'] at h0 h; rw [h0] at h; cases h
        · simp [Array.getElem?_eq_none h'] at h
      have hbf : bf i j = false := by
        cases hh : bf i j with
        | false => rfl
        | true => exact absurd (not_bf hb hsh hj hh) hun
      obtain ⟨hap, hAj⟩ := hfree j oj hoj hji hjun hbf
      have h2 := wpOp_putIf hoj hap (fun cs b => hsel i oi cs b hi) (fun cs b => hsel j oj cs b hoj) hQ hy h1
      have hfree' : ∀ k ok, ops[k]? = some ok → k ≠ i → (listed.setIfInBounds j true).getD k true = false → bf i k = false → oi.apart ops ok = true ∧ (ld → A k) := fun k ok hk hki hun hno => by
        refine hfree k ok hk hki ?_ hno
        by_cases hjk : j = k
        · subst hjk; exact hjun
        · rw [getD_set_ne true hjk] at hun; exact hun
      refine wpOp_mono (fun a' w' h3 => ⟨h3.2.1, ih (listed.setIfInBounds j true) a' w' (hsh.step hb hj) hfree' (ready_mono hr (Ne.symm hji)) (YieldsIf.mono' h3.1 fun w2 he hl => (h3.2.1 (hAj hl)).trans (he hl)) ?_⟩) h2
      rw [Array.setIfInBounds_comm _ _ hji]
      exact h3.2.2
theorem wp_region_R {id : Nat} {a : Act} {w : World} (hm : P.follows .mixedOrders = true)
    (h : wpAnyR P ops Q A ops.size (Array.replicate ops.size false) a { w with drawn := w.drawn + 1 }) : (Code.region id ops true).wp P Q a w :=
  wp_region_any hm (wpAny_of_R _ _ _ _ h)
end
section
variable {ops : Array Oper}
/-- One operation runs as the interpreter says; what is quiet leaves all blocks as they are. -/
theorem opG_ok (hcall : CallOk P md Z S0 w0 n pn) {i : Nat} {o : Oper} {K : W → Prop} {Q : Exit → Act → World → Prop} (hoi : ops[i]? = some o) (hd : ∀ d, o.dst = some d → d < n ∧ pn d = none)
    (h : Now Z S0 w0 n pn (fun S => vcG P md ops.toList o S K) a w) : wpOp P ops Q i (fun a' w' => (quietO P md o = true → Ext w w') ∧ Now Z S0 w0 n pn K a' w') a w := by
  obtain ⟨S, hG, hv, hf, hs, hrest⟩ := h
  have run : vcO P md o ⟨erS S⟩ K → o.wp P a w (fun a' w' => (quietO P md o = true → Ext w w') ∧ Now Z S0 w0 n pn K a' w') Q := fun hv => by
    unfold vcO at hv
    split at hv
    · rename_i f as hc
      split at hv
      · rename_i fid caps he
        refine Oper.wp_mono (fun a' w' h => ⟨fun hq => h.2 ?_, h.1⟩) (hcall o f as fid caps K Q a w S hc hd he hv hG hf hs hrest)
        obtain ⟨c, hop, hcal, _⟩ := callOf_ok hc
        simp only [quietO, Bool.or_eq_true] at hq
        rcases hq with (hq | hq) | hq
        · simp [pureK, hop, hcal] at hq
        · simp [growK, hop] at hq
        · exact hq
      · exact hv.elim
    · rename_i hcn
      split at hv
      · rename_i p S1 hx
        obtain ⟨hp, hK⟩ := hv
        obtain ⟨S', v, w', hrun, g1, g2, g3, _, _⟩ := exec1_ok hG (fun d h => by rw [hs]; exact (hd d h).1) (U := S1.s) hx hp
        have hnow : Now Z S0 w0 n pn K (a.put o.dst v) w' := ⟨S', g1, by rw [g2]; exact hK, hf.trans g3, by rw [put_size]; exact hs, rest_put hrest (fun x hx => (hd x hx).2) _⟩
        have hext : quietO P md o = true → Ext w w' := fun hq => by
          simp only [quietO, Bool.or_eq_true] at hq
          rcases hq with (hq | hq) | hq
          · obtain ⟨E, s, k1, k2, _⟩ := form_ok hG hq hx hp
            rcases hrun with hrun | ⟨hrun, _⟩
            · obtain ⟨u, k3, _⟩ := (k1 _ _ _).1 hrun
              obtain ⟨rfl, _⟩ := k2 _ _ _ k3
              exact .refl _
            · obtain ⟨u, _, k4⟩ := (k1 _ _ _).1 hrun
              simp at k4
          · rcases hrun with hrun | ⟨hrun, _⟩
            · exact grow_op hq hrun
            · exact grow_op hq hrun
          · exfalso
            unfold quietC at hq
            split at hq
            · rename_i c hop
              split at hq
              · rename_i f hcal
                unfold exec1 at hx
                simp [hop, hcal] at hx
              · simp at hq
            · simp at hq
        unfold Oper.wp
        rcases hrun with hrun | ⟨hrun, rfl⟩
        · rw [hrun]; exact ⟨hext, hnow⟩
        · rw [hrun]; exact ⟨hext, hnow⟩
      · exact hv.elim
  unfold wpOp
  simp only [hoi]
  simp only [vcG] at hv
  split at hv
  · rename_i hg
    have : Region.wanted o (yielded ops a.tmps) = true := by simp [Region.wanted, hg]
    rw [if_pos this]
    exact .inl (run hv)
  · rename_i j want hg
    split at hv
    · rename_i oj hj
      split at hv
      · rename_i d hdj
        split at hv
        · rename_i b hb
          have hy := guard_yields hG hj hdj hb
          have hw : Region.wanted o (yielded ops a.tmps) = decide (b = want) := by simp [Region.wanted, hg, hy, beq_dec]
          by_cases hbw : b = want
          · rw [hw, if_pos (by simp [hbw])]
            exact .inl (run (hv.1 hbw))
          · rw [hw, if_neg (by simp [hbw])]
            refine ⟨fun _ => .refl _, skip_ok hd ⟨S, hG, hv.2 ?_, hf, hs, hrest⟩⟩
            cases b <;> cases want <;> simp_all
        · rename_i vs hb
          have hy := tup_yields (ops := ops) hG hj hdj hb
          have hw : Region.wanted o (yielded ops a.tmps) = false := by simp [Region.wanted, hg, hy]
          rw [hw, if_neg (by simp)]
          exact ⟨fun _ => .refl _, skip_ok hd ⟨S, hG, hv, hf, hs, hrest⟩⟩
        · exact hv.elim
      · exact hv.elim
    · exact hv.elim
where
  guard_yields {S : St Hd} (hG : Good Z S a w) {j d : Nat} {oj : Oper} {b : Bool} (hj : ops.toList[j]? = some oj) (hdj : oj.dst = some d) (hb : look (erS S) d = some (.tmp (.tr (.bool b)))) : yielded ops a.tmps j = some b := by
    have hval : a.tmps.getD d undef = .bool b := by
      rw [look_er] at hb
      cases hl : look S d with
      | none => simp [hl] at hb
      | some e =>
        simp only [hl, Option.map_some, Option.some.injEq] at hb
        have hent := hG.ent _ _ hl
        cases e with
        | tmp v =>
          simp only [erE, Ent.tmp.injEq] at hb
          obtain ⟨t, rfl, ht⟩ := erA_tr hb
          have := erT_bool ht
          subst this
          exact hent.1
        | box => simp [erE] at hb
        | vir => simp [erE] at hb
    have hj' : ops[j]? = some oj := by simpa using hj
    have hd2 : ∃ x, a.tmps[d]? = some x ∧ x = .bool b := by
      rw [Array.getD_eq_getD_getElem?] at hval
      cases hx : a.tmps[d]? with
      | none => rw [hx] at hval; simp [undef] at hval
      | some x => rw [hx] at hval; exact ⟨x, rfl, by simpa using hval⟩
    obtain ⟨x, hx, rfl⟩ := hd2
    simp [yielded, hj', hdj, hx]
/-- An operation that only yields, taken first. -/
theorem takeG_ok {o : Oper} {K : W → Prop} (hk : pureK P o = true) (hd : ∀ d, o.dst = some d → d < n ∧ pn d = none)
    (h : Now Z S0 w0 n pn (fun S => vcG P md ops.toList o S K) a w) : ∃ v, YieldsIf P ops (fun w' => loadK o = true → Ext w w') o v a ∧ Now Z S0 w0 n pn K (a.put o.dst v) w := by
  obtain ⟨S, hG, hv, hf, hs, hrest⟩ := h
  have run : vcO P md o ⟨erS S⟩ K → ∃ v, (∀ w', (loadK o = true → Ext w w') → (execOp a.eval o).run P w' = .ok (.value v) w') ∧ Now Z S0 w0 n pn K (a.put o.dst v) w := fun hv => by
    unfold vcO at hv
    split at hv
    · rename_i f as hc
      obtain ⟨c, hop, hcal, _⟩ := callOf_ok hc
      simp [pureK, hop, hcal] at hk
    · split at hv
      · rename_i p S1 hx
        obtain ⟨hp, hK⟩ := hv
        obtain ⟨S', v, w', hrun, g1, g2, g3, _, _⟩ := exec1_ok hG (fun d h => by rw [hs]; exact (hd d h).1) (U := S1.s) hx hp
        obtain ⟨E, s, k1, k2, k3⟩ := form_ok hG hk hx hp
        have hrun' : (execOp a.eval o).run P w = .ok (.value v) w' := by
          rcases hrun with hrun | ⟨hrun, _⟩
          · exact hrun
          · obtain ⟨u, _, k4⟩ := (k1 _ _ _).1 hrun
            simp at k4
        obtain ⟨u, k4, k5⟩ := (k1 _ _ _).1 hrun'
        simp only [Next.value.injEq] at k5
        subst k5
        obtain ⟨rfl, k6⟩ := k2 _ _ _ k4
        exact ⟨v, fun w2 he => (k1 _ _ _).2 ⟨v, k6 w2 (k3 w2 he), rfl⟩, ⟨S', g1, by rw [g2]; exact hK, hf.trans g3, by rw [put_size]; exact hs, rest_put hrest (fun x hx => (hd x hx).2) _⟩⟩
      · exact hv.elim
  simp only [vcG] at hv
  split at hv
  · rename_i hg
    have hw : Region.wanted o (yielded ops a.tmps) = true := by simp [Region.wanted, hg]
    obtain ⟨v, h1, h2⟩ := run hv
    exact ⟨v, .inl ⟨hw, h1⟩, h2⟩
  · rename_i j want hg
    split at hv
    · rename_i oj hj
      split at hv
      · rename_i d hdj
        split at hv
        · rename_i b hb
          have hy := opG_ok.guard_yields hG hj hdj hb
          have hw : Region.wanted o (yielded ops a.tmps) = decide (b = want) := by simp [Region.wanted, hg, hy, beq_dec]
          by_cases hbw : b = want
          · obtain ⟨v, h1, h2⟩ := run (hv.1 hbw)
            exact ⟨v, .inl ⟨by rw [hw]; simp [hbw], h1⟩, h2⟩
          · refine ⟨undef, .inr ⟨by rw [hw]; simp [hbw], rfl⟩, skip_ok hd ⟨S, hG, hv.2 ?_, hf, hs, hrest⟩⟩
            cases b <;> cases want <;> simp_all
        · rename_i vs hb
          have hy := tup_yields (ops := ops) hG hj hdj hb
          have hw : Region.wanted o (yielded ops a.tmps) = false := by simp [Region.wanted, hg, hy]
          exact ⟨undef, .inr ⟨hw, rfl⟩, skip_ok hd ⟨S, hG, hv, hf, hs, hrest⟩⟩
        · exact hv.elim
      · exact hv.elim
    · exact hv.elim
/-! ### Plans -/
/-- Whom the operations wait for, and those whom these wait for: a number of bits each. -/
def upM (M : List Nat) (l : List Edge) : Nat := l.foldl (fun acc e => if Region.binds .any e then acc ||| (1 <<< e.on) ||| M.getD e.on 0 else acc) 0
def ancM : List Oper → List Nat → List Nat
  | [], M => M
  | o :: r, M => ancM r (M ++ [upM M o.after.toList])
def bfM (M : List Nat) (i j : Nat) : Bool := (M.getD j 0).testBit i
def bfChk (ops : Array Oper) (M : List Nat) : Bool := (List.range M.length).all fun j => match ops[j]? with
  | some oj => M.getD j 0 == upM M oj.after.toList
  | none => M.getD j 0 == 0
theorem upM_bit (M : List Nat) (i : Nat) : ∀ (l : List Edge) (acc : Nat), (l.foldl (fun acc e => if Region.binds .any e then acc ||| (1 <<< e.on) ||| M.getD e.on 0 else acc) acc).testBit i = true →
    acc.testBit i = true ∨ ∃ e ∈ l, Region.binds .any e = true ∧ (e.on = i ∨ bfM M i e.on = true)
  | [], acc, h => .inl h
  | e :: r, acc, h => by
    simp only [List.foldl_cons] at h
    rcases upM_bit M i r _ h with h1 | ⟨e', he, h2⟩
    · split at h1
      · rename_i hb
        rw [Nat.testBit_or, Nat.testBit_or, Bool.or_eq_true, Bool.or_eq_true] at h1
        rcases h1 with (h1 | h1) | h1
        · exact .inl h1
        · refine .inr ⟨e, by simp, hb, .inl ?_⟩
          rw [Nat.one_shiftLeft, Nat.testBit_two_pow] at h1
          simpa using h1
        · exact .inr ⟨e, by simp, hb, .inr h1⟩
      · exact .inl h1
    · exact .inr ⟨e', by simp [he], h2⟩
theorem bfChk_ok {M : List Nat} (h : bfChk ops M = true) : BfOk .any ops (bfM M) := by
  intro i j oj hj hb
  have hlt : j < M.length := by
    rcases Nat.lt_or_ge j M.length with h' | h'
    · exact h'
    · simp [bfM, List.getD, List.getElem?_eq_none h'] at hb
  have h1 := List.all_eq_true.1 h j (List.mem_range.2 hlt)
  simp only [hj, beq_iff_eq] at h1
  unfold bfM at hb
  rw [h1] at hb
  rcases upM_bit M i _ _ hb with h2 | ⟨e, he, h2, h3⟩
  · simp at h2
  · exact ⟨e, by simpa using he, h2, h3⟩
def takable (P : Program) (md : Modes) (ops : Array Oper) (bf : Nat → Nat → Bool) (listed : Array Bool) (i : Nat) (oi : Oper) : Bool := pureK P oi && (List.range ops.size).all fun j => j == i || listed.getD j true || bf i j || match ops[j]? with
  | some oj => oi.apart ops oj && (!loadK oi || quietO P md oj)
  | none => true
def planOk (P : Program) (md : Modes) (ops : Array Oper) (bf : Nat → Nat → Bool) : Plan → List Nat → Array Bool → Bool
  | .fin, seen, l => seen.isEmpty && (Region.ready .any ops l).isEmpty
  | .take i p, seen, l => seen.isEmpty && (Region.ready .any ops l).contains i && (match ops[i]? with
    | some oi => takable P md ops bf l i oi
    | none => false) && planOk P md ops bf p [] (l.setIfInBounds i true)
  | .any i p q, seen, l => planOk P md ops bf p [] (l.setIfInBounds i true) && planOk P md ops bf q (i :: seen) l
  | .non, seen, l => !seen.isEmpty && !(Region.ready .any ops l).isEmpty && (Region.ready .any ops l).all fun i => seen.contains i
/-- How many have not come up yet. -/
def unl (ops : Array Oper) (l : Array Bool) : Nat := (List.range ops.size).countP fun i => !l.getD i true
theorem ready_unl {l : Array Bool} {i : Nat} (h : i ∈ Region.ready .any ops l) : unl ops (l.setIfInBounds i true) + 1 ≤ unl ops l := by
  obtain ⟨h1, oj, h2, _⟩ := mem_ready.1 h
  have hi : i < ops.size := (Array.getElem?_eq_some_iff.1 h2).1
  have hne : ∀ j, j ≠ i → (l.setIfInBounds i true).getD j true = l.getD j true := fun j hj => getD_set_ne true (fun hh => hj hh.symm)
  have hself : (l.setIfInBounds i true).getD i true = true := by
    rw [Array.getD_eq_getD_getElem?, Array.getElem?_setIfInBounds_self]
    split <;> rfl
  have key : ∀ L : List Nat, L.Nodup → i ∈ L → L.countP (fun j => !(l.setIfInBounds i true).getD j true) + 1 ≤ L.countP (fun j => !l.getD j true) := by
    intro L
    induction L with
    | nil => intro _ h; simp at h
    | cons x r ih =>
      intro hn hm
      have hn' := List.nodup_cons.1 hn
      simp only [List.countP_cons]
      rcases List.mem_cons.1 hm with rfl | hm
      · have : r.countP (fun j => !(l.setIfInBounds i true).getD j true) = r.countP (fun j => !l.getD j true) := by
          refine List.countP_congr fun j hj => ?_
          rw [hne j (by rintro rfl; exact hn'.1 hj)]
        rw [this, hself, h1]; simp
      · have hx : x ≠ i := by rintro rfl; exact hn'.1 hm
        rw [hne x hx]
        have := ih hn'.2 hm
        omega
  exact key _ List.nodup_range (List.mem_range.2 hi)
theorem plan_some {bf : Nat → Nat → Bool} : ∀ {p : Plan} {seen : List Nat} {l : Array Bool}, seen ≠ [] → planOk P md ops bf p seen l = true → Region.ready .any ops l ≠ []
  | .fin, seen, l, hs, h => by simp [planOk, hs] at h
  | .take i p, seen, l, hs, h => by simp [planOk, hs] at h
  | .any i p q, seen, l, hs, h => by
    simp only [planOk, Bool.and_eq_true] at h
    exact plan_some (p := q) (by simp) h.2
  | .non, seen, l, hs, h => by
    simp only [planOk, Bool.and_eq_true] at h
    intro hr
    simp [hr] at h
theorem plan_ok (hcall : CallOk P md Z S0 w0 n pn) {QQ : Out → W → Prop} {bf : Nat → Nat → Bool} (hbf : BfOk .any ops bf) (hsel : Region.noSelect ops = true) (hd : ∀ o ∈ ops.toList, ∀ d, o.dst = some d → d < n ∧ pn d = none) :
    ∀ (p : Plan) (seen : List Nat) (l : Array Bool) (a : Act) (w : World) (fuel : Nat), planOk P md ops bf p seen l = true → Shut bf l → Now Z S0 w0 n pn (fun S => vcPlan P md ops.toList p S (QQ .normal)) a w →
      (seen = [] → unl ops l ≤ fuel → wpAnyR P ops (Sem Z S0 w0 n pn QQ) (fun i => ∃ o, ops[i]? = some o ∧ quietO P md o = true) fuel l a w) ∧
      (unl ops l ≤ fuel + 1 → ∀ i ∈ Region.ready .any ops l, i ∉ seen → (match p with | .any .. => True | .non => True | _ => False) → wpOp P ops (Sem Z S0 w0 n pn QQ) i (fun a' w' => ((∃ o, ops[i]? = some o ∧ quietO P md o = true) → Ext w w') ∧
        wpAnyR P ops (Sem Z S0 w0 n pn QQ) (fun i => ∃ o, ops[i]? = some o ∧ quietO P md o = true) fuel (l.setIfInBounds i true) a' w') a w) := by
  intro p
  have hselj := Region.noSelect_spec hsel
  have zero_ready : ∀ l : Array Bool, unl ops l = 0 → Region.ready .any ops l = [] := fun l h => by
    cases hr : Region.ready .any ops l with
    | nil => rfl
    | cons i r => have := ready_unl (ops := ops) (l := l) (i := i) (by rw [hr]; simp); omega
  induction p with
  | fin =>
    intro seen l a w fuel hp hsh hnow
    simp only [planOk, Bool.and_eq_true, List.isEmpty_iff] at hp
    refine ⟨fun _ _ => ?_, fun _ i hi _ h => h.elim⟩
    cases fuel with
    | zero => exact ⟨hp.2, hnow⟩
    | succ f => exact ⟨fun _ => hnow, by rw [hp.2]; simp⟩
  | take i p ih =>
    intro seen l a w fuel hp hsh hnow
    simp only [planOk, Bool.and_eq_true] at hp
    obtain ⟨⟨⟨hs, hr⟩, ht⟩, hp⟩ := hp
    refine ⟨fun _ hu => ?_, fun _ i hi _ h => h.elim⟩
    have hri : i ∈ Region.ready .any ops l := by simpa using hr
    have hul := ready_unl hri
    cases fuel with
    | zero => omega
    | succ f =>
      split at ht
      · rename_i oi hoi
        simp only [takable, Bool.and_eq_true] at ht
        have hmem : oi ∈ ops.toList := by simpa using Array.mem_of_getElem? hoi
        obtain ⟨S, hG, hv, hrest⟩ := hnow
        simp only [vcPlan, Array.getElem?_toList, hoi] at hv
        obtain ⟨v, hy, hnow'⟩ := takeG_ok (ops := ops) (K := fun S1 => vcPlan P md ops.toList p S1 (QQ .normal)) ht.1 (hd oi hmem) ⟨S, hG, hv, hrest⟩
        refine wpAnyR_first hbf hoi hselj (fun c a w h => h) f l a w hsh (fun j oj hj hne hun hno => ?_) hri hy ((ih [] _ _ _ f hp (hsh.step hbf hri) hnow').1 rfl (by omega))
        have h1 := List.all_eq_true.1 ht.2 j (List.mem_range.2 (Array.getElem?_eq_some_iff.1 hj).1)
        simp only [hj, Bool.or_eq_true, beq_iff_eq, hne, hun, hno, Bool.and_eq_true, false_or, Bool.false_eq_true] at h1
        refine ⟨h1.1, fun hl => ⟨oj, hj, ?_⟩⟩
        rcases h1.2 with h2 | h2
        · simp [hl] at h2
        · exact h2
      · simp at ht
  | any i p q ihp ihq =>
    intro seen l a w fuel hp hsh hnow
    simp only [planOk, Bool.and_eq_true] at hp
    obtain ⟨S, hG, hv, hrest⟩ := hnow
    simp only [vcPlan] at hv
    have key : ∀ fuel, unl ops l ≤ fuel + 1 → ∀ x ∈ Region.ready .any ops l, x ∉ seen → wpOp P ops (Sem Z S0 w0 n pn QQ) x (fun a' w' => ((∃ o, ops[x]? = some o ∧ quietO P md o = true) → Ext w w') ∧
        wpAnyR P ops (Sem Z S0 w0 n pn QQ) (fun i => ∃ o, ops[i]? = some o ∧ quietO P md o = true) fuel (l.setIfInBounds x true) a' w') a w := by
      intro fuel hu x hx hns
      by_cases hxi : x = i
      · subst hxi
        have hv1 := hv.1
        split at hv1
        · rename_i o ho
          have hoi : ops[x]? = some o := by simpa using ho
          have hmem : o ∈ ops.toList := by simpa using Array.mem_of_getElem? hoi
          have h1 := opG_ok (ops := ops) (Q := Sem Z S0 w0 n pn QQ) hcall (K := fun S1 => vcPlan P md ops.toList p S1 (QQ .normal)) hoi (hd o hmem) ⟨S, hG, hv1, hrest⟩
          refine wpOp_mono (fun a' w' h2 => ⟨fun ⟨o', ho', hq⟩ => h2.1 (by rw [hoi] at ho'; simp at ho'; subst ho'; exact hq), ?_⟩) h1
          have := ready_unl hx
          exact (ihp [] _ _ _ fuel hp.1 (hsh.step hbf hx) h2.2).1 rfl (by omega)
        · exact hv1.elim
      · have hq := (ihq (i :: seen) l a w fuel hp.2 hsh ⟨S, hG, hv.2, hrest⟩).2 hu x hx (by simp [hxi, hns])
        cases q with
        | any => exact hq trivial
        | non => exact hq trivial
        | fin => simp [planOk] at hp
        | take => simp [planOk] at hp
    refine ⟨fun hs hu => ?_, fun hu x hx hns _ => key fuel hu x hx hns⟩
    subst hs
    have hne := plan_some (p := q) (seen := [i]) (by simp) hp.2
    cases fuel with
    | zero => exact absurd (zero_ready l (by omega)) hne
    | succ f => exact ⟨fun h => absurd h hne, fun x hx => key f (by omega) x hx (by simp)⟩
  | non =>
    intro seen l a w fuel hp hsh hnow
    simp only [planOk, Bool.and_eq_true] at hp
    refine ⟨fun hs => ?_, fun _ x hx hns _ => ?_⟩
    · subst hs; simp at hp
    · have := List.all_eq_true.1 hp.2 x hx
      exact absurd (by simpa using this) hns
/-- What has been listed, as bits. -/
def toArr (n L : Nat) : Array Bool := ((List.range n).map fun j => L.testBit j).toArray
theorem toArr_get (n L j : Nat) (d : Bool) : (toArr n L).getD j d = if j < n then L.testBit j else d := by
  rw [Array.getD_eq_getD_getElem?]
  simp only [toArr, List.getElem?_toArray, List.getElem?_map]
  by_cases h : j < n
  · simp [h]
  · simp [h]
theorem toArr_set (n L i : Nat) : (toArr n L).setIfInBounds i true = toArr n (L ||| (1 <<< i)) := by
  apply Array.ext
  · simp [toArr]
  · intro j h1 h2
    have hj : j < n := by simpa [toArr] using h2
    simp only [toArr, List.setIfInBounds_toArray, List.getElem_toArray, List.getElem_set, List.getElem_map, List.getElem_range, Nat.testBit_or, Nat.one_shiftLeft, Nat.testBit_two_pow]
    by_cases hij : i = j
    · simp [hij]
    · simp [hij]
theorem toArr_zero (n : Nat) : Array.replicate n false = toArr n 0 := by
  apply Array.ext
  · simp [toArr]
  · intro j h1 h2
    simp [toArr]
def takF (P : Program) (md : Modes) (ops : Array Oper) (bf : Nat → Nat → Bool) (L i : Nat) (oi : Oper) : Bool := pureK P oi && (List.range ops.size).all fun j => j == i || L.testBit j || bf i j || match ops[j]? with
  | some oj => oi.apart ops oj && (!loadK oi || quietO P md oj)
  | none => true
theorem takF_ok {bf : Nat → Nat → Bool} {L i : Nat} {oi : Oper} (h : takF P md ops bf L i oi = true) : takable P md ops bf (toArr ops.size L) i oi = true := by
  simp only [takF, Bool.and_eq_true] at h
  simp only [takable, Bool.and_eq_true]
  refine ⟨h.1, List.all_eq_true.2 fun j hj => ?_⟩
  have h1 := List.all_eq_true.1 h.2 j hj
  rw [toArr_get, if_pos (List.mem_range.1 hj)]
  exact h1
def planF (P : Program) (md : Modes) (ops : Array Oper) (bf : Nat → Nat → Bool) : Plan → List Nat → Nat → Bool
  | .fin, seen, L => planOk P md ops bf .fin seen (toArr ops.size L)
  | .take i p, seen, L => seen.isEmpty && (match ops[i]? with
    | some oi => !L.testBit i && (oi.after.toList.all fun e => !Region.binds .any e || (Nat.blt e.on ops.size && L.testBit e.on)) && takF P md ops bf L i oi
    | none => false) && planF P md ops bf p [] (L ||| (1 <<< i))
  | .any i p q, seen, L => planF P md ops bf p [] (L ||| (1 <<< i)) && planF P md ops bf q (i :: seen) L
  | .non, seen, L => planOk P md ops bf .non seen (toArr ops.size L)
theorem planF_ok {bf : Nat → Nat → Bool} : ∀ {p : Plan} {seen : List Nat} {L : Nat}, planF P md ops bf p seen L = true → planOk P md ops bf p seen (toArr ops.size L) = true
  | .fin, seen, L, h => h
  | .non, seen, L, h => h
  | .any i p q, seen, L, h => by
    simp only [planF, Bool.and_eq_true] at h
    simp only [planOk, Bool.and_eq_true, toArr_set]
    exact ⟨planF_ok h.1, planF_ok h.2⟩
  | .take i p, seen, L, h => by
    simp only [planF, Bool.and_eq_true] at h
    obtain ⟨⟨h1, h2⟩, h3⟩ := h
    simp only [planOk, Bool.and_eq_true, toArr_set]
    cases ho : ops[i]? with
    | none => simp [ho] at h2
    | some oi =>
      simp only [ho, Bool.and_eq_true, Bool.not_eq_true'] at h2
      obtain ⟨⟨k1, k2⟩, k3⟩ := h2
      have hi : i < ops.size := (Array.getElem?_eq_some_iff.1 ho).1
      refine ⟨⟨⟨h1, ?_⟩, takF_ok k3⟩, planF_ok h3⟩
      rw [List.contains_iff_mem, mem_ready]
      refine ⟨by rw [toArr_get, if_pos hi]; exact k1, oi, ho, fun e he hb => ?_⟩
      have h4 := List.all_eq_true.1 k2 e (by simpa using he)
      simp only [hb, Bool.not_true, Bool.false_or, Bool.and_eq_true] at h4
      have h5 : e.on < ops.size := by have := h4.1; simp [Nat.blt] at this; omega
      rw [toArr_get, if_pos h5]
      exact h4.2
theorem region_draw (hcall : CallOk P md Z S0 w0 n pn) {i : Nat} (hm : P.follows .mixedOrders = true) (hsel : Region.noSelect ops = true) (hbf : bfChk ops (ancM ops.toList []) = true)
    (hp : planF P md ops (bfM (ancM ops.toList [])) (md.plan i) [] 0 = true) (hd : ∀ o ∈ ops.toList, ∀ d, o.dst = some d → d < n ∧ pn d = none) : RegOk P md Z S0 w0 n pn (.region i ops true) := by
  intro Q a w h
  refine wp_region_R (A := fun i => ∃ o, ops[i]? = some o ∧ quietO P md o = true) hm ((plan_ok hcall (bfChk_ok hbf) hsel hd (md.plan i) [] (Array.replicate ops.size false) a _ ops.size (by rw [toArr_zero]; exact planF_ok hp) ?_ ?_).1 rfl ?_)
  · intro i j hl
    exfalso
    rw [Array.getD_eq_getD_getElem?, Array.getElem?_replicate] at hl
    split at hl <;> simp at hl
  · obtain ⟨S, hG, hv, hf, hr⟩ := h
    exact ⟨S, hG.frame (fun _ _ => rfl) (Nat.le_refl _) (fun _ _ _ => rfl), hv, ⟨hf.os, hf.tape, hf.output, hf.size, hf.block, hf.own, hf.box, hf.vir⟩, hr⟩
  · exact Nat.le_trans List.countP_le_length (by simp)
end

/-! ### Functions -/
def dstOk (n : Nat) (bx : List Nat) (ops : Array Oper) : Bool := ops.toList.all fun o => match o.dst with
  | some d => decide (d < n) && !bx.contains d
  | none => true
def codeOk (P : Program) (md : Modes) (n : Nat) (bx : List Nat) : Code → Bool
  | .region i ops d => dstOk n bx ops && (!d || (P.follows .mixedOrders && Region.noSelect ops && bfChk ops (ancM ops.toList []) && planF P md ops (bfM (ancM ops.toList [])) (md.plan i) [] 0))
  | .seq a b => codeOk P md n bx a && codeOk P md n bx b
  | .cond _ a b => codeOk P md n bx a && codeOk P md n bx b
  | .block _ a => codeOk P md n bx a
  | .loop a => codeOk P md n bx a
  | _ => true
theorem codeOk_ok {bx : List Nat} (hbx : ∀ d, bx.contains d = false → pn d = none) : ∀ {c : Code}, codeOk P md n bx c = true → AllReg P md Z S0 w0 n pn c
  | .region i ops d, h => by
    simp only [codeOk, Bool.and_eq_true] at h
    have hd : ∀ o ∈ ops.toList, ∀ d, o.dst = some d → d < n ∧ pn d = none := fun o ho d hd => by
      have h1 := List.all_eq_true.1 h.1 o ho
      simp only [hd, Bool.and_eq_true, decide_eq_true_eq, Bool.not_eq_true'] at h1
      exact ⟨h1.1, hbx d h1.2⟩
    cases d with
    | false => exact region_text call_ok hd
    | true =>
      have h2 := h.2
      simp only [Bool.not_true, Bool.false_or, Bool.and_eq_true] at h2
      exact region_draw call_ok h2.1.1.1 h2.1.1.2 h2.1.2 h2.2 hd
  | .seq a b, h => by simp only [codeOk, Bool.and_eq_true] at h; exact ⟨codeOk_ok hbx h.1, codeOk_ok hbx h.2⟩
  | .cond _ a b, h => by simp only [codeOk, Bool.and_eq_true] at h; exact ⟨codeOk_ok hbx h.1, codeOk_ok hbx h.2⟩
  | .block _ a, h => by simp only [codeOk] at h; exact codeOk_ok (c := a) hbx h
  | .loop a, h => by simp only [codeOk] at h; exact codeOk_ok (c := a) hbx h
  | .skip, _ => trivial
  | .exit _, _ => trivial
  | .ret, _ => trivial
  | .rangeFunc .., _ => trivial
  | .scope .., _ => trivial
  | .label .., _ => trivial
  | .goto .., _ => trivial
  | .refuse .., _ => trivial
def boxIdx : Nat → List UE → List Nat
  | _, [] => []
  | i, .box _ _ :: r => i :: boxIdx (i + 1) r
  | i, _ :: r => boxIdx (i + 1) r
theorem boxIdx_ok : ∀ {args : List UE} {i d : Nat}, boxAt args d = true → (boxIdx i args).contains (i + d) = true
  | [], i, d, h => by simp [boxAt] at h
  | e :: r, i, 0, h => by
    cases e with
    | box g c => simp [boxIdx]
    | tmp v => simp [boxAt] at h
    | vir v => simp [boxAt] at h
  | e :: r, i, d + 1, h => by
    have h' : boxAt r d = true := by simpa [boxAt] using h
    have ih := boxIdx_ok (i := i + 1) h'
    rw [show i + 1 + d = i + (d + 1) by omega] at ih
    cases e with
    | box g c => simp only [boxIdx, List.contains_cons, ih, Bool.or_true]
    | tmp v => exact ih
    | vir v => exact ih
/-- A function that may be looked at so: its boxes are these parameters. -/
def fnOk (P : Program) (md : Modes) (f : FuncId) (na : Nat) (bx : List Nat) : Bool := match P.funcs[f]? with
  | some fn => match fn.body with
    | some c => fn.name != "runtime.NumGoroutine" && decide (na < 999) && decide (na ≤ fn.ntmps) && codeOk P md fn.ntmps bx c
    | none => false
  | none => false
theorem ACall_intro (md : Modes) {f : FuncId} {fn : Func} {c : Code} {args : List UE} {vs : List UT} {r : UE} {outs : List (List UV)} {vouts : List UT} {na : Nat} {bx : List Nat} (hok : fnOk P md f na bx = true) (hf : P.funcs[f]? = some fn) (hb : fn.body = some c) (ha : args.length = na) (hbx : boxIdx 0 args = bx)
    (hr : noBoR r = true) (hou : (outs.all noBoL) = true) (hvo : noBoRow vouts = true) (hvl : vouts.length = vs.length) (hol : outs.length = boxesN args)
    (h : vc P md c ⟨init 0 args ++ initV 1000 vs⟩ (bodyQ P fn args vs r outs vouts)) : ACall P f args vs r outs vouts := by
  unfold fnOk at hok
  simp only [hf, hb, Bool.and_eq_true, decide_eq_true_eq] at hok
  obtain ⟨⟨⟨h1, h2⟩, h3⟩, h4⟩ := hok
  refine ACall_of md hf hb (by simp [enterOk, hf, hb, h1]) (by omega) (by omega) hr hou hvo hvl hol (fun Z S0 w0 pn hpn => codeOk_ok (bx := bx) (fun d hd => hpn d ?_) h4) h
  cases hh : boxAt args d with
  | false => rfl
  | true =>
    have := boxIdx_ok (i := 0) hh
    rw [hbx, Nat.zero_add, hd] at this
    simp at this
end Go.HT
end
section
namespace Go.HT
open Go Go.Sort Go.Proofs
/-- What is left where a row has been sorted. -/
theorem sorted_facts {α : Type} [Inhabited α] {enc : α → Value} {w : World} {blk off n : Nat} {d : Array α} {os : Array Obj} {cells : Array Value} {e : TypeId} (h : w.heap[blk]? = some (.cells cells e (0, 0))) (hs : off + d.size ≤ cells.size) {w' : World}
    (hw : w' = grow (putRow enc (Sort.ahead w n) blk off d) os) : w'.os = w.os ∧ w'.tape = w.tape ∧ w'.output = w.output ∧ w.heap.size ≤ w'.heap.size ∧ (∀ b, b < w.heap.size → b ≠ blk → w'.heap[b]? = w.heap[b]?) ∧
      ∃ cells', w'.heap[blk]? = some (.cells cells' e (0, 0)) ∧ cells'.size = cells.size ∧ ∀ j, j < d.size → cells'[off + j]? = some (enc d[j]!) := by
  subst hw
  have hb : blk < w.heap.size := (Array.getElem?_eq_some_iff.1 h).1
  refine ⟨rfl, rfl, rfl, ?_, fun b hb1 hne => ?_, putCells enc off d cells, ?_, ?_, fun j hj => ?_⟩
  · simp [grow, putRow, mapBlock, ahead]
  · simp only [grow, putRow, mapBlock, ahead]
    rw [Array.getElem?_append_left (by simpa using hb1), Array.getElem?_modify, if_neg (fun hc => hne hc.symm)]
    rfl
  · simp only [grow, putRow, mapBlock, ahead]
    rw [Array.getElem?_append_left (by simpa using hb), Array.getElem?_modify, if_pos rfl]
    change Option.map _ (w.heap[blk]?) = _
    rw [h]
    rfl
  · simp [putCells]
  · have hlt : off + j < cells.size := by omega
    simp only [putCells, Array.getElem?_mapIdx, Array.getElem?_eq_getElem hlt, Option.map_some]
    rw [if_pos ⟨by omega, by omega⟩]
    simp
def cSt (s : List UInt8) : List UT := [.str s]
theorem flat_cSt (l : List (List UInt8)) : flatRows (l.map cSt) = true := by simp [flatRows, cSt, Tr.flat]
theorem noBo_flat : ∀ {rows : List (List UT)}, flatRows rows = true → noBoRows rows = true
  | [], _ => rfl
  | r :: rs, h => by
    simp only [flatRows, List.all_cons, Bool.and_eq_true] at h
    simp only [noBoRows, Bool.and_eq_true]
    refine ⟨?_, noBo_flat (rows := rs) h.2⟩
    have : ∀ r : List UT, (r.all Tr.flat) = true → noBoRow r = true := by
      intro r hr
      induction r with
      | nil => rfl
      | cons t r ih =>
        simp only [List.all_cons, Bool.and_eq_true] at hr
        simp only [noBoRow, Bool.and_eq_true]
        refine ⟨?_, ih hr.2⟩
        cases t <;> simp [noBoT, Tr.flat] at hr ⊢
    exact this r h.1
theorem strings_sort {P : Program} {f : FuncId} (hent : enterOk P f = true)
    (hsome : ∀ (blk off cap : Nat) (ss : List (List UInt8)) (w : World), Holds encStr w blk off ss.toArray → blk < w.heap.size → ss.length < 4611686018427387904 →
      Calls P f #[.slice (some ⟨blk, off, none⟩) ss.length cap] w fun e w' => e = .returned (.tuple #[]) ∧ ∃ n os, w' = grow (putRow encStr (Sort.ahead w n) blk off (ss.mergeSort fun x y => decide (x ≤ y)).toArray) os)
    (hnone : ∀ (p : Option Addr) (cap : Nat) (w : World), Calls P f #[.slice p 0 cap] w fun e w' => e = .returned (.tuple #[]) ∧ w' = w) (l : List (List UInt8)) (hl : l.length < 4611686018427387904) :
    ACall P f [.tmp (.ref ⟨1000, [], 0⟩ 0 l.length false ())] [.sl .own () 1 (l.map cSt)] (.tmp (.tup [])) [] [.sl .own () 1 ((l.mergeSort fun x y => decide (x ≤ y)).map cSt)] := by
  refine ⟨⟨hent, rfl, rfl, ?_, rfl, rfl, by simp⟩, fun Z w vals S0 hS0 hsz hG => ?_⟩
  · simp [noBoRow, noBoT, noBo_flat (flat_cSt _)]
  -- the state
  obtain ⟨m1, e0, r1, hS, h1, h2, h3⟩ : ∃ m1 e0 r1, S0 = (0, e0) :: r1 ∧ m1 = (0 : Nat) ∧ erE e0 = .tmp (.ref ⟨1000, [], 0⟩ 0 l.length false ()) ∧ erS r1 = [(1000, .vir (.sl .own () 1 (l.map cSt)))] := by
    cases S0 with
    | nil => simp [erS, init] at hS0
    | cons x r =>
      obtain ⟨k, e⟩ := x
      simp only [erS, List.map_cons, init, initV, List.cons_append, List.nil_append, List.cons.injEq, Prod.mk.injEq] at hS0
      obtain ⟨⟨rfl, h2⟩, h3⟩ := hS0
      exact ⟨0, e, r, rfl, rfl, h2, h3⟩
  subst hS
  obtain ⟨v0, rfl, hv0⟩ : ∃ v0, e0 = .tmp v0 ∧ erA v0 = .ref ⟨1000, [], 0⟩ 0 l.length false () := by
    cases e0 with
    | tmp v => simp only [erE, Ent.tmp.injEq] at h2; exact ⟨v, rfl, h2⟩
    | _ => simp [erE] at h2
  obtain ⟨g, rfl⟩ := erA_ref hv0
  obtain ⟨t0, rfl, ht0⟩ : ∃ t0, r1 = [(1000, .vir t0)] ∧ erT t0 = .sl .own () 1 (l.map cSt) := by
    cases r1 with
    | nil => simp [erS] at h3
    | cons x r =>
      obtain ⟨k, e⟩ := x
      simp only [erS, List.map_cons, List.cons.injEq, Prod.mk.injEq, List.map_eq_nil_iff] at h3
      obtain ⟨⟨rfl, h4⟩, rfl⟩ := h3
      cases e with
      | vir t => simp only [erE, Ent.vir.injEq] at h4; exact ⟨t, rfl, h4⟩
      | _ => simp [erE] at h4
  obtain ⟨g0, rowsH, rfl, hr⟩ : ∃ g0 rowsH, t0 = .sl .own g0 1 rowsH ∧ erRows rowsH = l.map cSt := by
    cases t0 with
    | sl κ g0 wd0 r0 => simp only [erT, Tr.sl.injEq] at ht0; obtain ⟨rfl, _, rfl, h5⟩ := ht0; exact ⟨g0, r0, rfl, h5⟩
    | _ => simp [erT] at ht0
  have hlen : rowsH.length = l.length := by
    have := congrArg List.length hr
    rw [erRows_length] at this
    simpa using this
  have hl0 : look [(0, .tmp (.ref ⟨1000, [], 0⟩ 0 l.length false g)), (1000, .vir (.sl .own g0 1 rowsH))] 0 = some (.tmp (.ref ⟨1000, [], 0⟩ 0 l.length false g)) := rfl
  have hl1 : look [(0, .tmp (.ref ⟨1000, [], 0⟩ 0 l.length false g)), (1000, .vir (.sl .own g0 1 rowsH))] 1000 = some (.vir (.sl .own g0 1 rowsH)) := rfl
  have hgg : g = g0 := by
    obtain ⟨g1, w1, rows1, z1, z2⟩ := hG.refs _ _ hl0
    have : getC [(0, Ent.tmp (.ref ⟨1000, [], 0⟩ 0 l.length false g)), (1000, .vir (.sl .own g0 1 rowsH))] ⟨1000, [], 0⟩ = some (.tr (.sl .own g0 1 rowsH)) := rfl
    rw [this] at z1
    simp only [Option.some.injEq, AV.tr.injEq, Tr.sl.injEq, true_and] at z1
    obtain ⟨rfl, rfl, rfl⟩ := z1
    exact z2.2.2.2.2.1 rfl rfl hlen.symm
  subst hgg
  have hvals : vals = #[.slice g.a l.length g.cap] := by
    have h4 := (hG.ent _ _ hl0).1
    simp only [IsA] at h4
    have hs1 : vals.size = 1 := by simpa using hsz
    apply Array.ext
    · simp [hs1]
    · intro i hi1 hi2
      have : i = 0 := by simp at hi2; omega
      subst this
      have h5 : vals.getD 0 undef = vals[0] := by simp [Array.getD, hs1]
      rw [← h5]; exact h4
  subst hvals
  have hmem : memT w Z true (.sl .own g 1 rowsH) := hG.ent _ _ hl1
  obtain ⟨⟨hn0, hA⟩, _, _⟩ := hmem
  have fin : ∀ (w' : World) (rows' : List (List (Tr Hd))), erRows rows' = (l.mergeSort fun x y => decide (x ≤ y)).map cSt → memT w' Z true (.sl .own g 1 rows') → ownRows rows' = [] → rows'.length = rowsH.length →
      w'.os = w.os → w'.tape = w.tape → w'.output = w.output → w.heap.size ≤ w'.heap.size → (∀ b, b < w.heap.size → (∀ A, g.a = some A → b ≠ A.block) → w'.heap[b]? = w.heap[b]?) →
      ∃ S' a', Good Z S' a' w' ∧ erS S' = outU 0 [.tmp (.ref ⟨1000, [], 0⟩ 0 l.length false ())] [] ++ ((999, .tmp (.tup [])) :: initV 1000 [.sl .own () 1 ((l.mergeSort fun x y => decide (x ≤ y)).map cSt)]) ∧ a'.tmps.getD 999 undef = .tuple #[] ∧
        (∀ d g' cs, look [(0, Ent.tmp (.ref ⟨1000, [], 0⟩ 0 l.length false g)), (1000, .vir (.sl .own g 1 rowsH))] d = some (.box g' cs) → ∃ cs', look S' d = some (.box g' cs') ∧ cs'.length = cs.length) ∧ Fr [(0, Ent.tmp (.ref ⟨1000, [], 0⟩ 0 l.length false g)), (1000, .vir (.sl .own g 1 rowsH))] w S' w' := by
    intro w' rows' q1 q2 q3 q3' q4 q5 q6 q7 q8
    have hnobox : ∀ d g' cs, look [(0, Ent.tmp (.ref ⟨1000, [], 0⟩ 0 l.length false g)), (1000, .vir (.sl .own g 1 rowsH))] d ≠ some (.box g' cs) := by
      intro d g' cs
      simp only [look]
      split
      · simp
      · split <;> simp
    have hownS : ownS [(999, Ent.tmp (.tup [])), (1000, .vir (.sl .own g 1 rows'))] = blk g := by
      simp [ownS, ownE, ownA, ownAL, ownT, q3, blk]
    have hown0 : ∀ b ∈ blk g, b ∈ ownS [(0, Ent.tmp (.ref ⟨1000, [], 0⟩ 0 l.length false g)), (1000, .vir (.sl .own g 1 rowsH))] := by
      intro b hb
      simp only [ownS, ownE, ownA, ownT, List.mem_append]
      right; left; left
      simpa [blk] using hb
    have hZb : ∀ b, Z.b b → b < w'.heap.size := fun b hb => Nat.lt_of_lt_of_le (hG.zb b hb) q7
    refine ⟨[(999, .tmp (.tup [])), (1000, .vir (.sl .own g 1 rows'))], ⟨Array.replicate 1000 (.tuple #[]), []⟩, ⟨by simp, fun d e he => ?_, by rw [hownS]; unfold blk; split <;> simp, fun b hb => ?_, hZb, fun d e he => ?_⟩, ?_, by simp, fun d g' cs h => absurd h (hnobox d g' cs), ⟨q4, q5, q6, q7, fun b hb hn => q8 b hb (fun A hA hc => hn (hown0 b (by simp [blk, hA, hc]))), fun b hb => ?_, fun d g' cs A cells e h => absurd h (hnobox d g' cs), fun d t' hd => ?_⟩⟩
    · simp only [look] at he
      split at he
      · rename_i h; subst h
        simp at he; subst he
        exact ⟨⟨#[], by simp, rfl⟩, trivial⟩
      · split at he
        · simp at he; subst he; exact q2
        · simp at he
    · rw [hownS] at hb
      obtain ⟨k1, k2⟩ := hG.zn b (hown0 b hb)
      exact ⟨k1, Nat.lt_of_lt_of_le k2 q7⟩
    · simp only [look] at he
      split at he
      · simp at he; subst he; trivial
      · split at he
        · simp at he; subst he; trivial
        · simp at he
    · simp [erS, outU, initV, erE, erA, erL, erT, q1]
    · rw [hownS] at hb; exact .inl (hown0 b hb)
    · simp only [look] at hd
      split at hd
      · simp at hd
      · split at hd
        · rename_i h; subst h
          simp at hd; subst hd
          exact ⟨_, hl1, .inr (by simp [hdT, q3'])⟩
        · simp at hd
  by_cases hnil : l = []
  · subst hnil
    refine Calls.mono (hnone g.a g.cap w) fun e w' h => ?_
    obtain ⟨rfl, rfl⟩ := h
    have hrn : rowsH = [] := by cases rowsH with
      | nil => rfl
      | cons a b => simp at hlen
    subst hrn
    refine fin w' [] (by simp [erRows]) (hG.ent _ _ hl1) rfl rfl rfl rfl rfl (Nat.le_refl _) (fun _ _ _ => rfl)
  · have hne : rowsH ≠ [] := by rintro rfl; simp at hlen; exact hnil (List.length_eq_zero_iff.1 hlen.symm)
    cases hga : g.a with
    | none => exact absurd (hn0 hga).1 hne
    | some A =>
    obtain ⟨A1, A2, A3, cs, e, fr, c1, c2, c3⟩ := hA A hga
    obtain ⟨rfl, c2'⟩ := c2 rfl
    have hAe : A = ⟨A.block, A.off, none⟩ := by cases A; simp at A1; simp [A1]
    have hH : Holds encStr w A.block A.off l.toArray := by
      intro j hj
      have hj' : j < l.length := by simpa using hj
      have hrj : rowsH[j]? = some (rowsH[j]'(by omega)) := List.getElem?_eq_getElem _
      obtain ⟨k1, k2⟩ := c3 j _ hrj
      have herj : erRow (rowsH[j]'(by omega)) = [.str l[j]] := by
        have h6 : (erRows rowsH)[j]? = (l.map cSt)[j]? := by rw [hr]
        rw [erRows_get, hrj, List.getElem?_map, List.getElem?_eq_getElem hj'] at h6
        simpa [cSt] using h6
      generalize rowsH[j]'(by omega) = rH at *
      cases rH with
      | nil => simp [erRow] at herj
      | cons tH r2 =>
        simp only [erRow, List.cons.injEq] at herj
        obtain ⟨v, k3, k4⟩ := k2 0 tH rfl
        have htH : tH = .str l[j] := by
          cases tH <;> simp [erT] at herj ⊢
          exact herj.1
        subst htH
        simp only [IsT] at k4
        subst k4
        refine ⟨?_, by simp [World.frozen?, c1]⟩
        rw [cell_eq c1]
        have : A.off + j * 1 + 0 = A.off + j := by omega
        rw [← this, k3]
        have h7 : (l.toArray)[j]! = l[j] := by simp [hj']
        rw [h7]
    have hcalls := hsome A.block A.off g.cap l w hH (Array.getElem?_eq_some_iff.1 c1).1 hl
    rw [← hAe] at hcalls
    refine Calls.mono (by simpa [hga] using hcalls) fun ex w' h => ?_
    obtain ⟨rfl, n, os, hw'⟩ := h
    have hdl : (l.mergeSort fun x y => decide (x ≤ y)).length = l.length := by simp
    obtain ⟨f1, f2, f3, f4, f5, cells', f6, f7, f8⟩ := sorted_facts c1 (by simp; omega) hw'
    refine fin w' (upRows ((l.mergeSort fun x y => decide (x ≤ y)).map cSt)) (er_upRows (flat_cSt _)) ?_ (own_upRows _) (by simp [upRows, hlen]) f1 f2 f3 f4 (fun b hb hc => f5 b hb (hc A hga))
    refine ⟨⟨fun hh => by rw [hga] at hh; simp at hh, fun A' hA' => ?_⟩, fun _ => rfl, mem_upRows ..⟩
    rw [hga] at hA'; simp only [Option.some.injEq] at hA'; subst hA'
    refine ⟨A1, by simp only [upRows, List.length_map, hdl]; omega, A3, cells', e, (0, 0), f6, fun _ => ⟨rfl, by rw [f7]; exact c2'⟩, fun i r hi => ?_⟩
    simp only [upRows, List.map_map, List.getElem?_map] at hi
    cases hri : (l.mergeSort fun x y => decide (x ≤ y))[i]? with
    | none => simp [hri] at hi
    | some s =>
      simp only [hri, Option.map_some, Option.some.injEq, Function.comp_apply, cSt, List.map_cons, List.map_nil] at hi
      subst hi
      refine ⟨rfl, fun j c hj => ?_⟩
      cases j with
      | succ j => simp at hj
      | zero =>
        simp only [List.getElem?_cons_zero, Option.some.injEq, upT] at hj
        subst hj
        have hi' := (List.getElem?_eq_some_iff.1 hri)
        obtain ⟨hi1, hi2⟩ := hi'
        refine ⟨encStr s, ?_, rfl⟩
        have h9 := f8 i (by simpa using hi1)
        have h10 : ((l.mergeSort fun x y => decide (x ≤ y)).toArray)[i]! = s := by
          rw [getElem!_pos _ i (by simpa using hi1)]
          simpa using hi2
        rw [h10] at h9
        simpa using h9
end Go.HT
end
section
namespace Go.HT
open Go
section
variable {G : Type}
mutual
/-- What is lent, taken for what is shared for good. -/
def shT : Tr G → Tr G
  | .sl κ g w rows => .sl (if κ = .bo then .sh else κ) g w (shRows rows)
  | t => t
def shRow : List (Tr G) → List (Tr G)
  | [] => []
  | t :: r => shT t :: shRow r
def shRows : List (List (Tr G)) → List (List (Tr G))
  | [] => []
  | t :: r => shRow t :: shRows r
end
def shV : AV G → AV G
  | .tr t => .tr (shT t)
  | .agg cs => .agg (cs.map fun c => match c with
    | .tr t => .tr (shT t)
    | c => c)
  | v => v
def shE : Ent G → Ent G
  | .tmp v => .tmp (shV v)
  | e => e
def plainT : Tr G → Bool
  | .sl .own _ _ _ => false
  | _ => true
def plainC : AV G → Bool
  | .tr t => plainT t
  | _ => false
def plainV : AV G → Bool
  | .tr t => plainT t
  | .agg cs => cs.all plainC
  | _ => false
def plainE : Ent G → Bool
  | .tmp v => plainV v
  | _ => false
mutual
/-- All slices in it are owned. -/
def ownOnly : Tr G → Bool
  | .sl κ _ _ rows => decide (κ = .own) && ownOnlyRows rows
  | _ => true
def ownOnlyRow : List (Tr G) → Bool
  | [] => true
  | t :: r => ownOnly t && ownOnlyRow r
def ownOnlyRows : List (List (Tr G)) → Bool
  | [] => true
  | t :: r => ownOnlyRow t && ownOnlyRows r
end
def ownOnlyR : Ent G → Bool
  | .tmp (.tr t) => ownOnly t
  | _ => false
theorem shRow_map (l : List (Tr G)) : shRow l = l.map shT := by induction l with | nil => rfl | cons t r ih => simp [shRow, ih]
theorem shRows_map (l : List (List (Tr G))) : shRows l = l.map shRow := by induction l with | nil => rfl | cons t r ih => simp [shRows, ih]
end
variable {P : Program} {Z Z' : Zone} {S : St Hd} {a : Act} {w : World}
mutual
theorem erT_shT : ∀ t : Tr Hd, erT (shT t) = shT (erT t)
  | .undef => rfl
  | .int _ _ => rfl
  | .bool _ => rfl
  | .str _ => rfl
  | .sl κ g w rows => by simp only [shT, erT, erRows_shRows rows]
theorem erRow_shRow : ∀ l : List (Tr Hd), erRow (shRow l) = shRow (erRow l)
  | [] => rfl
  | t :: r => by simp only [shRow, erRow, erT_shT t, erRow_shRow r]
theorem erRows_shRows : ∀ l : List (List (Tr Hd)), erRows (shRows l) = shRows (erRows l)
  | [] => rfl
  | t :: r => by simp only [shRows, erRows, erRow_shRow t, erRows_shRows r]
end
theorem IsT_shT {t : Tr Hd} {v : Value} (h : IsT t v) : IsT (shT t) v := by
  cases t with
  | sl κ g w rows => simp only [shT, IsT, shRows_map, List.length_map] at *; exact h
  | _ => exact h
mutual
theorem memT_shT (hs : ∀ k, Z.s k → Z'.s k) (hb : ∀ k, Z.b k → Z'.s k) (ho : ∀ k, Z'.b k → Z.b k) : ∀ (al : Bool) (t : Tr Hd), memT w Z al t → memT w Z' al (shT t)
  | _, .undef, _ => trivial
  | _, .int _ _, _ => trivial
  | _, .bool _, _ => trivial
  | _, .str _, _ => trivial
  | al, .sl κ g wd rows, ⟨h1, h2, h3⟩ => by
    simp only [shT]
    have hk : ((if κ = .bo then Knd.sh else κ) = .own) = (κ = .own) := by cases κ <;> simp
    refine ⟨⟨fun hg => ?_, fun A hA => ?_⟩, fun hc => h2 (hk ▸ hc), ?_⟩
    · obtain ⟨r1, r2⟩ := h1.1 hg
      exact ⟨by rw [shRows_map, r1]; rfl, r2⟩
    · obtain ⟨a1, a2, a3, cs, e, fr, a4, a5, a6⟩ := h1.2 A hA
      refine ⟨a1, by rw [shRows_map, List.length_map]; exact a2, ?_, cs, e, fr, a4, fun hc => a5 (hk ▸ hc), fun i row hi => ?_⟩
      · cases κ with
        | own => exact fun hc => a3 (ho _ hc)
        | sh => exact hs _ a3
        | bo => exact hb _ a3
      · rw [shRows_map, List.getElem?_map] at hi
        cases hr : rows[i]? with
        | none => simp [hr] at hi
        | some r0 =>
          simp [hr] at hi; subst hi
          obtain ⟨b1, b2⟩ := a6 i r0 hr
          refine ⟨by rw [shRow_map, List.length_map]; exact b1, fun j c hj => ?_⟩
          rw [shRow_map, List.getElem?_map] at hj
          cases hc : r0[j]? with
          | none => simp [hc] at hj
          | some c0 =>
            simp [hc] at hj; subst hj
            obtain ⟨v, v1, v2⟩ := b2 j c0 hc
            exact ⟨v, v1, IsT_shT v2⟩
    · have : (al && decide ((if κ = .bo then Knd.sh else κ) = .own)) = (al && decide (κ = .own)) := by simp only [hk]
      rw [this]
      exact memRows_shT hs hb ho _ rows h3
theorem memRow_shT (hs : ∀ k, Z.s k → Z'.s k) (hb : ∀ k, Z.b k → Z'.s k) (ho : ∀ k, Z'.b k → Z.b k) : ∀ (al : Bool) (l : List (Tr Hd)), memRow w Z al l → memRow w Z' al (shRow l)
  | _, [], _ => trivial
  | al, t :: r, ⟨h1, h2⟩ => ⟨memT_shT hs hb ho al t h1, memRow_shT hs hb ho al r h2⟩
theorem memRows_shT (hs : ∀ k, Z.s k → Z'.s k) (hb : ∀ k, Z.b k → Z'.s k) (ho : ∀ k, Z'.b k → Z.b k) : ∀ (al : Bool) (l : List (List (Tr Hd))), memRows w Z al l → memRows w Z' al (shRows l)
  | _, [], _ => trivial
  | al, t :: r, ⟨h1, h2⟩ => ⟨memRow_shT hs hb ho al t h1, memRows_shT hs hb ho al r h2⟩
end
mutual
theorem memT_only (ho : ∀ k, Z.b k → Z'.b k) : ∀ (al : Bool) (t : Tr Hd), memT w Z' al t → ownOnly (erT t) = true → memT w Z al t
  | _, .undef, _, _ => trivial
  | _, .int _ _, _, _ => trivial
  | _, .bool _, _, _ => trivial
  | _, .str _, _, _ => trivial
  | al, .sl κ g wd rows, ⟨h1, h2, h3⟩, hn => by
    simp only [erT, ownOnly, Bool.and_eq_true, decide_eq_true_eq] at hn
    obtain ⟨rfl, hn⟩ := hn
    refine ⟨⟨h1.1, fun A hA => ?_⟩, h2, memRows_only ho _ rows h3 hn⟩
    obtain ⟨a1, a2, a3, a4⟩ := h1.2 A hA
    exact ⟨a1, a2, fun hc => a3 (ho _ hc), a4⟩
theorem memRow_only (ho : ∀ k, Z.b k → Z'.b k) : ∀ (al : Bool) (l : List (Tr Hd)), memRow w Z' al l → ownOnlyRow (erRow l) = true → memRow w Z al l
  | _, [], _, _ => trivial
  | al, t :: r, ⟨h1, h2⟩, hn => by
    simp only [erRow, ownOnlyRow, Bool.and_eq_true] at hn
    exact ⟨memT_only ho al t h1 hn.1, memRow_only ho al r h2 hn.2⟩
theorem memRows_only (ho : ∀ k, Z.b k → Z'.b k) : ∀ (al : Bool) (l : List (List (Tr Hd))), memRows w Z' al l → ownOnlyRows (erRows l) = true → memRows w Z al l
  | _, [], _, _ => trivial
  | al, t :: r, ⟨h1, h2⟩, hn => by
    simp only [erRows, ownOnlyRows, Bool.and_eq_true] at hn
    exact ⟨memRow_only ho al t h1 hn.1, memRows_only ho al r h2 hn.2⟩
end
theorem plainT_own {t : Tr Hd} (h : plainT (erT t) = true) : ownT t = [] ∧ ownT (shT t) = [] := by
  cases t with
  | sl κ g w rows => cases κ <;> simp [erT, plainT] at h <;> simp [ownT, shT]
  | _ => exact ⟨rfl, rfl⟩
theorem plainV_form {v : AV Hd} (h : plainV (erA v) = true) : (∃ t, v = .tr t ∧ plainT (erT t) = true) ∨ ∃ ts : List (Tr Hd), v = .agg (ts.map .tr) ∧ ∀ t ∈ ts, plainT (erT t) = true := by
  cases v with
  | tr t => exact .inl ⟨t, rfl, h⟩
  | agg cs =>
    right
    simp only [erA, plainV] at h
    have : ∀ cs : List (AV Hd), ((erL cs).all plainC) = true → ∃ ts : List (Tr Hd), cs = ts.map .tr ∧ ∀ t ∈ ts, plainT (erT t) = true := by
      intro cs
      induction cs with
      | nil => exact fun _ => ⟨[], rfl, by simp⟩
      | cons c r ih =>
        intro h
        simp only [erL, List.all_cons, Bool.and_eq_true] at h
        obtain ⟨ts, rfl, h2⟩ := ih h.2
        cases c with
        | tr t => exact ⟨t :: ts, rfl, by simp only [List.mem_cons, forall_eq_or_imp]; exact ⟨h.1, h2⟩⟩
        | _ => simp [erA, plainC] at h
    obtain ⟨ts, rfl, h2⟩ := this cs h
    exact ⟨ts, rfl, h2⟩
  | _ => simp [erA, plainV] at h
theorem agg_sh (ts : List (Tr Hd)) : shV (.agg (ts.map .tr) : AV Hd) = .agg ((ts.map shT).map .tr) := by
  simp [shV]
theorem erA_shV {v : AV Hd} (h : plainV (erA v) = true) : erA (shV v) = shV (erA v) := by
  rcases plainV_form h with ⟨t, rfl, _⟩ | ⟨ts, rfl, _⟩
  · simp [shV, erA, erT_shT]
  · rw [agg_sh]
    simp [erA, erL_map, shV, erT_shT]
theorem IsL_sh : ∀ {ts : List (Tr Hd)} {vs : List Value}, IsL (ts.map .tr) vs → IsL ((ts.map shT).map .tr) vs
  | [], vs, h => h
  | t :: r, vs, ⟨v, us, e, h1, h2⟩ => ⟨v, us, e, IsT_shT h1, IsL_sh h2⟩
theorem plain_sh (hs : ∀ k, Z.s k → Z'.s k) (hb : ∀ k, Z.b k → Z'.s k) (ho : ∀ k, Z'.b k → Z.b k) {v : AV Hd} {u : Value} (h : plainV (erA v) = true) (h1 : IsA v u) (h2 : memA w Z v) :
    IsA (shV v) u ∧ memA w Z' (shV v) ∧ ownA v = [] ∧ ownA (shV v) = [] ∧ ∀ S, refOk S (shV v) := by
  rcases plainV_form h with ⟨t, rfl, hp⟩ | ⟨ts, rfl, hp⟩
  · exact ⟨IsT_shT h1, memT_shT hs hb ho true t h2, by simpa [ownA] using (plainT_own hp).1, by simpa [shV, ownA] using (plainT_own hp).2, fun _ => trivial⟩
  · rw [agg_sh]
    obtain ⟨vs, e, hv⟩ := h1
    refine ⟨⟨vs, e, IsL_sh hv⟩, memL_iff.2 fun c hc => ?_, ?_, ?_, fun S => refOkL_tr _⟩
    · obtain ⟨t, ht, rfl⟩ := List.mem_map.1 hc
      obtain ⟨t0, ht0, rfl⟩ := List.mem_map.1 ht
      exact memT_shT hs hb ho true t0 (memL_iff.1 h2 (.tr t0) (List.mem_map.2 ⟨t0, ht0, rfl⟩))
    · rw [List.eq_nil_iff_forall_not_mem]
      intro b hbm
      obtain ⟨c, hc, hbc⟩ := mem_ownAL.1 hbm
      obtain ⟨t, ht, rfl⟩ := List.mem_map.1 hc
      rw [show ownA (.tr t : AV Hd) = ownT t from rfl, (plainT_own (hp t ht)).1] at hbc
      simp at hbc
    · rw [List.eq_nil_iff_forall_not_mem]
      intro b hbm
      obtain ⟨c, hc, hbc⟩ := mem_ownAL.1 hbm
      obtain ⟨t, ht, rfl⟩ := List.mem_map.1 hc
      obtain ⟨t0, ht0, rfl⟩ := List.mem_map.1 ht
      rw [show ownA (.tr (shT t0) : AV Hd) = ownT (shT t0) from rfl, (plainT_own (hp t0 ht0)).2] at hbc
      simp at hbc
theorem look_initM : ∀ {args : List UE} {i d : Nat} {e : UE}, look (init i args) d = some e → e ∈ args
  | [], _, _, _, h => by simp [init, look] at h
  | x :: r, i, d, e, h => by
    simp only [init, look] at h
    split at h
    · simp at h; subst h; simp
    · exact List.mem_cons_of_mem _ (look_initM h)
theorem outU_plain : ∀ {args : List UE} {i : Nat}, args.all plainE = true → outU i (args.map shE) [] = []
  | [], _, _ => rfl
  | x :: r, i, h => by
    simp only [List.all_cons, Bool.and_eq_true] at h
    cases x with
    | tmp v => exact outU_plain (args := r) h.2
    | _ => simp [plainE] at h
theorem boxesN_plain : ∀ {args : List UE}, args.all plainE = true → boxesN args = 0
  | [], _ => rfl
  | x :: r, h => by
    simp only [List.all_cons, Bool.and_eq_true] at h
    cases x with
    | tmp v => exact boxesN_plain (args := r) h.2
    | _ => simp [plainE] at h
theorem look_mapE (g : Ent Hd → Ent Hd) : ∀ (S : St Hd) (d : Nat), look (S.map fun x => (x.1, g x.2)) d = (look S d).map g
  | [], _ => rfl
  | (k, e) :: r, d => by
    simp only [List.map_cons, look]
    split
    · rfl
    · exact look_mapE g r d
/-- What holds of arguments that are shared for good, holds of arguments that are lent, if nothing of them is handed back. -/
theorem ACall_sh {f : FuncId} {args : List UE} {r : UE} (h : ACall P f (args.map shE) [] r [] []) (hp : args.all plainE = true) (hr : ownOnlyR r = true) : ACall P f args [] r [] [] := by
  obtain ⟨⟨p1, p2, p3, p4, p5, p6, p7⟩, hc⟩ := h
  refine ⟨⟨p1, p2, p3, p4, p5, by rw [boxesN_plain hp]; rfl, by simpa using p7⟩, fun Z w vals S0 hS0 hsz hG => ?_⟩
  simp only [initV, List.append_nil] at hS0
  have hent : ∀ d e, look S0 d = some e → ∃ v, e = .tmp v ∧ plainV (erA v) = true := by
    intro d e he
    have h1 : look (erS S0) d = some (erE e) := by rw [look_er, he]; rfl
    rw [hS0] at h1
    have h2 := List.all_eq_true.1 hp _ (look_initM h1)
    cases e with
    | tmp v => exact ⟨v, rfl, h2⟩
    | _ => simp [erE, plainE] at h2
  let Z2 : Zone := ⟨Z.b, Z.b, fun _ h => h⟩
  let S1 : St Hd := S0.map fun x => (x.1, shE x.2)
  have hmem0 : ∀ x ∈ S0, look S0 x.1 = some x.2 := fun x hx => look_mem hG.sorted hx
  have her1 : erS S1 = init 0 (args.map shE) := by
    have h1 : erS S1 = (erS S0).map fun x => (x.1, shE x.2) := by
      simp only [S1, erS, List.map_map]
      refine List.map_congr_left fun x hx => ?_
      obtain ⟨v, hv, hpv⟩ := hent _ _ (hmem0 x hx)
      simp only [Function.comp_apply, hv, shE, erE, erA_shV hpv]
    have h2 : ∀ (l : List UE) (i : Nat), (init i l).map (fun x => (x.1, shE x.2)) = init i (l.map shE) := by
      intro l
      induction l with
      | nil => intro i; rfl
      | cons x r ih => intro i; simp only [init, List.map_cons, ih]
    rw [h1, hS0, h2]
  have hown0 : ownS S0 = [] := by
    rw [List.eq_nil_iff_forall_not_mem]
    intro b hb
    have : ∀ (S : St Hd), (∀ x ∈ S, ∃ v, x.2 = .tmp v ∧ ownA v = []) → ownS S = [] := by
      intro S
      induction S with
      | nil => intro _; rfl
      | cons x r ih =>
        intro h
        obtain ⟨k, e⟩ := x
        obtain ⟨v, hv, hv2⟩ := h (k, e) (by simp)
        simp only at hv; subst hv
        simp only [ownS, ownE, hv2, ih fun x hx => h x (by simp [hx]), List.append_nil]
    rw [this S0 fun x hx => ?_] at hb
    · simp at hb
    · obtain ⟨v, hv, hpv⟩ := hent _ _ (hmem0 x hx)
      have he := hG.ent _ _ (hmem0 x hx)
      rw [hv] at he
      exact ⟨v, hv, (plain_sh (Z' := Z2) (fun k hk => Z.sub k hk) (fun k hk => hk) (fun k hk => hk) hpv he.1 he.2).2.2.1⟩
  have hown1 : ownS S1 = [] := by
    have : ∀ (S : St Hd), (∀ x ∈ S, ∃ v, x.2 = .tmp v ∧ ownA (shV v) = []) → ownS (S.map fun x => (x.1, shE x.2)) = [] := by
      intro S
      induction S with
      | nil => intro _; rfl
      | cons x r ih =>
        intro h
        obtain ⟨k, e⟩ := x
        obtain ⟨v, hv, hv2⟩ := h (k, e) (by simp)
        simp only at hv; subst hv
        have hh := ih fun x hx => h x (by simp [hx])
        simp only [List.map_cons, ownS, shE, ownE, hv2, List.nil_append]
        exact hh
    refine this S0 fun x hx => ?_
    obtain ⟨v, hv, hpv⟩ := hent _ _ (hmem0 x hx)
    have he := hG.ent _ _ (hmem0 x hx)
    rw [hv] at he
    exact ⟨v, hv, (plain_sh (Z' := Z2) (fun k hk => Z.sub k hk) (fun k hk => hk) (fun k hk => hk) hpv he.1 he.2).2.2.2.1⟩
  have hG1 : Good Z2 S1 ⟨vals, []⟩ w := by
    refine ⟨?_, fun d e he => ?_, by rw [hown1]; exact List.nodup_nil, fun b hb => by rw [hown1] at hb; simp at hb, fun b hb => hG.zb b hb, fun d e he => ?_⟩
    · exact List.pairwise_map.2 hG.sorted
    · rw [look_mapE] at he
      cases h0 : look S0 d with
      | none => simp [h0] at he
      | some e0 =>
        simp only [h0, Option.map_some, Option.some.injEq] at he
        subst he
        obtain ⟨v, rfl, hpv⟩ := hent _ _ h0
        have hh := hG.ent _ _ h0
        obtain ⟨k1, k2, _⟩ := plain_sh (Z' := Z2) (fun k hk => Z.sub k hk) (fun k hk => hk) (fun k hk => hk) hpv hh.1 hh.2
        exact ⟨k1, k2⟩
    · rw [look_mapE] at he
      cases h0 : look S0 d with
      | none => simp [h0] at he
      | some e0 =>
        simp only [h0, Option.map_some, Option.some.injEq] at he
        subst he
        obtain ⟨v, rfl, hpv⟩ := hent _ _ h0
        have hh := hG.ent _ _ h0
        exact (plain_sh (Z' := Z2) (fun k hk => Z.sub k hk) (fun k hk => hk) (fun k hk => hk) hpv hh.1 hh.2).2.2.2.2 S1
  refine Calls.mono (hc Z2 w vals S1 (by simpa [initV] using her1) (by simpa using hsz) hG1) fun e w' hh => ?_
  cases e with
  | panicked c => exact hh
  | outgrown => exact hh
  | returned v =>
    obtain ⟨S', a', g1, g2, g3, g4, g5⟩ := hh
    rw [outU_plain hp] at g2
    simp only [List.nil_append, initV] at g2
    obtain ⟨r', rfl, hr'⟩ : ∃ r', S' = [(999, r')] ∧ erE r' = r := by
      cases S' with
      | nil => simp [erS] at g2
      | cons x rest =>
        obtain ⟨k, e⟩ := x
        simp only [erS, List.map_cons, List.cons.injEq, Prod.mk.injEq, List.map_eq_nil_iff] at g2
        obtain ⟨⟨rfl, h1⟩, rfl⟩ := g2
        exact ⟨e, rfl, h1⟩
    obtain ⟨t, rfl, ht⟩ : ∃ t, r' = .tmp (.tr t) ∧ ownOnly (erT t) = true := by
      subst hr'
      cases r' with
      | tmp v =>
        cases v with
        | tr t => exact ⟨t, rfl, hr⟩
        | _ => simp [erE, erA, ownOnlyR] at hr
      | _ => simp [erE, ownOnlyR] at hr
    have hl9 : look [(999, (.tmp (.tr t) : Ent Hd))] 999 = some (.tmp (.tr t)) := rfl
    have hnov : ∀ d t', look [(999, (.tmp (.tr t) : Ent Hd))] d ≠ some (.vir t') := by
      intro d t'
      simp only [look]
      split <;> simp
    refine ⟨[(999, .tmp (.tr t))], a', ⟨g1.sorted, fun d e he => ?_, g1.nd, g1.zn, g1.zb, g1.refs⟩, by simp [erS, hr', outU_nil hp, initV], g3, fun d g cs hd => ?_, ⟨g5.os, g5.tape, g5.output, g5.size, fun b hb hn => g5.block b hb (by rw [hown1]; simp), fun b hb => ?_, fun d g cs A cells e hd => ?_, fun d t' hd => absurd hd (hnov d t')⟩⟩
    · have h9 := g1.ent d e he
      simp only [look] at he
      split at he
      · simp at he; subst he
        exact ⟨h9.1, memT_only (Z := Z) (Z' := Z2) (fun k hk => hk) true t h9.2 ht⟩
      · simp at he
    · obtain ⟨v, hv, _⟩ := hent _ _ hd; simp at hv
    · have := g5.own b hb
      rw [hown1] at this
      rw [hown0]; exact this
    · obtain ⟨v, hv, _⟩ := hent _ _ hd; simp at hv
where
  outU_nil : ∀ {args : List UE} {i : Nat}, args.all plainE = true → outU i args [] = []
    | [], _, _ => rfl
    | x :: r, i, h => by
      simp only [List.all_cons, Bool.and_eq_true] at h
      cases x with
      | tmp v => exact outU_nil (args := r) h.2
      | _ => simp [plainE] at h
end Go.HT
end
