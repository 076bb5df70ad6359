/- A part of the proof of: The law FnExactCtlJobAsks returns true, and its arguments read as before, for all arguments whose reading is together of bulk at most 1048576 (values and letters). -/
import Derived.Test.YtifbcpifgajdeaaGreatPa
import Derived.ArgAppend
import Derived.Laws.BytesArg
import Derived.LoopN
import Derived.OrdersHeld
set_option linter.all false
set_option linter.unusedSimpArgs false
set_option linter.unusedVariables false
section
namespace Go.HT
open Go
variable {P : Program} {Z : Zone} {S : St Hd} {a : Act} {w : World} {o : Oper}

/-! ### The row behind a header -/
theorem rowAddrT_snoc : ∀ {st : List (Nat × Nat)} {B B' : Addr} {row row' row1 : List (Tr Hd)} {off i w0 : Nat} {g : Hd} {rows : List (List (Tr Hd))} {A : Addr}, rowAddrT B row st = some (B', row') → row'[off]? = some (.sl .own g w0 rows) → g.a = some A → rows[i]? = some row1 →
    rowAddrT B row (st ++ [(off, i)]) = some (⟨A.block, A.off + i * w0, none⟩, row1)
  | [], B, B', row, row', row1, off, i, w0, g, rows, A, h, h1, h2, h3 => by
    simp [rowAddrT] at h
    obtain ⟨rfl, rfl⟩ := h
    simp [rowAddrT, h1, h2, h3]
  | (o1, i1) :: r, B, B', row, row', row1, off, i, w0, g, rows, A, h, h1, h2, h3 => by
    simp only [rowAddrT, List.cons_append] at h ⊢
    split at h
    · rename_i g1 wd rows1 e1
      split at h
      · rename_i A1 row2 e2 e3
        exact rowAddrT_snoc h h1 h2 h3
      · simp at h
    · simp at h
theorem rowT_addr : ∀ {st : List (Nat × Nat)} {B : Addr} {row row' : List (Tr Hd)}, (∀ t ∈ row, memT w Z true t) → rowT row st = some row' → ∃ B', rowAddrT B row st = some (B', row')
  | [], B, row, row', _, h => by simp [rowT] at h; subst h; exact ⟨B, rfl⟩
  | (o1, i1) :: r, B, row, row', hm, h => by
    simp only [rowT] at h
    split at h
    · rename_i g1 wd rows1 e1
      split at h
      · rename_i row2 e3
        obtain ⟨m1, m2, m3⟩ := hm _ (List.mem_of_getElem? e1)
        simp only [rowAddrT, e1, e3]
        cases hg : g1.a with
        | none => have := (m1.1 hg).1; subst this; simp at e3
        | some A =>
          simp only
          exact rowT_addr (memRow_iff.1 (memRows_iff.1 m3 row2 (List.mem_of_getElem? e3))) h
      · simp at h
    · simp at h
/-- The row that a place's header leads to. -/
theorem rowAddr_behind (hG : Good Z S a w) {q : Place} {g : Hd} {w0 : Nat} {rows : List (List (Tr Hd))} {A : Addr} {i : Nat} {row : List (Tr Hd)} (hc : getC S q = some (.tr (.sl .own g w0 rows))) (hA : g.a = some A) (hi : rows[i]? = some row) :
    rowAddrS S q.root (q.st ++ [(q.off, i)]) = some (⟨A.block, A.off + i * w0, none⟩, row.map .tr) := by
  simp only [getC, rowOf] at hc
  cases hl : look S q.root with
  | none => simp [hl] at hc
  | some e =>
    simp only [hl] at hc
    have hm := hG.cellsMem hl
    have key : ∀ B0, rowAddrA B0 e.cells (q.st ++ [(q.off, i)]) = some (⟨A.block, A.off + i * w0, none⟩, row.map .tr) := by
      intro B0
      cases hst : q.st with
      | nil =>
        simp only [hst, stepRow] at hc
        simp [rowAddrA, hc, hA, hi, rowAddrT]
      | cons x r =>
        obtain ⟨o1, i1⟩ := x
        simp only [hst, stepRow] at hc
        simp only [List.cons_append, rowAddrA]
        cases hh : e.cells[o1]? with
        | none => simp [hh] at hc
        | some c1 =>
          simp only [hh] at hc ⊢
          split at hc
          · rename_i rowz e1
            split at e1
            · rename_i g1 wd rows1 e0
              simp only [Option.some.injEq] at e0
              subst e0
              simp only
              cases h3 : rows1[i1]? with
              | none => simp [h3] at e1
              | some row1 =>
                simp only [h3, stepRow_tr] at e1
                obtain ⟨m1, m2, m3⟩ := hm _ (List.mem_of_getElem? hh)
                cases hg : g1.a with
                | none => have := (m1.1 hg).1; subst this; simp at h3
                | some A1 =>
                  simp only
                  cases hr : rowT row1 r with
                  | none => simp [hr] at e1
                  | some row2 =>
                    simp only [hr, Option.map_some, Option.some.injEq] at e1
                    subst e1
                    obtain ⟨B', k1⟩ := rowT_addr (B := ⟨A1.block, A1.off + i1 * wd, none⟩) (memRow_iff.1 (memRows_iff.1 m3 row1 (List.mem_of_getElem? h3))) hr
                    rw [List.getElem?_map] at hc
                    cases h4 : row2[q.off]? with
                    | none => simp [h4] at hc
                    | some t4 =>
                      simp [h4] at hc
                      subst hc
                      rw [rowAddrT_snoc k1 h4 hA hi]
                      rfl
            · simp at e1
          · simp at hc
    simp only [rowAddrS, hl]
    cases e with
    | box g1 cs =>
      obtain ⟨h1, A1, h2, _⟩ := hG.ent _ _ hl
      simp only [rowAddrE, h2]
      exact key A1
    | vir t => simp only [rowAddrE]; rw [if_neg (by simp)]; exact key default
    | tmp v => simp only [rowAddrE]; rw [if_neg (by simp)]; exact key default
section
variable (hG : Good Z S a w) (hd : ∀ d, o.dst = some d → d < a.tmps.size) {U : US} {p : Prop}
include hG hd
theorem xIndexAddr_ok {t : TypeId} {x i : Operand} (hop : o.op = .indexAddr t x i) (h : xIndexAddr P (erS S) o.dst t x i = some (p, ⟨U⟩)) (hp : p) : Lands P Z S a w o U := by
  have hexec : execOp a.eval o = (do pure (.value (← Instr.indexAt t (a.eval x) (a.eval i)))) := by simp [execOp, hop]
  have slrun : ∀ (A : Addr) (len cap : Nat) (k : IntKind) (n : Int), slOk P t = true → a.eval x = .slice (some A) len cap → a.eval i = .int k n → 0 ≤ n → n < len → (execOp a.eval o).run P w = .ok (.value (.pointer (some (A.add (n.toNat * szOf P (elemOf P t)))))) w := by
    intro A len cap k n hsl e1 e2 h0 h1
    obtain ⟨s1, s2⟩ := slOk_elem hsl
    simp only [hexec, e1, e2, Sem.run_bind, run_indexAt_slice w t A len cap k n s1, if_pos (And.intro h0 h1), s2, run_sizeOf' (slOk_spec hsl).2, Result.andThen_ok, Sem.run_pure]
  unfold xIndexAddr at h
  split at h
  · rename_i v k n hv hn
    have en := ev_int hG hn
    obtain ⟨v', h1, h2, h3, h4, h5, h6⟩ := ev_ok hG hv
    split at h
    · rename_i q lo m cp u
      obtain ⟨g, rfl⟩ := erA_ref h1
      obtain ⟨g0, w0, rows, hc, hs⟩ := h4
      rw [getC_er, hc] at h
      simp only [Option.map_some, erA, erT, retIf, Option.some.injEq, Prod.mk.injEq, W.mk.injEq] at h
      obtain ⟨rfl, rfl⟩ := h
      obtain ⟨hsl, rfl, hn0, hn1⟩ := hp
      obtain ⟨s1, s2, s3, s4, s5⟩ := hs
      obtain ⟨A0, a1, a2⟩ := s2 (by omega)
      simp only [IsA, a2] at h2
      have hlt : lo + n.toNat < rows.length := by omega
      have hr := rowAddr_behind hG hc a1 (i := lo + n.toNat) (row := rows[lo + n.toNat]) (by simp [hlt])
      refine lands_plain (v' := .ptr ⟨q.root, q.st ++ [(q.off, lo + n.toNat)], 0⟩ ⟨some ⟨A0.block, A0.off + (lo + n.toNat) * szOf P (elemOf P t), none⟩, 0⟩) (slrun _ _ _ k n hsl h2 en hn0 hn1) hG hd ?_ trivial rfl ⟨_, _, hr, by simp⟩
      simp [IsA, spot_add, Nat.add_mul, Nat.add_assoc]
    · rename_i κ u w0 rows
      obtain ⟨t', rfl, ht⟩ := erA_tr h1
      obtain ⟨g, rows', rfl, rfl⟩ := erT_sl ht
      simp only [IsA, IsT] at h2
      have adr : rows'.length ≠ 0 → ∃ A, g.a = some A ∧ A.spot = none := fun hne => by
        cases hg : g.a with
        | none => have := (h3.1.1 hg).1; subst this; simp at hne
        | some A => exact ⟨A, rfl, (h3.1.2 A hg).1⟩
      have shd : κ ≠ .own → ∀ (n' : Nat), n' < rows'.length → slOk P t = true → w0 = szOf P (elemOf P t) → 0 ≤ n → n.toNat = n' → Lands P Z S a w o (putO (erS S) o.dst (.psh ((erRows rows').getD n' []) 0 ())) := by
        intro hκ n' hlt hsl hw hn0 hn'
        obtain ⟨A, a1, a2⟩ := adr (by omega)
        obtain ⟨b, off, sp⟩ := A
        simp only at a2
        subst a2
        rw [a1] at h2
        obtain ⟨c1, c2, c3, cs, e, fr, c4, c5, c6⟩ := h3.1.2 _ a1
        have hget : rows'[n']? = some rows'[n'] := by simp [hlt]
        have hmem := memRow_iff.1 (memRows_iff.1 h3.2.2 rows'[n'] (List.getElem_mem hlt))
        have hz : (true && decide (κ = .own)) = false := by simp [hκ]
        rw [hz] at hmem
        have hb : Z.b b := by
          cases κ with
          | own => exact absurd rfl hκ
          | sh => exact Z.sub _ c3
          | bo => exact c3
        have := lands_plain (v' := .psh rows'[n'] 0 ⟨some ⟨b, off + n' * w0, none⟩, 0⟩) (slrun _ _ _ k n hsl h2 en hn0 (by omega)) hG hd (by simp [IsA, spot_add, hn', hw]) ⟨⟨b, off + n' * w0, none⟩, rfl, hb, fun j c hj => ?_⟩ rfl trivial
        · simp only [erA] at this
          rw [show (erRows rows').getD n' [] = erRow rows'[n'] by simp [List.getD_eq_getElem?_getD, erRows_get, hget]]
          exact this
        · obtain ⟨v, k1, k2⟩ := (c6 n' _ hget).2 j c hj
          exact ⟨⟨v, by rw [cell_eq c4]; exact k1, k2⟩, hmem c (List.mem_of_getElem? hj)⟩
      split at h
      · split at h
        · rename_i s
          simp only [retIf, Option.some.injEq, Prod.mk.injEq, W.mk.injEq, erRows_length] at h
          obtain ⟨rfl, rfl⟩ := h
          obtain ⟨hsl, rfl, hn0, hn1⟩ := hp
          obtain ⟨A, a1, a2⟩ := adr (by omega)
          obtain ⟨b, off, sp⟩ := A
          simp only at a2
          subst a2
          rw [a1] at h2
          obtain ⟨e, hl, he⟩ := h6 s rfl
          have hl' : look S s = some (.tmp (.tr (.sl .own g (szOf P (elemOf P t)) rows'))) := by
            rcases he with rfl | ⟨g1, cs, rfl, hh⟩
            · exact hl
            · simp at hh
          have hc : getC S ⟨s, [], 0⟩ = some (.tr (.sl .own g (szOf P (elemOf P t)) rows')) := by simp [getC, rowOf, hl', Ent.cells, stepRow]
          have hlt : n.toNat < rows'.length := by omega
          have hr := rowAddr_behind hG hc a1 (i := n.toNat) (row := rows'[n.toNat]) (by simp [hlt])
          refine lands_plain (v' := .ptr ⟨s, [(0, n.toNat)], 0⟩ ⟨some ⟨b, off + n.toNat * szOf P (elemOf P t), none⟩, 0⟩) (slrun _ _ _ k n hsl h2 en hn0 hn1) hG hd ?_ trivial rfl ⟨_, _, hr, by simp⟩
          simp [IsA, spot_add]
        · simp at h
      · rename_i κ' hκ
        simp only [retIf, Option.some.injEq, Prod.mk.injEq, W.mk.injEq, erRows_length] at h
        obtain ⟨rfl, rfl⟩ := h
        obtain ⟨hsl, hw, hn0, hn1⟩ := hp
        exact shd (by simpa using hκ) n.toNat (by omega) hsl hw hn0 rfl
    · rename_i q u
      obtain ⟨g, rfl⟩ := erA_ptr h1
      split at h
      · rename_i harr
        simp only [retIf, Option.some.injEq, Prod.mk.injEq, W.mk.injEq] at h
        obtain ⟨rfl, rfl⟩ := h
        obtain ⟨he, hl1, hn0, hn1⟩ := hp
        obtain ⟨B, row, r1, r2⟩ := h4
        simp only [IsA, r2] at h2
        have hu : P.underlying t = some (.array (P.arrayLen t) (P.elem t)) ∧ P.arrayLen t = arrLen P t ∧ P.elem t = elemOf P t := by
          unfold arrB at harr
          split at harr
          · rename_i m e0 hu
            simp [Program.arrayLen, Program.elem, arrLen, elemOf, hu]
          · simp at harr
        obtain ⟨u1, u2, u3⟩ := hu
        have hrun : (execOp a.eval o).run P w = .ok (.value (.pointer (some ⟨B.block, B.off + q.off + n.toNat * szOf P (elemOf P t), none⟩))) w := by
          simp only [hexec, h2, en, Sem.run_bind, run_indexAt_array w t _ k n u1, u2, if_pos (And.intro hn0 hn1), u3, run_sizeOf' he, Result.andThen_ok, Sem.run_pure, spot_add]
        exact lands_plain (v' := .ptr ⟨q.root, q.st, q.off + n.toNat * szOf P (elemOf P t)⟩ ⟨some ⟨B.block, B.off + q.off + n.toNat * szOf P (elemOf P t), none⟩, 0⟩) hrun hG hd rfl trivial rfl ⟨B, row, r1, by simp [Nat.add_assoc]⟩
      · simp at h
    · rename_i row i0 u
      obtain ⟨row', g, rfl, rfl⟩ := erA_psh h1
      split at h
      · rename_i harr
        simp only [retIf, Option.some.injEq, Prod.mk.injEq, W.mk.injEq] at h
        obtain ⟨rfl, rfl⟩ := h
        obtain ⟨he, hl1, hn0, hn1⟩ := hp
        obtain ⟨B, b1, b2, b3⟩ := h3
        simp only [IsA, b1] at h2
        have hu : P.underlying t = some (.array (P.arrayLen t) (P.elem t)) ∧ P.arrayLen t = arrLen P t ∧ P.elem t = elemOf P t := by
          unfold arrB at harr
          split at harr
          · rename_i m e0 hu
            simp [Program.arrayLen, Program.elem, arrLen, elemOf, hu]
          · simp at harr
        obtain ⟨u1, u2, u3⟩ := hu
        have hrun : (execOp a.eval o).run P w = .ok (.value (.pointer (some ⟨B.block, B.off + i0 + n.toNat * szOf P (elemOf P t), none⟩))) w := by
          simp only [hexec, h2, en, Sem.run_bind, run_indexAt_array w t _ k n u1, u2, if_pos (And.intro hn0 hn1), u3, run_sizeOf' he, Result.andThen_ok, Sem.run_pure, spot_add]
        exact lands_plain (v' := .psh row' (i0 + n.toNat * szOf P (elemOf P t)) ⟨some ⟨B.block, B.off + i0 + n.toNat * szOf P (elemOf P t), none⟩, 0⟩) hrun hG hd rfl ⟨B, by simp [Nat.add_assoc], b2, b3⟩ rfl trivial
      · simp at h
    · simp at h
  · simp at h
end
end Go.HT
end
section
namespace Go.HT
open Go
variable {P : Program} {Z : Zone} {S : St Hd} {a : Act} {w : World} {o : Oper}

theorem rows_adr {al : Bool} {κ : Knd} {g : Hd} {wd : Nat} {rows : List (List (Tr Hd))} (h : memT w Z al (.sl κ g wd rows)) (hne : rows ≠ []) : ∃ b off, g.a = some ⟨b, off, none⟩ := by
  cases hg : g.a with
  | none => exact absurd (h.1.1 hg).1 hne
  | some A =>
    obtain ⟨b, off, sp⟩ := A
    have := (h.1.2 _ hg).1
    simp only at this
    subst this
    exact ⟨b, off, rfl⟩
theorem rows_cap {al : Bool} {κ : Knd} {g : Hd} {wd : Nat} {rows : List (List (Tr Hd))} (h : memT w Z al (.sl κ g wd rows)) : rows.length ≤ g.cap := by
  cases hg : g.a with
  | none => rw [(h.1.1 hg).1]; simp
  | some A => exact (h.1.2 A hg).2.1
theorem evO_ok (hG : Good Z S a w) {x : Option Operand} {r : Option UV} {n : Option Int} (h : evO P (erS S) x = some r) (hn : optNat r = some n) : ∃ k, x.map a.eval = n.map (Value.int k) := by
  unfold evO at h
  cases x with
  | none =>
    simp at h; subst h
    simp [optNat] at hn; subst hn
    exact ⟨.i64, rfl⟩
  | some x =>
    simp only at h
    split at h
    · rename_i v hv
      simp at h; subst h
      unfold optNat at hn
      split at hn
      · rename_i hh; simp at hh
      · rename_i k i hh
        simp at hh hn; subst hh hn
        exact ⟨k, by simp [ev_int hG hv]⟩
      · simp at hn
    · simp at h
theorem run_sliceBounds (b : Bool) (len cap : Nat) (k1 k2 k3 : IntKind) (lo hi mx : Option Int) (h0 : 0 ≤ lo.getD 0) (h1 : lo.getD 0 ≤ hi.getD len) (h2 : hi.getD len ≤ len) (h3 : len ≤ cap) (h4 : mx = none ∨ mx = hi) (w : World) :
    (Instr.sliceBounds b len cap (lo.map (Value.int k1)) (hi.map (Value.int k2)) (mx.map (Value.int k3))).run P w = .ok ((lo.getD 0).toNat, (hi.getD len).toNat, if mx.isSome then (hi.getD len).toNat else cap) w := by
  have hm : mx = none ∨ ∃ m, mx = some m ∧ hi = some m := by
    rcases h4 with rfl | rfl
    · exact .inl rfl
    · cases mx with
      | none => exact .inl rfl
      | some m => exact .inr ⟨m, rfl, rfl⟩
  rcases hm with rfl | ⟨m, rfl, rfl⟩
  · cases lo with
    | none =>
      cases hi with
      | none => simp [Instr.sliceBounds]
      | some i =>
        simp only [Option.getD_some, Option.getD_none] at *
        simp [Instr.sliceBounds, run_sliceBound, h1, show i ≤ (cap : Int) by omega]
    | some l =>
      cases hi with
      | none =>
        simp only [Option.getD_some, Option.getD_none] at *
        simp [Instr.sliceBounds, run_sliceBound, h0, h1]
      | some i =>
        simp only [Option.getD_some] at *
        simp [Instr.sliceBounds, run_sliceBound, h0, h1, show 0 ≤ i by omega, show i ≤ (cap : Int) by omega, Int.toNat_of_nonneg (show 0 ≤ i by omega), -Int.ofNat_toNat]
  · cases lo with
    | none =>
      simp only [Option.getD_some, Option.getD_none] at *
      simp [Instr.sliceBounds, run_sliceBound, h1, show m ≤ (cap : Int) by omega, Int.toNat_of_nonneg h1, -Int.ofNat_toNat]
    | some l =>
      simp only [Option.getD_some] at *
      simp [Instr.sliceBounds, run_sliceBound, h0, h1, show 0 ≤ m by omega, show m ≤ (cap : Int) by omega, Int.toNat_of_nonneg (show 0 ≤ m by omega), -Int.ofNat_toNat]
theorem run_min_str {ts : Array TypeId} {ty : TypeId} (n m : List UInt8) (w : World) : (Builtin.min_ ts ty #[.string ⟨⟨n⟩⟩, .string ⟨⟨m⟩⟩]).run P w = .ok (.string ⟨⟨if strLt n m || decide (n = m) then n else m⟩⟩) w := by
  simp only [Builtin.min_, List.foldlM, Builtin.min2, Op.stringOp, asBool, ByteArray.toList_eq, beq_dec, Sem.run_bind, Sem.run_pure, Result.andThen_ok, strLt]
  by_cases h1 : Op.bytesLess n m = true <;> by_cases h2 : n = m <;> simp [h1, h2]
theorem run_max_str {ts : Array TypeId} {ty : TypeId} (n m : List UInt8) (w : World) : (Builtin.max_ ts ty #[.string ⟨⟨n⟩⟩, .string ⟨⟨m⟩⟩]).run P w = .ok (.string ⟨⟨if strLt n m then m else n⟩⟩) w := by
  simp only [Builtin.max_, List.foldlM, Builtin.max2, Op.stringOp, asBool, ByteArray.toList_eq, beq_dec, Sem.run_bind, Sem.run_pure, Result.andThen_ok, strLt]
  by_cases h1 : Op.bytesLess n m = true <;> simp [h1]
section
variable (hG : Good Z S a w) (hd : ∀ d, o.dst = some d → d < a.tmps.size) {U : US} {p : Prop}
include hG hd
theorem xIndex_ok {t : TypeId} {x i : Operand} (hop : o.op = .index t x i) (h : xIndex P (erS S) o.dst t x i = some (p, ⟨U⟩)) (hp : p) : Lands P Z S a w o U := by
  unfold xIndex at h
  split at h
  · rename_i s k n hv hn
    have e1 := ev_str hG hv
    have e2 := ev_int hG hn
    simp only [retIf, Option.some.injEq, Prod.mk.injEq, W.mk.injEq] at h
    obtain ⟨rfl, rfl⟩ := h
    obtain ⟨hs, h0, h1⟩ := hp
    have hlt : n.toNat < s.length := by omega
    have hget : (ByteArray.mk ⟨s⟩)[n.toNat]? = some s[n.toNat] := by
      have : n.toNat < (ByteArray.mk ⟨s⟩).size := hlt
      rw [getElem?_pos (ByteArray.mk ⟨s⟩) n.toNat this]
      rfl
    have hrun : (execOp a.eval o).run P w = .ok (.value (.int .u8 (s.getD n.toNat 0).toNat)) w := by
      simp [execOp, hop, Instr.index, e1, e2, asIntOf, run_underlying (strOk_spec hs), h0, hget, hlt]
    exact lands_plain (v' := .tr (.int .u8 (s.getD n.toNat 0).toNat)) hrun hG hd rfl trivial rfl trivial
  · simp at h
theorem xLen_ok {t ty : TypeId} {x : Operand} (hrun : ∀ v, (Builtin.len_ #[t] ty #[a.eval x]).run P w = .ok v w → (execOp a.eval o).run P w = .ok (.value v) w) (h : xLen P (erS S) o.dst t x = some (p, ⟨U⟩)) (hp : p) : Lands P Z S a w o U := by
  unfold xLen at h
  split at h
  · rename_i v hv
    split at h
    · rename_i p0 n hlen
      simp only [retIf, Option.some.injEq, Prod.mk.injEq, W.mk.injEq] at h
      obtain ⟨rfl, rfl⟩ := h
      obtain ⟨v', h1, h2, h3, h4, h5, h6⟩ := ev_ok hG hv
      have fin : (Builtin.len_ #[t] ty #[a.eval x]).run P w = .ok (.int .i64 n) w → Lands P Z S a w o (putO (erS S) o.dst (.tr (.int .i64 n))) := fun hr =>
        lands_plain (v' := .tr (.int .i64 n)) (hrun _ hr) hG hd rfl trivial rfl trivial
      unfold lenOf at hlen
      split at hlen
      · obtain ⟨t', rfl, ht⟩ := erA_tr h1
        obtain ⟨g, rows', rfl, rfl⟩ := erT_sl ht
        simp only [IsA, IsT] at h2
        simp only [Option.some.injEq, Prod.mk.injEq, erRows_length] at hlen
        obtain ⟨rfl, rfl⟩ := hlen
        obtain ⟨s1, s2⟩ := slOk_elem hp
        exact fin (by rw [h2, run_len_slice w t ty _ _ _ s1]; rfl)
      · obtain ⟨g, rfl⟩ := erA_ref h1
        simp only [IsA] at h2
        simp only [Option.some.injEq, Prod.mk.injEq] at hlen
        obtain ⟨rfl, rfl⟩ := hlen
        obtain ⟨s1, s2⟩ := slOk_elem hp
        exact fin (by rw [h2, run_len_slice w t ty _ _ _ s1]; rfl)
      · obtain ⟨t', rfl, ht⟩ := erA_tr h1
        have := erT_str ht
        subst this
        simp only [IsA, IsT] at h2
        simp only [Option.some.injEq, Prod.mk.injEq] at hlen
        obtain ⟨rfl, rfl⟩ := hlen
        exact fin (by rw [h2]; simp [Builtin.len_, run_underlying (strOk_spec hp.1), goInt]; rfl)
      · simp at hlen
    · simp at h
  · simp at h
theorem xMin_ok {x y : Operand} {ts : Array TypeId} {ty : TypeId} (hrun : ∀ v, (Builtin.min_ ts ty #[a.eval x, a.eval y]).run P w = .ok v w → (execOp a.eval o).run P w = .ok (.value v) w) (h : xMin P (erS S) o.dst x y = some (p, ⟨U⟩)) : Lands P Z S a w o U := by
  unfold xMin at h
  split at h
  · rename_i k n k' m ha hb
    simp only [ret1, Option.some.injEq, Prod.mk.injEq, W.mk.injEq] at h
    obtain ⟨_, rfl⟩ := h
    exact lands_plain (v' := .tr (.int k (if m < n then m else n))) (hrun _ (by rw [ev_int hG ha, ev_int hG hb]; simp [Builtin.min_, Builtin.min2])) hG hd rfl trivial rfl trivial
  · rename_i n m ha hb
    simp only [ret1, Option.some.injEq, Prod.mk.injEq, W.mk.injEq] at h
    obtain ⟨_, rfl⟩ := h
    refine lands_plain (v' := .tr (.str (if strLt n m || decide (n = m) then n else m))) (hrun _ (by rw [ev_str hG ha, ev_str hG hb]; exact run_min_str n m w)) hG hd rfl trivial rfl trivial
  · simp at h
theorem xMax_ok {x y : Operand} {ts : Array TypeId} {ty : TypeId} (hrun : ∀ v, (Builtin.max_ ts ty #[a.eval x, a.eval y]).run P w = .ok v w → (execOp a.eval o).run P w = .ok (.value v) w) (h : xMax P (erS S) o.dst x y = some (p, ⟨U⟩)) : Lands P Z S a w o U := by
  unfold xMax at h
  split at h
  · rename_i k n k' m ha hb
    simp only [ret1, Option.some.injEq, Prod.mk.injEq, W.mk.injEq] at h
    obtain ⟨_, rfl⟩ := h
    exact lands_plain (v' := .tr (.int k (if n < m then m else n))) (hrun _ (by rw [ev_int hG ha, ev_int hG hb]; simp [Builtin.max_, Builtin.max2])) hG hd rfl trivial rfl trivial
  · rename_i n m ha hb
    simp only [ret1, Option.some.injEq, Prod.mk.injEq, W.mk.injEq] at h
    obtain ⟨_, rfl⟩ := h
    refine lands_plain (v' := .tr (.str (if strLt n m then m else n))) (hrun _ (by rw [ev_str hG ha, ev_str hG hb]; exact run_max_str n m w)) hG hd rfl trivial rfl trivial
  · simp at h
omit hd in
theorem evs_ok : ∀ {xs : List Operand} {vs : List UV}, evs P (erS S) xs = some vs → ∃ vs', erL vs' = vs ∧ IsL vs' (xs.map a.eval) ∧ refOkL S vs'
  | [], vs, h => by simp [evs] at h; subst h; exact ⟨[], rfl, rfl, trivial⟩
  | x :: r, vs, h => by
    simp only [evs] at h
    split at h
    · rename_i v vs1 hv hr
      simp at h; subst h
      obtain ⟨v', h1, h2, h3, h4, h5, h6⟩ := ev_ok hG hv
      obtain ⟨l, k1, k2, k3⟩ := evs_ok hr
      exact ⟨v' :: l, by simp [erL, h1, k1], ⟨_, _, rfl, h2, k2⟩, h4, k3⟩
    · simp at h
theorem xMakeFunc_ok {fn : Fn} {caps : Array Operand} (hop : o.op = .makeFunc fn #[] caps) (h : xMakeFunc P (erS S) o.dst fn caps.toList = some (p, ⟨U⟩)) : Lands P Z S a w o U := by
  unfold xMakeFunc at h
  split at h
  · rename_i f
    split at h
    · rename_i cs hc
      simp only [ret1, Option.some.injEq, Prod.mk.injEq, W.mk.injEq] at h
      obtain ⟨_, rfl⟩ := h
      obtain ⟨vs', k1, k2, k3⟩ := evs_ok hG hc
      subst k1
      exact lands_plain (v' := .fn f vs') (val := .func (.func f) #[] (caps.map a.eval)) (by simp [execOp, hop, Instr.makeFunc]) hG hd ⟨_, rfl, by simpa using k2⟩ trivial rfl k3
    · simp at h
  · simp at h
theorem xIface_ok {t : TypeId} {x : Operand} (hop : o.op = .makeInterface t x) (h : xIface P (erS S) o.dst t x = some (p, ⟨U⟩)) (hp : p) : Lands P Z S a w o U := by
  unfold xIface at h
  split at h
  · rename_i v hv
    obtain ⟨v', h1, h2, h3, h4, h5, h6⟩ := ev_ok hG hv
    cases x with
    | tmp s =>
      simp only [retIf, Option.some.injEq, Prod.mk.injEq, W.mk.injEq] at h
      obtain ⟨rfl, rfl⟩ := h
      obtain ⟨k1, k2, k3⟩ := bor_ok hG (h6 s rfl) h2 h3 h4
      have hrun : (execOp a.eval o).run P w = .ok (.value (.iface t (a.eval (.tmp s)))) w := by
        unfold ifcOk at hp
        split at hp
        · simp at hp
        · rename_i d hni hu
          simp only [execOp, hop, Instr.makeInterface, Sem.run_bind, run_underlying hu, Result.andThen_ok]
          cases d <;> first | rfl | exact absurd rfl (hni _)
        · simp at hp
      have := lands_plain (v' := .ifc t (bor s v')) hrun hG hd ⟨_, rfl, k1⟩ trivial rfl k3
      simp only [erA, bor_er, h1] at this
      exact this
    | _ => simp at h
  · simp at h
end
end Go.HT
end
section
namespace Go.HT
open Go
variable {P : Program} {Z : Zone} {S : St Hd} {a : Act} {w : World} {o : Oper}

theorem run_slice' {t : TypeId} (hs : slOk P t = true) (A : Option Addr) (len cap : Nat) (k1 k2 k3 : IntKind) (lo hi mx : Option Int) (h0 : 0 ≤ lo.getD 0) (h1 : lo.getD 0 ≤ hi.getD len) (h2 : hi.getD len ≤ len) (h3 : len ≤ cap) (h4 : mx = none ∨ mx = hi) (w : World) :
    (Instr.sliceAt t (.slice A len cap) (lo.map (Value.int k1)) (hi.map (Value.int k2)) (mx.map (Value.int k3))).run P w = .ok (sliced A (lo.getD 0).toNat (hi.getD len).toNat (if mx.isSome then (hi.getD len).toNat else cap) (szOf P (elemOf P t))) w := by
  obtain ⟨s1, s2⟩ := slOk_elem hs
  simp only [run_sliceAt_slice w t _ _ _ _ s1, run_slice_any w t _ _ _ s1, run_sliceBounds true len cap k1 k2 k3 lo hi mx h0 h1 h2 h3 h4 w, Result.andThen_ok, s2, run_sizeOf' (slOk_spec hs).2]
/-- The part of a slice, as a header. -/
def subHd (g : Hd) (l h m s : Nat) : Hd := ⟨if m = l then g.a else g.a.map (·.add (l * s)), m - l⟩
theorem sliced_eq (g : Hd) (l h m s : Nat) : sliced g.a l h m s = .slice (subHd g l h m s).a (h - l) (subHd g l h m s).cap := rfl
theorem toNat_sub' {x y : Int} : (x - y).toNat = x.toNat - y.toNat ∨ y < 0 := by omega
/-- A part of a reference. -/
theorem subOk_part {g0 g : Hd} {w0 len lo0 m : Nat} {cp : Bool} (h : subOk g0 w0 len lo0 m cp g) {lo hi mx : Option Int} (h0 : 0 ≤ lo.getD 0) (h1 : lo.getD 0 ≤ hi.getD m) (h2 : hi.getD m ≤ m) (h4 : mx = none ∨ mx = hi) (h5 : ¬ (cp = true ∧ hi.isSome = true ∧ mx = none)) :
    subOk g0 w0 len (lo0 + (lo.getD 0).toNat) (hi.getD m - lo.getD 0).toNat (mx.isSome || (cp && hi.isNone)) (subHd g (lo.getD 0).toNat (hi.getD m).toNat (if mx.isSome then (hi.getD m).toNat else g.cap) w0) := by
  obtain ⟨s1, s2, s3, s4, s5⟩ := h
  have hm : (if mx.isSome then (hi.getD (m : Int)).toNat else g.cap) = g.cap ∨ ((if mx.isSome then (hi.getD (m : Int)).toNat else g.cap) = (hi.getD (m : Int)).toNat ∧ mx.isSome = true) := by
    cases mx <;> simp
  refine ⟨by omega, fun hn => ?_, ?_, fun hc => ?_, fun hc hl hn => ?_, fun A hA => ?_, fun hg => ?_⟩
  · obtain ⟨A0, a1, a2⟩ := s2 (by omega)
    refine ⟨A0, a1, ?_⟩
    simp only [subHd]
    rw [if_neg (by rcases hm with hm | ⟨hm, _⟩ <;> rw [hm] <;> omega)]
    simp [a2, spot_add, Nat.add_mul, Nat.add_assoc]
  · simp only [subHd]
    rcases hm with hm | ⟨hm, _⟩ <;> rw [hm] <;> omega
  · simp only [subHd]
    rcases hm with hm | ⟨hm, hs⟩
    · rw [hm]
      cases mx with
      | some x =>
        simp at hm
        rw [← hm]
        have : hi = some x := by rcases h4 with h4 | h4 <;> simp_all
        omega
      | none =>
        simp at hc
        obtain ⟨c1, c2⟩ := hc
        have := s4 c1
        subst c2
        simp only [Option.getD_none] at *
        omega
    · rw [hm]; omega
  · cases mx with
    | some x => simp at hc
    | none =>
      simp at hc
      simp only [subHd, Option.isSome_none, Bool.false_eq_true, if_false]
      have hl0 : (lo.getD 0).toNat = 0 := by omega
      have hmm : m = len ∧ lo0 = 0 := by omega
      have hcp : cp = false := by
        cases hcp : cp with
        | false => rfl
        | true =>
          exfalso
          apply h5
          refine ⟨hcp, ?_, rfl⟩
          have := hc hcp
          cases hi <;> simp_all
      have := s5.1 hcp hmm.2 hmm.1
      subst this
      rw [hl0]
      obtain ⟨ga, gc⟩ := g
      cases ga <;> simp [Addr.add]
  · simp only [subHd] at hA
    have hgen : ∀ A1, g.a = some A1 → A = A1 ∨ A = A1.add ((lo.getD 0).toNat * w0) → A.spot = none ∧ ∃ A0, g0.a = some A0 ∧ A.block = A0.block := by
      rintro A1 h1 (rfl | rfl)
      · exact s5.2.1 _ h1
      · obtain ⟨k1, A0, k2, k3⟩ := s5.2.1 _ h1
        obtain ⟨bb, oo, sp⟩ := A1
        simp only at k1 k3
        subst k1
        exact ⟨by simp [spot_add], A0, k2, by simpa [spot_add] using k3⟩
    generalize (if mx.isSome then (hi.getD (m : Int)).toNat else g.cap) = m' at hA
    split at hA
    · exact hgen A hA (.inl rfl)
    · cases hg1 : g.a with
      | none => simp [hg1] at hA
      | some A1 => simp [hg1] at hA; exact hgen A1 hg1 (.inr hA.symm)
  · simp only [subHd] at hg ⊢
    have hg0 : g.a = none := by
      generalize (if mx.isSome then (hi.getD (m : Int)).toNat else g.cap) = m' at hg
      split at hg
      · exact hg
      · simpa using hg
    have hc0 := s5.2.2 hg0
    rcases hm with hm | ⟨hm, _⟩ <;> rw [hm] <;> omega
section
variable (hG : Good Z S a w) (hd : ∀ d, o.dst = some d → d < a.tmps.size) {U : US} {p : Prop}
include hG hd
theorem xSlice_ok {t : TypeId} {x : Operand} {lo hi mx : Option Operand} (hop : o.op = .slice t x lo hi mx) (h : xSlice P (erS S) o.dst t x lo hi mx = some (p, ⟨U⟩)) (hp : p) : Lands P Z S a w o U := by
  have hexec : execOp a.eval o = (do pure (.value (← Instr.sliceAt t (a.eval x) (lo.map a.eval) (hi.map a.eval) (mx.map a.eval)))) := by simp [execOp, hop]
  unfold xSlice at h
  split at h
  · rename_i v lo1 hi1 mx1 hv hlo hhi hmx
    split at h
    · rename_i lo2 hi2 mx2 hlo2 hhi2 hmx2
      obtain ⟨k1, e1⟩ := evO_ok hG hlo hlo2
      obtain ⟨k2, e2⟩ := evO_ok hG hhi hhi2
      obtain ⟨k3, e3⟩ := evO_ok hG hmx hmx2
      rw [e1, e2, e3] at hexec
      obtain ⟨v', h1, h2, h3, h4, h5, h6⟩ := ev_ok hG hv
      split at h
      · rename_i s
        obtain ⟨t', rfl, ht⟩ := erA_tr h1
        have := erT_str ht
        subst this
        split at h
        · simp only [retIf, Option.some.injEq, Prod.mk.injEq, W.mk.injEq] at h
          obtain ⟨rfl, rfl⟩ := h
          obtain ⟨p1, p2, p3, p4⟩ := hp
          simp only [IsA, IsT] at h2
          have hb := run_sliceBounds (P := P) false s.length s.length k1 k2 k3 lo2 hi2 none p2 p3 p4 (Nat.le_refl _) (.inl rfl) w
          have hrun : (execOp a.eval o).run P w = .ok (.value (.string ⟨⟨(s.drop (lo2.getD 0).toNat).take (hi2.getD s.length - lo2.getD 0).toNat⟩⟩)) w := by
            have hsz : (ByteArray.mk ⟨s⟩).size = s.length := rfl
            have hex : (ByteArray.mk ⟨s⟩).extract (lo2.getD 0).toNat (hi2.getD s.length).toNat = ⟨⟨(s.drop (lo2.getD 0).toNat).take (hi2.getD s.length - lo2.getD 0).toNat⟩⟩ := by
              apply ByteArray.ext
              simp only [ByteArray.data_extract]
              apply Array.ext'
              simp only [Array.toList_extract]
              rw [List.extract_eq_take_drop]
              congr 1
              omega
            simp only [hexec, h2, Sem.run_bind, run_sliceAt_string w t _ _ _ _ (strOk_spec p1), Option.map_none]
            simp only [Option.map_none] at hb
            simp only [Instr.slice, Sem.run_bind, run_underlying (strOk_spec p1), Result.andThen_ok, Option.isSome_none, Bool.false_eq_true, if_false, Sem.run_pure, hsz, hb, hex]
          exact lands_plain (v' := .tr (.str ((s.drop (lo2.getD 0).toNat).take (hi2.getD s.length - lo2.getD 0).toNat))) hrun hG hd rfl trivial rfl trivial
        · simp at h
      · rename_i q lo0 m cp u
        obtain ⟨g, rfl⟩ := erA_ref h1
        simp only [retIf, Option.some.injEq, Prod.mk.injEq, W.mk.injEq] at h
        obtain ⟨rfl, rfl⟩ := h
        obtain ⟨p1, p2, p3, p4, p5, p6, p7⟩ := hp
        obtain ⟨g0, w0, rows, hc, hs⟩ := h4
        have hw : w0 = szOf P (elemOf P t) := by
          simp only [widthIs, getC_er, hc, Option.map_some, erA, erT, decide_eq_true_eq] at p2
          exact p2
        simp only [IsA] at h2
        have hrun : (execOp a.eval o).run P w = .ok (.value (sliced g.a (lo2.getD 0).toNat (hi2.getD m).toNat (if mx2.isSome then (hi2.getD m).toNat else g.cap) (szOf P (elemOf P t)))) w := by
          simp only [hexec, h2, Sem.run_bind, run_slice' p1 g.a m g.cap k1 k2 k3 lo2 hi2 mx2 p3 p4 p5 hs.2.2.1 p6 w, Result.andThen_ok, Sem.run_pure]
        rw [sliced_eq] at hrun
        have hpart := subOk_part hs p3 p4 p5 p6 p7
        rw [hw] at hpart
        refine lands_plain (v' := .ref q (lo0 + (lo2.getD 0).toNat) (hi2.getD m - lo2.getD 0).toNat (mx2.isSome || (cp && hi2.isNone)) (subHd g (lo2.getD 0).toNat (hi2.getD m).toNat (if mx2.isSome then (hi2.getD m).toNat else g.cap) (szOf P (elemOf P t)))) hrun hG hd ?_ trivial rfl ⟨g0, w0, rows, hc, by rw [hw]; exact hpart⟩
        simp only [IsA]
        congr 1
        omega
      · rename_i κ u w0 rows
        obtain ⟨t', rfl, ht⟩ := erA_tr h1
        obtain ⟨g, rows', rfl, rfl⟩ := erT_sl ht
        simp only [IsA, IsT] at h2
        have hcap := rows_cap h3
        split at h
        · split at h
          · rename_i s
            simp only [retIf, Option.some.injEq, Prod.mk.injEq, W.mk.injEq, erRows_length] at h
            obtain ⟨rfl, rfl⟩ := h
            obtain ⟨p1, p2, p3, p4, p5, p6⟩ := hp
            obtain ⟨e, hl, he⟩ := h6 s rfl
            have hl' : look S s = some (.tmp (.tr (.sl .own g w0 rows'))) := by
              rcases he with rfl | ⟨g1, cs, rfl, hh⟩
              · exact hl
              · simp at hh
            have hc : getC S ⟨s, [], 0⟩ = some (.tr (.sl .own g w0 rows')) := by simp [getC, rowOf, hl', Ent.cells, stepRow]
            have hrun : (execOp a.eval o).run P w = .ok (.value (sliced g.a (lo2.getD 0).toNat (hi2.getD rows'.length).toNat (if mx2.isSome then (hi2.getD rows'.length).toNat else g.cap) (szOf P (elemOf P t)))) w := by
              simp only [hexec, h2, Sem.run_bind, run_slice' p1 g.a rows'.length g.cap k1 k2 k3 lo2 hi2 mx2 p3 p4 p5 hcap p6 w, Result.andThen_ok, Sem.run_pure]
            rw [sliced_eq] at hrun
            have hpart := subOk_part (subOk_self h3) p3 p4 p5 p6 (by simp)
            simp only [Nat.zero_add, Bool.false_and, Bool.or_false] at hpart
            rw [← p2] at hrun
            refine lands_plain (v' := .ref ⟨s, [], 0⟩ (lo2.getD 0).toNat (hi2.getD rows'.length - lo2.getD 0).toNat mx2.isSome (subHd g (lo2.getD 0).toNat (hi2.getD rows'.length).toNat (if mx2.isSome then (hi2.getD rows'.length).toNat else g.cap) w0)) hrun hG hd ?_ trivial rfl ⟨g, w0, rows', hc, hpart⟩
            simp only [IsA]
            congr 1
            omega
          · simp at h
        · rename_i hκ
          simp only [retIf, Option.some.injEq, Prod.mk.injEq, W.mk.injEq, erRows_length] at h
          obtain ⟨rfl, rfl⟩ := h
          obtain ⟨p1, p2, p3, p4, p5, p6⟩ := hp
          have hrun : (execOp a.eval o).run P w = .ok (.value (sliced g.a (lo2.getD 0).toNat (hi2.getD rows'.length).toNat (if mx2.isSome then (hi2.getD rows'.length).toNat else g.cap) (szOf P (elemOf P t)))) w := by
            simp only [hexec, h2, Sem.run_bind, run_slice' p1 g.a rows'.length g.cap k1 k2 k3 lo2 hi2 mx2 p3 p4 p5 hcap p6 w, Result.andThen_ok, Sem.run_pure]
          rw [sliced_eq, ← p2] at hrun
          have hmm : (if mx2.isSome then (hi2.getD (rows'.length : Int)).toNat else g.cap) = g.cap ∨ (if mx2.isSome then (hi2.getD (rows'.length : Int)).toNat else g.cap) = (hi2.getD (rows'.length : Int)).toNat := by
            cases mx2 <;> simp
          have hlen : ((rows'.drop (lo2.getD 0).toNat).take (hi2.getD rows'.length - lo2.getD 0).toNat).length = (hi2.getD rows'.length).toNat - (lo2.getD 0).toNat := by simp; omega
          have hκ' : κ ≠ .own := by simpa using hκ
          have hmem : memT w Z true (.sl κ (subHd g (lo2.getD 0).toNat (hi2.getD rows'.length).toNat (if mx2.isSome then (hi2.getD rows'.length).toNat else g.cap) w0) w0 ((rows'.drop (lo2.getD 0).toNat).take (hi2.getD rows'.length - lo2.getD 0).toNat)) := by
            obtain ⟨⟨m1, m2⟩, m3, m4⟩ := h3
            refine ⟨⟨fun hn => ?_, fun A hA => ?_⟩, fun hk => absurd hk hκ', memRows_iff.2 fun r hr => memRows_iff.1 m4 r (List.mem_of_mem_drop (List.mem_of_mem_take hr))⟩
            · simp only [subHd] at hn ⊢
              have hga : g.a = none := by
                generalize (if mx2.isSome then (hi2.getD (rows'.length : Int)).toNat else g.cap) = M at hn
                split at hn <;> simpa using hn
              obtain ⟨rfl, hc0⟩ := m1 hga
              refine ⟨by simp, ?_⟩
              rcases hmm with hmm | hmm <;> rw [hmm]
              · omega
              · simp at p5 ⊢; omega
            · simp only [subHd] at hA ⊢
              cases hg : g.a with
              | none => rw [hg] at hA; split at hA <;> simp at hA
              | some A0 =>
                obtain ⟨b, off, sp⟩ := A0
                obtain ⟨q1, q2, q3, cs, e, fr, q4, q5, q6⟩ := m2 _ hg
                simp only at q1
                subst q1
                rw [hg] at hA
                have hA' : A.spot = none ∧ A.block = b ∧ (A.off = off + (lo2.getD 0).toNat * w0 ∨ (if mx2.isSome then (hi2.getD (rows'.length : Int)).toNat else g.cap) = (lo2.getD 0).toNat) := by
                  generalize (if mx2.isSome then (hi2.getD (rows'.length : Int)).toNat else g.cap) = M at hA
                  split at hA
                  · rename_i hh; simp at hA; subst hA; exact ⟨rfl, rfl, .inr hh⟩
                  · simp [spot_add] at hA; subst hA; exact ⟨rfl, rfl, .inl rfl⟩
                refine ⟨hA'.1, ?_, by rw [hA'.2.1]; exact q3, cs, e, fr, by rw [hA'.2.1]; exact q4, fun hk => absurd hk hκ', fun i row hi => ?_⟩
                · rw [hlen]
                  rcases hmm with hmm | hmm <;> rw [hmm] <;> omega
                · rw [List.getElem?_take] at hi
                  split at hi
                  · rename_i hlt
                    rw [List.getElem?_drop] at hi
                    obtain ⟨r1, r2⟩ := q6 _ row hi
                    refine ⟨r1, fun j c hj => ?_⟩
                    obtain ⟨v, k1, k2⟩ := r2 j c hj
                    refine ⟨v, ?_, k2⟩
                    dsimp only at k1
                    have hoff : A.off = off + (lo2.getD 0).toNat * w0 := by
                      rcases hA'.2.2 with hh | hh
                      · exact hh
                      · exfalso
                        rcases hmm with hmm | hmm <;> rw [hmm] at hh <;> omega
                    rw [hoff, ← k1]
                    congr 1
                    rw [Nat.add_mul]
                    omega
                  · simp at hi
          have := lands_plain (v' := .tr (.sl κ (subHd g (lo2.getD 0).toNat (hi2.getD rows'.length).toNat (if mx2.isSome then (hi2.getD rows'.length).toNat else g.cap) w0) w0 ((rows'.drop (lo2.getD 0).toNat).take (hi2.getD rows'.length - lo2.getD 0).toNat))) hrun hG hd (by simp only [IsA, IsT, hlen]) hmem (by simp only [ownA]; cases κ <;> first | rfl | exact absurd rfl hκ') trivial
          simp only [erA, erT] at this
          rw [show erRows ((rows'.drop (lo2.getD 0).toNat).take (hi2.getD rows'.length - lo2.getD 0).toNat) = ((erRows rows').drop (lo2.getD 0).toNat).take (hi2.getD rows'.length - lo2.getD 0).toNat by simp [erRows_map]] at this
          exact this
      · simp at h
    · simp at h
  · simp at h
end
end Go.HT
end
section
namespace Go.HT
open Go
variable {P : Program} {Z : Zone} {S : St Hd} {a : Act} {w : World} {o : Oper}

/-! ### Components -/
theorem poi_noBad (S : St Hd) : poi noBad S = S := by
  have hA : ∀ v : AV Hd, poiA noBad v = v := poiA_noBad
  induction S with
  | nil => rfl
  | cons x r ih =>
    obtain ⟨k, e⟩ := x
    simp only [poi, ih]
    cases e <;> simp [Ent.poi, hA, poi_noBad.poiL_noBad]
where
  poiA_noBad : ∀ v : AV Hd, poiA noBad v = v
    | .tr t => rfl
    | .ref .. => by simp [poiA, noBad]
    | .ptr .. => by simp [poiA, noBad]
    | .psh .. => rfl
    | .agg cs => by simp only [poiA]; rw [poiL_noBad cs]
    | .tup cs => by simp only [poiA]; rw [poiL_noBad cs]
    | .fn _ cs => by simp only [poiA]; rw [poiL_noBad cs]
    | .ifc _ v => by simp only [poiA]; rw [poiA_noBad v]
  poiL_noBad : ∀ l : List (AV Hd), poiL noBad l = l
    | [] => rfl
    | v :: r => by simp only [poiL]; rw [poiA_noBad v, poiL_noBad r]
theorem poiA_noBad' (v : AV Hd) : poiA noBad v = v := poi_noBad.poiA_noBad v
theorem tup_noC {s : Nat} {vs : List (AV Hd)} (hl : look S s = some (.tmp (.tup vs))) (q : Place) (hq : q.root = s) (g : Hd) (w0 : Nat) (rows : List (List (Tr Hd))) : getC S q ≠ some (.tr (.sl .own g w0 rows)) := by
  subst hq
  simp only [getC, rowOf, hl, Ent.cells]
  cases hs : q.st with
  | nil => simp only [stepRow]; cases ho : q.off <;> simp
  | cons x r => obtain ⟨o1, i1⟩ := x; simp only [stepRow]; cases o1 <;> simp
theorem tup_noA {s : Nat} {vs : List (AV Hd)} (hl : look S s = some (.tmp (.tup vs))) (st : List (Nat × Nat)) : rowAddrS S s st = none := by
  simp only [rowAddrS, hl, rowAddrE, Ent.cells]
  split
  · rfl
  · cases st with
    | nil => rename_i hh; exact absurd rfl hh
    | cons x r => obtain ⟨o1, i1⟩ := x; simp only [rowAddrA]; cases o1 <;> simp
theorem Good.tupSet (h : Good Z S a w) {s i : Nat} {vs : List (AV Hd)} {v : AV Hd} (hl : look S s = some (.tmp (.tup vs))) (hi : vs[i]? = some v) :
    Good Z (put S s (.tmp (.tup (vs.set i (.tr .undef))))) a w ∧ Less S (put S s (.tmp (.tup (vs.set i (.tr .undef))))) ∧ (ownA v).Nodup ∧ (∀ b ∈ ownA v, b ∈ ownS S ∧ b ∉ ownS (put S s (.tmp (.tup (vs.set i (.tr .undef)))))) ∧ refOk (put S s (.tmp (.tup (vs.set i (.tr .undef))))) v := by
  have hk : Keeps S (put S s (.tmp (.tup (vs.set i (.tr .undef))))) noBad := by
    refine ⟨fun q _ g w0 rows hc => ?_, fun q _ B row hr => ?_⟩
    · by_cases hq : q.root = s
      · exact absurd hc (tup_noC hl q hq _ _ _)
      · exact ⟨rows, by rw [getC_root (S := S) (by rw [look_put, if_neg hq])]; exact hc, rfl⟩
    · by_cases hq : q.root = s
      · rw [hq, tup_noA hl] at hr; simp at hr
      · exact ⟨row, by rw [rowAddr_root (S := S) (by rw [look_put, if_neg hq])]; exact hr⟩
  have hk1 : ∀ v, refOk S v → refOk (put S s (.tmp (.tup (vs.set i (.tr .undef))))) v := fun v hv => by
    have := refOk_keeps hk v hv
    rwa [poiA_noBad'] at this
  have hkE : ∀ e, refOkE S e → refOkE (put S s (.tmp (.tup (vs.set i (.tr .undef))))) e := fun e he => by
    have := refOkE_keeps hk e he
    have e2 : e.poi noBad = e := by
      cases e with
      | tmp v => simp only [Ent.poi, poiA_noBad']
      | box g cs => simp only [Ent.poi]; rw [poiL_map]; congr 1; exact List.map_id'' poiA_noBad' cs
      | vir t => rfl
    rwa [e2] at this
  obtain ⟨rest, p1, p2⟩ := put_perm S s h.sorted
  simp only [oldE, hl, ownE, ownA] at p1
  obtain ⟨rest2, r1, r2⟩ := ownAL_set hi
  have pS : (ownS S).Perm (ownA v ++ (rest2 ++ rest)) := p1.trans ((r1.append_right _).trans (by simp [List.append_assoc]))
  have pS' : (ownS (put S s (.tmp (.tup (vs.set i (.tr .undef)))))).Perm (rest2 ++ rest) := (p2 _).trans (by
    simp only [ownE, ownA]
    exact ((r2 (.tr .undef)).append_right _).trans (by simp [ownA, ownT]))
  have hnd := pS.nodup_iff.1 h.nd
  have hent := h.ent _ _ hl
  have hrefs := h.refs _ _ hl
  refine ⟨⟨put_sorted _ _ _ h.sorted, fun d e he => ?_, pS'.nodup_iff.2 (nodup_append_right hnd), fun b hb => h.zn b (pS.mem_iff.2 (List.mem_append.2 (.inr (pS'.mem_iff.1 hb)))), h.zb, fun d e he => ?_⟩, ⟨fun b hb => pS.mem_iff.2 (List.mem_append.2 (.inr (pS'.mem_iff.1 hb))), fun d g cs hd => ?_, fun r st B row' hr => ?_, fun s2 e' he => ?_, virOk_put _ _ _ (by intro t h; cases h)⟩, nodup_append_left hnd,
    fun b hb => ⟨pS.mem_iff.2 (by simp [hb]), fun hc => nodup_apart hnd hb (pS'.mem_iff.1 hc)⟩, hk1 v (refOkL_iff.1 hrefs v (List.mem_of_getElem? hi))⟩
  · rw [look_put] at he
    split at he
    · rename_i hd; subst hd
      simp at he; subst he
      obtain ⟨⟨us, k1, k2⟩, k3⟩ := hent
      refine ⟨⟨us, k1, IsL_set k2 hi (fun _ _ => trivial)⟩, memL_iff.2 fun x hx => ?_⟩
      rcases List.mem_or_eq_of_mem_set hx with hx | rfl
      · exact memL_iff.1 k3 x hx
      · trivial
    · exact h.ent d e he
  · rw [look_put] at he
    split at he
    · simp at he; subst he
      refine refOkL_iff.2 fun x hx => ?_
      rcases List.mem_or_eq_of_mem_set hx with hx | rfl
      · exact hk1 x (refOkL_iff.1 hrefs x hx)
      · trivial
    · exact hkE e (h.refs d e he)
  · exact ⟨cs, by rw [look_put, if_neg (by rintro rfl; rw [hl] at hd; simp at hd)]; exact hd, rfl⟩
  · by_cases hd : r = s
    · subst hd
      rw [tup_noA (vs := vs.set i (.tr .undef)) (by rw [look_put, if_pos rfl])] at hr
      simp at hr
    · rw [rowAddr_root (S := S) (by rw [look_put, if_neg hd])] at hr
      exact ⟨row', hr⟩
  · rw [look_put] at he
    split at he
    · rename_i hd; subst hd
      simp at he; subst he
      refine ⟨_, hl, fun r hr => ?_⟩
      simp only [rootsE, rootsV] at hr ⊢
      obtain ⟨x, hx, hr⟩ := mem_rootsL.1 hr
      rcases List.mem_or_eq_of_mem_set hx with hx | rfl
      · exact mem_rootsL.2 ⟨x, hx, hr⟩
      · simp [rootsV] at hr
    · exact ⟨e', he, fun _ h => h⟩
section
variable (hG : Good Z S a w) (hd : ∀ d, o.dst = some d → d < a.tmps.size) {U : US} {p : Prop}
include hG hd
theorem xExtract_ok {x : Operand} {i : Nat} (hop : o.op = .extract x i) (h : xExtract (erS S) o.dst x i = some (p, ⟨U⟩)) : Lands P Z S a w o U := by
  unfold xExtract at h
  split at h
  · rename_i s
    rw [look_er] at h
    cases hl : look S s with
    | none => simp [hl] at h
    | some e =>
      simp only [hl, Option.map_some] at h
      split at h
      · rename_i vs he
        simp only [Option.some.injEq] at he
        cases e with
        | tmp v0 =>
          simp only [erE, Ent.tmp.injEq] at he
          obtain ⟨vs', rfl, rfl⟩ := erA_tup he
          rw [erL_get] at h
          cases hi : vs'[i]? with
          | none => simp [hi] at h
          | some v =>
            simp only [hi, Option.map_some, ret1, Option.some.injEq, Prod.mk.injEq, W.mk.injEq] at h
            obtain ⟨_, rfl⟩ := h
            obtain ⟨k1, k2, k3, k4, k5⟩ := hG.tupSet hl hi
            obtain ⟨⟨us, m1, m2⟩, m3⟩ := hG.ent _ _ hl
            obtain ⟨u, u1, u2⟩ := IsL_get m2 hi
            have hev : a.eval (.tmp s) = .tuple us := by
              simp only [Act.eval]
              exact m1
            have hrun : (execOp a.eval o).run P w = .ok (.value u) w := by
              have : us[i]? = some u := by simpa using u1
              simp [execOp, hop, hev, Instr.extract, this]
            have := lands_put (v' := v) hrun k1 k2 (own1_put _ _ _ (.inr ⟨s, by simp [hop, Op.operands], .inl rfl⟩)) (.refl w) hd u2 (memL_iff.1 m3 v (List.mem_of_getElem? hi)) k3 (fun b hb => hG.zn b (k4 b hb).1) (fun b hb => .inl (k4 b hb).1) (fun b hb => (k4 b hb).2) k5
            rw [put_er] at this
            rw [show (erL vs').set i (.tr .undef) = erL (vs'.set i (.tr .undef)) by simp [erL_map, erA, erT]]
            exact this
        | box => simp [erE] at he
        | vir => simp [erE] at he
      · simp at h
  · simp at h
end

/-! ### New rows of a slice -/
theorem lands_row {S1 : St Hd} {w' : World} {cells : Array Value} {e : TypeId} {n cap wd : Nat} {rows : List (List (Tr Hd))} (hrun : (execOp a.eval o).run P w = .ok (.value (.slice (some ⟨w.heap.size, 0, none⟩) n cap)) w')
    (hG0 : Good Z S a w) (hG : Good Z S1 a w) (hl : Less S S1) (hO : Own1 (near S o) S S1) (hm : More w w') (hnew : w'.heap[w.heap.size]? = some (.cells cells e (0, 0))) (hd : ∀ d, o.dst = some d → d < a.tmps.size)
    (hn : rows.length = n) (hcap : n ≤ cap) (hsz : cap * wd ≤ cells.size) (hrow : ∀ (i : Nat) (row : List (Tr Hd)), rows[i]? = some row → row.length = wd ∧ ∀ (j : Nat) (c : Tr Hd), row[j]? = some c → ∃ v, cells[i * wd + j]? = some v ∧ IsT c v)
    (hmem : memRows w Z true rows) (hnd : (ownRows rows).Nodup) (hown : ∀ b ∈ ownRows rows, b ∈ ownS S ∧ b ∉ ownS S1) : Lands P Z S a w o (putO (erS S1) o.dst (.tr (.sl .own () wd (erRows rows)))) := by
  have hb : ∀ b, b ∈ ownT (.sl .own ⟨some ⟨w.heap.size, 0, none⟩, cap⟩ wd rows) → b = w.heap.size ∨ b ∈ ownRows rows := fun b hb => by simpa [ownT] using hb
  have hlt : w.heap.size < w'.heap.size := (Array.getElem?_eq_some_iff.1 hnew).1
  refine lands_put (v' := .tr (.sl .own ⟨some ⟨w.heap.size, 0, none⟩, cap⟩ wd rows)) hrun hG hl hO hm hd (by simp [IsA, IsT, hn]) ⟨⟨by simp, fun A hA => ?_⟩, fun _ => rfl, memRows_frame true rows (fun b hb => hm.block b ?_) hmem⟩ ?_ ?_ ?_ ?_ trivial
  · simp at hA
    subst hA
    exact ⟨rfl, by simp only; omega, fun hc => Nat.lt_irrefl _ (hG.zb _ hc), cells, e, (0, 0), hnew, fun _ => ⟨rfl, by simpa using hsz⟩, fun i row hi => ⟨(hrow i row hi).1, fun j c hj => by simpa using (hrow i row hi).2 j c hj⟩⟩
  · rcases hb with hb | hb
    · exact (hG0.zn b (hown b hb.2).1).2
    · exact hG.zb b hb
  · simp only [ownA, ownT]
    refine List.nodup_append.2 ⟨by simp, hnd, fun x hx y hy hxy => ?_⟩
    simp at hx
    subst hx hxy
    exact Nat.lt_irrefl _ (hG0.zn _ (hown _ hy).1).2
  · intro b h
    rcases hb b h with rfl | h
    · exact ⟨fun hc => Nat.lt_irrefl _ (hG.zb _ hc), hlt⟩
    · exact ⟨(hG0.zn b (hown b h).1).1, Nat.lt_trans (hG0.zn b (hown b h).1).2 hlt⟩
  · intro b h
    rcases hb b h with rfl | h
    · exact .inr (Nat.le_refl _)
    · exact .inl (hown b h).1
  · intro b h
    rcases hb b h with rfl | h
    · exact fun hc => Nat.lt_irrefl _ (hG.zn _ hc).2
    · exact (hown b h).2
theorem zero_rows {z : Value} {t : TypeId} (hz : allZ z.cells.toList (zeroOf P t) = true) (w : World) (Z : Zone) : ∃ row : List (Tr Hd), erRow row = zeroOf P t ∧ row.length = (zeroOf P t).length ∧ (∀ t ∈ row, memT w Z true t ∧ ownT t = []) ∧ IsL (row.map .tr) z.cells.toList ∧ z.cells.size = (zeroOf P t).length := by
  obtain ⟨m1, m2, m3, m4, m5, m6⟩ := allZ_ok hz w Z
  refine ⟨anRow (zeroOf P t), m4, by rw [anRow_map]; simp, fun t ht => ⟨m2 t ht, ?_⟩, m1, by simpa using m6⟩
  cases hh : ownT t with
  | nil => rfl
  | cons b r =>
    exfalso
    have : b ∈ ownAL ((anRow (zeroOf P _)).map .tr) := mem_ownAL.2 ⟨.tr t, List.mem_map.2 ⟨t, ht, rfl⟩, by simp [ownA, hh]⟩
    rw [m3] at this
    simp at this
section
variable (hG : Good Z S a w) (hd : ∀ d, o.dst = some d → d < a.tmps.size) {U : US} {p : Prop}
include hG hd
theorem xMakeSlice_ok {t : TypeId} {n m : Operand} (hop : o.op = .makeSlice t n m) (h : xMakeSlice P (erS S) o.dst t n m = some (p, ⟨U⟩)) (hp : p) : Lands P Z S a w o U := by
  unfold xMakeSlice at h
  split at h
  · rename_i k1 n1 k2 m1 hn hm
    simp only [retIf, Option.some.injEq, Prod.mk.injEq, W.mk.injEq] at h
    obtain ⟨rfl, rfl⟩ := h
    obtain ⟨p1, p2, p3, p4, p5⟩ := hp
    obtain ⟨s1, s2⟩ := slOk_spec p1
    obtain ⟨i, z, d, i1, i2, i3, i4, i5, i6, i7, _⟩ := tyOk_spec s2
    obtain ⟨row, r1, r2, r3, r4, r5⟩ := zero_rows i4 w Z
    have hb : (i.bytes : Int) * m1 ≤ 281474976710656 := by
      have : bytesOf P (elemOf P t) = i.bytes := by simp [HT.bytesOf, i1]
      rw [this, Int.mul_comm] at p5
      omega
    have hrun : (execOp a.eval o).run P w = .ok (.value (.slice (some ⟨w.heap.size, 0, none⟩) n1.toNat m1.toNat)) (w.alloc (.cells (madeCells z.cells (m1.toNat * i.size)) (elemOf P t))) := by
      simp only [execOp, hop, ev_int hG hn, ev_int hG hm, Sem.run_bind, run_make w t (elemOf P t) i z s1 i1 i2 k1 k2 n1 m1 p2 p3 hb (by omega), Result.andThen_ok, Sem.run_pure]
    have := lands_row (S1 := S) (wd := szOf P (elemOf P t)) (rows := List.replicate n1.toNat row) hrun hG hG (.refl S) (.refl _ S) (more_alloc w _) (heap_alloc_new w _) hd (by simp) (by omega) (by rw [size_madeCells, i5]; exact Nat.le_refl _) (fun i' row' hi => ?_) ?_ ?_ ?_
    · rw [erRows_map, List.map_replicate, r1] at this
      exact this
    · rw [List.getElem?_replicate] at hi
      split at hi
      · rename_i hlt
        simp at hi; subst hi
        refine ⟨by omega, fun j c hj => ?_⟩
        have hjl : j < (zeroOf P (elemOf P t)).length := by rw [← r2]; exact (List.getElem?_eq_some_iff.1 hj).1
        obtain ⟨v, k1, k2⟩ := IsL_get r4 (i := j) (c := .tr c) (by simp [hj])
        refine ⟨v, ?_, k2⟩
        have hlt2 : i' * szOf P (elemOf P t) + j < m1.toNat * i.size := by
          rw [i5]
          have : (i' + 1) * szOf P (elemOf P t) ≤ m1.toNat * szOf P (elemOf P t) := Nat.mul_le_mul_right _ (by omega)
          rw [Nat.add_mul] at this
          omega
        have hmod : (i' * szOf P (elemOf P t) + j) % z.cells.size = j := by
          rw [r5, ← i6, i5, Nat.mul_comm, Nat.mul_add_mod]
          exact Nat.mod_eq_of_lt (by omega)
        simp only [madeCells, Array.getElem?_map, Array.getElem?_range, hlt2, if_true, Option.map_some, hmod]
        have : z.cells[j]? = some v := by simpa using k1
        simp [getElem!_def, this]
      · simp at hi
    · exact memRows_iff.2 fun r hr => memRow_iff.2 fun t ht => by
        rw [List.eq_of_mem_replicate hr] at ht
        exact (r3 t ht).1
    · have : ownRows (List.replicate n1.toNat row) = [] := by
        cases hh : ownRows (List.replicate n1.toNat row) with
        | nil => rfl
        | cons b r =>
          exfalso
          have hb : b ∈ ownRows (List.replicate n1.toNat row) := by rw [hh]; simp
          obtain ⟨r', hr, hb⟩ := mem_ownRows.1 hb
          rw [List.eq_of_mem_replicate hr] at hb
          obtain ⟨t, ht, hb⟩ := mem_ownRow.1 hb
          rw [(r3 t ht).2] at hb
          simp at hb
      rw [this]; simp
    · intro b hb
      exfalso
      obtain ⟨r', hr, hb⟩ := mem_ownRows.1 hb
      rw [List.eq_of_mem_replicate hr] at hb
      obtain ⟨t, ht, hb⟩ := mem_ownRow.1 hb
      rw [(r3 t ht).2] at hb
      simp at hb
  · simp at h
end
end Go.HT
end
section
namespace Go.HT
open Go
variable {P : Program} {Z : Zone} {S : St Hd} {a : Act} {w : World} {o : Oper}

/-! ### Parts laid into cells -/
theorem fillAt_length {α : Type} : ∀ (l cells : List α) (k : Nat), (fillAt cells k l).length = cells.length
  | [], _, _ => rfl
  | c :: r, cells, k => by rw [fillAt, fillAt_length r]; simp
theorem fillAt_er : ∀ (l cells : List (AV Hd)) (k : Nat), fillAt (erL cells) k (erL l) = erL (fillAt cells k l)
  | [], _, _ => rfl
  | c :: r, cells, k => by
    simp only [erL, fillAt]
    rw [show (erL cells).set k (erA c) = erL (cells.set k c) by simp [erL_map], fillAt_er r]
theorem IsL_set2 : ∀ {l : List (AV Hd)} {vs : List Value} {i : Nat} {c : AV Hd} {v : Value}, IsL l vs → IsA c v → IsL (l.set i c) (vs.set i v)
  | [], _, i, c, v, h, _ => by simp [IsL] at h; subst h; simp [IsL]
  | c0 :: r, _, 0, c, v, ⟨u, us, rfl, h2, h3⟩, hc => ⟨v, us, rfl, hc, h3⟩
  | c0 :: r, _, i + 1, c, v, ⟨u, us, rfl, h2, h3⟩, hc => ⟨u, us.set i v, rfl, h2, IsL_set2 h3 hc⟩
theorem fillAt_is : ∀ {l : List (AV Hd)} {vs : List Value} {cells : List (AV Hd)} {us : List Value} (k : Nat), IsL cells us → IsL l vs → IsL (fillAt cells k l) (fillAt us k vs)
  | [], _, cells, us, k, h, hv => by simp [IsL] at hv; subst hv; exact h
  | c :: r, _, cells, us, k, h, ⟨v, vs, rfl, h2, h3⟩ => fillAt_is (k + 1) (IsL_set2 h h2) h3
theorem mem_fillAt {α : Type} {x : α} : ∀ {l cells : List α} {k : Nat}, x ∈ fillAt cells k l → x ∈ cells ∨ x ∈ l
  | [], _, _, h => .inl h
  | c :: r, cells, k, h => by
    rcases mem_fillAt (l := r) h with h | h
    · rcases List.mem_or_eq_of_mem_set h with h | rfl
      · exact .inl h
      · exact .inr (by simp)
    · exact .inr (by simp [h])
theorem fillAt_own : ∀ {l cells : List (AV Hd)} {k : Nat}, k + l.length ≤ cells.length → (ownAL cells ++ ownAL l).Nodup → (ownAL (fillAt cells k l)).Nodup
  | [], cells, k, _, h => by simpa [fillAt, ownAL] using h
  | c :: r, cells, k, hk, h => by
    simp only [List.length_cons] at hk
    have hlt : k < cells.length := by omega
    obtain ⟨rest, p1, p2⟩ := ownAL_set (row := cells) (o := k) (t := cells[k]) (by simp [hlt])
    refine fillAt_own (l := r) (by simp; omega) ?_
    have h1 : (ownA cells[k] ++ rest ++ (ownA c ++ ownAL r)).Nodup := ((p1.append_right _).nodup_iff).1 h
    rw [((p2 c).append_right _).nodup_iff]
    rw [List.append_assoc] at h1
    have h2 := nodup_append_right h1
    refine (List.Perm.nodup_iff ?_).1 h2
    rw [← List.append_assoc]
    exact List.perm_append_comm.append_right _
/-- What the model lays. -/
theorem fold_fillAt (arr : Array Value) (k : Nat) (vs : Array Value) : (vs.zipIdx.foldl (fun cs (c, j) => cs.setIfInBounds (k + j) c) arr).toList = fillAt arr.toList k vs.toList := by
  have key : ∀ (l : List Value) (i : Nat) (arr : Array Value), ((l.zipIdx i).foldl (fun cs (c, j) => cs.setIfInBounds (k + j) c) arr).toList = fillAt arr.toList (k + i) l := by
    intro l
    induction l with
    | nil => intro i arr; rfl
    | cons c r ih =>
      intro i arr
      simp only [List.zipIdx_cons, List.foldl_cons, fillAt]
      rw [ih (i + 1)]
      simp [Nat.add_assoc]
  have := key vs.toList 0 arr
  rw [← Array.foldl_toList, Array.toList_zipIdx]
  exact this
theorem poiA_tupMem : True := trivial
/-- Parts, used up and laid into cells. -/
theorem fill_ok {place : Nat → Option (Nat × TypeId)} {place' : Nat → Option (Nat × Nat)} (hpl : ∀ i k t, place i = some (k, t) → place' i = some (k, szOf P t)) : ∀ {parts : List (Nat × Operand)} {S : St Hd} {cells : List (AV Hd)} {arr : Array Value} {cs : List UV} {U : US},
    Good Z S a w → fill P place (erS S) (erL cells) parts = some (cs, U) → IsL cells arr.toList → memL w Z cells → (ownAL cells).Nodup → (∀ b ∈ ownAL cells, b ∉ ownS S) → refOkL S cells →
    ∃ cells' S' arr', erL cells' = cs ∧ erS S' = U ∧ Instr.fill place' arr (parts.map fun x => (x.1, a.eval x.2)) = some arr' ∧ Good Z S' a w ∧ Less S S' ∧ IsL cells' arr'.toList ∧ memL w Z cells' ∧ (ownAL cells').Nodup ∧ (∀ b ∈ ownAL cells', (b ∈ ownAL cells ∨ b ∈ ownS S) ∧ b ∉ ownS S') ∧ refOkL S' cells' ∧ cells'.length = cells.length ∧ Own1 (fun d => ∃ i, (i, Operand.tmp d) ∈ parts) S S' ∧ (∀ r ∈ rootsL cells', r ∈ rootsL cells ∨ ∃ i d, (i, Operand.tmp d) ∈ parts ∧ (r = d ∨ ∃ e, look S d = some e ∧ r ∈ rootsE e))
  | [], S, cells, arr, cs, U, hG, h, hi, hm, hnd, hdis, hr => by
    simp only [fill, Option.some.injEq, Prod.mk.injEq] at h
    obtain ⟨rfl, rfl⟩ := h
    exact ⟨cells, S, arr, rfl, rfl, rfl, hG, .refl S, hi, hm, hnd, fun b hb => ⟨.inl hb, hdis b hb⟩, hr, rfl, .refl _ S, fun r h => .inl h⟩
  | (i, x) :: r, S, cells, arr, cs, U, hG, h, hi, hm, hnd, hdis, hr => by
    simp only [fill] at h
    split at h
    · rename_i k t hp
      split at h
      · rename_i v S1 bad hu
        split at h
        · rename_i hc
          obtain ⟨c1, c2, c3⟩ := hc
          obtain ⟨v3, S3, k1, k2, k3, k4, k5, k6, k7, k8, k9, k10, k11⟩ := evU_ok hG hu
          subst k1 k2
          obtain ⟨vc, v1, v2, v3'⟩ := cells_of_IsA k4 c1
          obtain ⟨q1, q2, q3⟩ := cells_mem (w := w) (Z := Z) (S := S3) v3'
          rw [← v2, ← poiL_er, fillAt_er] at h
          have hlen : (a.eval x).cells.size = szOf P t := by
            have := IsL_length v1
            rw [← c2, ← v2, erL_length, ← this]; simp
          have hvl : vc.length = szOf P t := by rw [← c2, ← v2, erL_length]
          rw [erL_length] at c3
          have harr : arr.size = cells.length := by have := IsL_length hi; simpa using this
          have hnd1 : (ownAL (poiL bad cells) ++ ownAL vc).Nodup := by
            rw [ownAL_poi, q2]
            refine List.nodup_append.2 ⟨hnd, k7, fun y hy z hz hyz => ?_⟩
            subst hyz
            exact hdis _ hy (k8 _ hz).1
          have hb : ∀ b ∈ ownAL (fillAt (poiL bad cells) k vc), b ∈ ownAL cells ∨ b ∈ ownA v3 := by
            intro b hb
            obtain ⟨y, hy, hb⟩ := mem_ownAL.1 hb
            rcases mem_fillAt hy with hy | hy
            · exact .inl (by rw [← ownAL_poi bad cells]; exact mem_ownAL.2 ⟨y, hy, hb⟩)
            · exact .inr (by rw [← q2]; exact mem_ownAL.2 ⟨y, hy, hb⟩)
          obtain ⟨cells', S', arr', e1, e2, e3, e4, e5, e6, e7, e8, e9, e10, e11, e12, e13⟩ := fill_ok hpl (parts := r) (S := S3) (cells := fillAt (poiL bad cells) k vc) (arr := (a.eval x).cells.zipIdx.foldl (fun cs (c, j) => cs.setIfInBounds (k + j) c) arr) k3 h
            (by rw [fold_fillAt]; exact fillAt_is k (IsL_poi bad cells _ hi) v1)
            (memL_iff.2 fun y hy => by
              rcases mem_fillAt hy with hy | hy
              · exact memL_iff.1 (memL_poi bad cells hm) y hy
              · exact memL_iff.1 (q1 k5) y hy)
            (fillAt_own (by rw [poiL_map]; simp; omega) hnd1)
            (fun b hb' hc => by
              rcases hb b hb' with hb' | hb'
              · exact hdis b hb' (k9.own b hc)
              · exact (k8 b hb').2 hc)
            (refOkL_iff.2 fun y hy => by
              rcases mem_fillAt hy with hy | hy
              · exact refOkL_iff.1 (refOkL_keeps k10 cells hr) y hy
              · exact refOkL_iff.1 (q3 k6) y hy)
          refine ⟨cells', S', arr', e1, e2, ?_, e4, k9.trans e5, e6, e7, e8, fun b hb' => ⟨?_, (e9 b hb').2⟩, e10, by rw [e11, fillAt_length, poiL_map]; simp, (k11.2.1.mono fun d hd => ⟨i, by simp [hd]⟩).trans (e12.mono fun d ⟨i', hi'⟩ => ⟨i', by simp [hi']⟩), fun rr hrr => ?_⟩
          · simp only [List.map_cons, Instr.fill, hpl i k t hp]
            rw [if_neg]
            · exact e3
            · simp only [hlen, ne_eq, not_true_eq_false, decide_false, Bool.false_or, decide_eq_true_eq]
              simp; omega
          · rcases (e9 b hb').1 with hb' | hb'
            · rcases hb b hb' with hb' | hb'
              · exact .inl hb'
              · exact .inr (k8 b hb').1
            · exact .inr (k9.own b hb')
          · rcases e13 rr hrr with h1 | ⟨i', d, h1, h2⟩
            · obtain ⟨y, hy, hry⟩ := mem_rootsL.1 h1
              rcases mem_fillAt hy with hy | hy
              · exact .inl (rootsL_poi bad cells rr (mem_rootsL.2 ⟨y, hy, hry⟩))
              · have : rr ∈ rootsV v3 := by
                  rcases v3' with rfl | rfl
                  · simp at hy; subst hy; exact hry
                  · exact mem_rootsL.2 ⟨y, hy, hry⟩
                obtain ⟨d, hd, hh⟩ := k11.2.2 rr this
                exact .inr ⟨i, d, by simp [hd], hh⟩
            · refine .inr ⟨i', d, by simp [h1], h2.imp id ?_⟩
              rintro ⟨e, he, hre⟩
              obtain ⟨e0, h0, hr0⟩ := k9.roots d e he
              exact ⟨e0, h0, hr0 rr hre⟩
        · simp at h
      · simp at h
    · simp at h
theorem run_mapM {α β : Type} (f : α → Sem β) (g : α → β) (w : World) (l : Array α) (h : ∀ x ∈ l, (f x).run P w = .ok (g x) w) : (l.mapM f).run P w = .ok (l.map g) w := by
  obtain ⟨l⟩ := l
  simp only [List.mapM_toArray, List.map_toArray, Sem.run_map]
  have : (l.mapM f).run P w = .ok (l.map g) w := by
    induction l with
    | nil => simp
    | cons x r ih =>
      simp only [List.mapM_cons, Sem.run_bind, h x (by simp), Result.andThen_ok, ih (fun y hy => h y (by simpa using Or.inr (by simpa using hy))), Sem.run_pure, List.map_cons]
  rw [this]
  rfl
section
variable (hG : Good Z S a w) (hd : ∀ d, o.dst = some d → d < a.tmps.size) {U : US} {p : Prop}
include hG hd
theorem xBuild_ok {t : TypeId} {parts : Array (Nat × Operand)} (hop : o.op = .build t parts) (h : xBuild P (erS S) o.dst t parts.toList = some (p, ⟨U⟩)) (hp : p) : Lands P Z S a w o U := by
  unfold xBuild at h
  split at h
  · rename_i cs S1 hf
    simp only [retIf, Option.some.injEq, Prod.mk.injEq, W.mk.injEq] at h
    obtain ⟨rfl, rfl⟩ := h
    obtain ⟨p1, p2, p3⟩ := hp
    obtain ⟨z, hz, hall⟩ := zero_cells p1
    obtain ⟨row, r1, r2, r3, r4, r5⟩ := zero_rows hall w Z
    have hcells : (zeroOf P t).map .tr = erL (row.map .tr) := by rw [← erRow_tr, r1]
    rw [hcells] at hf
    have hown : ownAL (row.map .tr) = [] := ownAL_nil fun y hy => by
      obtain ⟨t1, ht, rfl⟩ := List.mem_map.1 hy
      exact (r3 t1 ht).2
    have fin : ∀ place', (∀ i k u, placeOf P t i = some (k, u) → place' i = some (k, szOf P u)) → (∀ arr', Instr.fill place' z.cells (parts.toList.map fun x => (x.1, a.eval x.2)) = some arr' → (execOp a.eval o).run P w = .ok (.value (.agg arr')) w) → Lands P Z S a w o (putO S1 o.dst (.agg cs)) := by
      intro place' hpl hrun
      obtain ⟨cells', S', arr', e1, e2, e3, e4, e5, e6, e7, e8, e9, e10, e11, e12, e13⟩ := fill_ok hpl hG hf r4 (memL_tr fun t1 ht => (r3 t1 ht).1) (by rw [hown]; simp) (by rw [hown]; simp) (refOkL_tr _)
      subst e1 e2
      exact lands_put (v' := .agg cells') (hrun arr' e3) e4 e5 (e12.mono fun d ⟨i', hi'⟩ => .inr ⟨d, by simp [hop, Op.operands]; exact ⟨i', by simpa using hi'⟩, .inl rfl⟩) (.refl w) hd ⟨arr', rfl, e6⟩ e7 e8 (fun b hb => hG.zn b (by have := (e9 b hb).1; rw [hown] at this; simpa using this)) (fun b hb => .inl (by have := (e9 b hb).1; rw [hown] at this; simpa using this)) (fun b hb => (e9 b hb).2) e10
    have hparts : (parts.map fun (i, x) => (i, a.eval x)).toList = parts.toList.map fun x => (x.1, a.eval x.2) := by simp
    unfold aggB at p2
    split at p2
    · rename_i fs hu
      have harr : arrB P t = false := by simp [arrB, hu]
      have hall : ∀ f ∈ fs, tyOk P f.type = true := by
        unfold partsOk at p3
        simp only [hu] at p3
        intro f hf
        exact List.all_eq_true.1 p3 f (by simpa using hf)
      refine fin (fun i => ((fs.map fun f => (f.offset, szOf P f.type))[i]?)) (fun i k u hi => ?_) (fun arr' he => ?_)
      · simp only [placeOf, harr, Bool.false_eq_true, if_false] at hi
        obtain ⟨fs', fd, h1, h2, h3, h4⟩ := fieldOf_spec hi
        rw [hu] at h1
        simp at h1; subst h1
        simp [h2, h3, h4]
      · have hm := run_mapM (P := P) (fun f : Field => (Prod.mk f.offset <$> Go.sizeOf f.type : Sem (Nat × Nat))) (fun f => (f.offset, szOf P f.type)) w fs (fun f hf => by
          simp only [Sem.run_map, run_sizeOf' (hall f hf), Result.andThen_ok])
        simp only [execOp, hop, Instr.build, Sem.run_bind, hz, Result.andThen_ok, run_underlying hu, Sem.run_pure]
        simp only [Array.getElem?_map] at he
        simp [hm, he]
    · rename_i n e hu
      have harr : arrB P t = true := by simp [arrB, hu]
      have hel : elemOf P t = e := by simp [elemOf, hu]
      have he1 : tyOk P e = true := by
        unfold partsOk at p3
        simpa only [hu] using p3
      refine fin (fun i => some (i * szOf P e, szOf P e)) (fun i k u hi => ?_) (fun arr' he => ?_)
      · simp only [placeOf, harr, if_true, hel, Option.some.injEq, Prod.mk.injEq] at hi
        obtain ⟨rfl, rfl⟩ := hi
        rfl
      · simp only [execOp, hop, Instr.build, Sem.run_bind, hz, Result.andThen_ok, run_underlying hu, Sem.run_pure, run_sizeOf' he1]
        simp [he]
    · simp at p2
  · simp at h
end

theorem chunk_get (w0 : Nat) : ∀ (n i : Nat) (l : List UT), (chunk w0 n l)[i]? = if i < n then some ((l.drop (i * w0)).take w0) else none
  | 0, i, l => by simp [chunk]
  | n + 1, 0, l => by simp [chunk]
  | n + 1, i + 1, l => by
    simp only [chunk, List.getElem?_cons_succ, chunk_get w0 n i (l.drop w0), List.drop_drop]
    simp [Nat.add_mul, Nat.add_comm]
/-- Rows cut off, with their headers. -/
def chunkT (w0 : Nat) : Nat → List (Tr Hd) → List (List (Tr Hd))
  | 0, _ => []
  | n + 1, l => l.take w0 :: chunkT w0 n (l.drop w0)
theorem chunkT_er (w0 : Nat) : ∀ (n : Nat) (l : List (Tr Hd)), erRows (chunkT w0 n l) = chunk w0 n (erRow l)
  | 0, l => rfl
  | n + 1, l => by
    simp only [chunkT, erRows, chunk, chunkT_er w0 n]
    simp [erRow_map]
theorem chunkT_get (w0 : Nat) : ∀ (n i : Nat) (l : List (Tr Hd)), (chunkT w0 n l)[i]? = if i < n then some ((l.drop (i * w0)).take w0) else none
  | 0, i, l => by simp [chunkT]
  | n + 1, 0, l => by simp [chunkT]
  | n + 1, i + 1, l => by
    simp only [chunkT, List.getElem?_cons_succ, chunkT_get w0 n i (l.drop w0), List.drop_drop]
    simp [Nat.add_mul, Nat.add_comm]
theorem chunkT_length (w0 : Nat) : ∀ (n : Nat) (l : List (Tr Hd)), (chunkT w0 n l).length = n
  | 0, l => rfl
  | n + 1, l => by simp [chunkT, chunkT_length w0 n]
theorem ownRow_append (l m : List (Tr Hd)) : ownRow (l ++ m) = ownRow l ++ ownRow m := by
  induction l with
  | nil => rfl
  | cons t r ih => simp [ownRow, ih]
theorem ownRows_append (l m : List (List (Tr Hd))) : ownRows (l ++ m) = ownRows l ++ ownRows m := by
  induction l with
  | nil => rfl
  | cons t r ih => simp [ownRows, ih]
theorem chunkT_own (w0 : Nat) : ∀ (n : Nat) (l : List (Tr Hd)), (ownRows (chunkT w0 n l)).Sublist (ownRow l)
  | 0, l => by simp [chunkT, ownRows]
  | n + 1, l => by
    simp only [chunkT, ownRows]
    rw [show ownRow l = ownRow (l.take w0) ++ ownRow (l.drop w0) by rw [← ownRow_append, List.take_append_drop]]
    exact (List.Sublist.refl _).append (chunkT_own w0 n _)
theorem mem_chunkT {w0 n : Nat} {l row : List (Tr Hd)} (h : row ∈ chunkT w0 n l) : ∀ t ∈ row, t ∈ l := by
  obtain ⟨i, hi⟩ := List.getElem?_of_mem h
  rw [chunkT_get] at hi
  split at hi
  · simp at hi; subst hi
    exact fun t ht => List.mem_of_mem_drop (List.mem_of_mem_take ht)
  · simp at hi
theorem flat_get {α : Type} (row : List α) : ∀ (n i j : Nat), i < n → j < row.length → (List.replicate n row).flatten[i * row.length + j]? = row[j]?
  | n + 1, 0, j, _, hj => by
    simp only [List.replicate_succ, List.flatten_cons, Nat.zero_mul, Nat.zero_add]
    rw [List.getElem?_append_left hj]
  | n + 1, i + 1, j, hi, hj => by
    simp only [List.replicate_succ, List.flatten_cons]
    rw [List.getElem?_append_right (by rw [Nat.add_mul]; omega)]
    rw [show (i + 1) * row.length + j - row.length = i * row.length + j by rw [Nat.add_mul]; omega]
    exact flat_get row n i j (by omega) hj
section
variable (hG : Good Z S a w) (hd : ∀ d, o.dst = some d → d < a.tmps.size) {U : US} {p : Prop}
include hG hd
theorem xBuildSlice_ok {t : TypeId} {len : Nat} {parts : Array (Nat × Operand)} (hop : o.op = .buildSlice t len parts) (h : xBuildSlice P (erS S) o.dst t len parts.toList = some (p, ⟨U⟩)) (hp : p) : Lands P Z S a w o U := by
  unfold xBuildSlice at h
  split at h
  · rename_i cs S1 hf
    split at h
    · rename_i ts S2 hres
      simp only [retIf, Option.some.injEq, Prod.mk.injEq, W.mk.injEq] at h
      obtain ⟨rfl, rfl⟩ := h
      obtain ⟨p1, p2⟩ := hp
      obtain ⟨s1, s2⟩ := slOk_spec p1
      obtain ⟨z, hz, hall⟩ := zero_cells s2
      have hlenz := szOf_len s2
      have hpos := tyOk_pos s2
      obtain ⟨row, r1, r2, r3, r4, r5⟩ := zero_rows hall w Z
      have hcells : (List.replicate len (zeroOf P (elemOf P t))).flatten.map .tr = erL ((List.replicate len row).flatten.map .tr) := by
        have : erRow (List.replicate len row).flatten = (List.replicate len (zeroOf P (elemOf P t))).flatten := by rw [erRow_map, List.map_flatten, List.map_replicate, ← erRow_map, r1]
        rw [← erRow_tr, this]
      rw [hcells] at hf
      have hmem : ∀ t1 ∈ (List.replicate len row).flatten, memT w Z true t1 ∧ ownT t1 = [] := fun t1 ht => by
        obtain ⟨l, hl, ht⟩ := List.mem_flatten.1 ht
        rw [List.eq_of_mem_replicate hl] at ht
        exact r3 t1 ht
      have hown : ownAL ((List.replicate len row).flatten.map .tr) = [] := ownAL_nil fun y hy => by
        obtain ⟨t1, ht, rfl⟩ := List.mem_map.1 hy
        exact (hmem t1 ht).2
      have hrl : row.length = szOf P (elemOf P t) := by omega
      have hfl : (List.replicate len row).flatten.length = len * szOf P (elemOf P t) := by simp [hrl]
      let arr : Array Value := (Array.range (len * szOf P (elemOf P t))).map (z.cells[· % z.cells.size]!)
      have harr : IsL ((List.replicate len row).flatten.map .tr) arr.toList := by
        refine IsL_of_get (by simp [arr, hrl]) fun i c u h1 h2 => ?_
        rw [List.getElem?_map] at h1
        cases hh : (List.replicate len row).flatten[i]? with
        | none => simp [hh] at h1
        | some t1 =>
          simp [hh] at h1; subst h1
          have hi : i < len * szOf P (elemOf P t) := by rw [← hfl]; exact (List.getElem?_eq_some_iff.1 hh).1
          have hj : i % row.length < row.length := Nat.mod_lt _ (by omega)
          have hq : i / row.length < len := by rw [hrl]; exact Nat.div_lt_of_lt_mul (by rw [Nat.mul_comm]; exact hi)
          have hg := flat_get row len (i / row.length) (i % row.length) hq hj
          rw [Nat.mul_comm, Nat.div_add_mod, hh] at hg
          obtain ⟨v, k1, k2⟩ := IsL_get r4 (i := i % row.length) (c := .tr t1) (by rw [List.getElem?_map, ← hg]; rfl)
          have hsz : z.cells.size = row.length := by omega
          have : u = v := by
            have h3 : arr[i]? = some u := by simpa using h2
            have h4 : arr[i]? = some (z.cells[i % z.cells.size]!) := by simp [arr, hi]
            rw [h4, hsz] at h3
            have k1' : z.cells[i % row.length]? = some v := by simpa using k1
            simp [getElem!_def, k1'] at h3
            exact h3.symm
          rw [this]
          exact k2
      obtain ⟨cells', S', arr', e1, e2, e3, e4, e5, e6, e7, e8, e9, e10, e11, e12, e13⟩ := fill_ok (P := P) (place' := fun i => some (i * szOf P (elemOf P t), szOf P (elemOf P t))) (fun i k u hi => by simp at hi; obtain ⟨rfl, rfl⟩ := hi; rfl) hG hf harr
        (memL_tr fun t1 ht => (hmem t1 ht).1) (by rw [hown]; simp) (by rw [hown]; simp) (refOkL_tr _)
      subst e1 e2
      obtain ⟨ts', S3, f1, f2, f3, f4, f5, f6, f7, f8⟩ := resolve_ok e4 hres e7 e8 (fun b hb => (e9 b hb).2) (fun c hc => RefW_of (refOkL_iff.1 e10 c hc))
      subst f1 f2
      have hts := f8.1 _ e6
      have htl : ts'.length = len * szOf P (elemOf P t) := by
        have h1 := IsL_length hts
        have h2 := IsL_length e6
        simp only [List.length_map] at h1
        rw [← h1, h2, e11]
        simp [hrl]
      have hal : arr'.size = len * szOf P (elemOf P t) := by
        have h1 := IsL_length hts
        simp only [List.length_map, Array.length_toList] at h1
        omega
      have hrun : (execOp a.eval o).run P w = .ok (.value (.slice (some ⟨w.heap.size, 0, none⟩) len len)) (w.alloc (.cells arr' (elemOf P t))) := by
        have hb : ¬ (2 ^ 24 < len * szOf P (elemOf P t)) := by omega
        by_cases h0 : len * szOf P (elemOf P t) = 0
        · have : arr = #[] := by simp [arr, h0]
          rw [this] at e3
          simp [execOp, hop, Instr.buildSlice, run_underlying s1, run_sizeOf' s2, h0, e3, newRow, show Array.range 0 = #[] from rfl]
        · have e3' : Instr.fill (fun i => some (i * szOf P (elemOf P t), szOf P (elemOf P t))) ((Array.range (len * szOf P (elemOf P t))).map (z.cells[· % z.cells.size]!)) (parts.toList.map fun x => (x.1, a.eval x.2)) = some arr' := e3
          simp only [execOp, hop, Instr.buildSlice, Sem.run_bind, run_underlying s1, run_sizeOf' s2, Result.andThen_ok, gt_iff_lt, hb, if_false, h0, Sem.run_pure, hz]
          simp [e3', newRow]
      have := lands_row (rows := chunkT (szOf P (elemOf P t)) len ts') (wd := szOf P (elemOf P t)) hrun hG f3 (e5.trans f4) ((e12.mono fun d ⟨i', hi'⟩ => .inr ⟨d, by simp [hop, Op.operands]; exact ⟨i', by simpa using hi'⟩, .inl rfl⟩).trans (f8.2.mono fun x hx => by
        rcases e13 x hx with h1 | ⟨i', d, h1, h2⟩
        · obtain ⟨y, hy, hry⟩ := mem_rootsL.1 h1
          obtain ⟨t1, _, rfl⟩ := List.mem_map.1 hy
          simp [rootsV] at hry
        · exact .inr ⟨d, by simp [hop, Op.operands]; exact ⟨i', by simpa using h1⟩, h2⟩)) (more_alloc w _) (heap_alloc_new w _) hd (chunkT_length _ _ _) (Nat.le_refl _) (by rw [hal]; exact Nat.le_refl _) (fun i row' hi => ?_) ?_ ?_ ?_
      · rw [chunkT_er] at this
        exact this
      · rw [chunkT_get] at hi
        split at hi
        · rename_i hlt
          simp at hi; subst hi
          have hle : (i + 1) * szOf P (elemOf P t) ≤ len * szOf P (elemOf P t) := Nat.mul_le_mul_right _ (by omega)
          rw [Nat.add_mul] at hle
          refine ⟨by simp; omega, fun j c hj => ?_⟩
          rw [List.getElem?_take] at hj
          split at hj
          · rw [List.getElem?_drop] at hj
            obtain ⟨v, k1, k2⟩ := IsL_get hts (i := i * szOf P (elemOf P t) + j) (c := .tr c) (by simp [hj])
            exact ⟨v, by simpa using k1, k2⟩
          · simp at hj
        · simp at hi
      · exact memRows_iff.2 fun r hr => memRow_iff.2 fun t1 ht => f5 t1 (mem_chunkT hr t1 ht)
      · exact (chunkT_own _ _ _).nodup f6
      · intro b hb
        have hb' := (chunkT_own _ _ _).subset hb
        refine ⟨?_, (f7 b hb').2⟩
        rcases (f7 b hb').1 with h1 | h1
        · have := (e9 b h1).1
          rw [hown] at this
          simpa using this
        · exact e5.own b h1
    · simp at h
  · simp at h
end
end Go.HT
end
section
namespace Go.HT
open Go
variable {P : Program} {Z : Zone} {S : St Hd} {a : Act} {w : World} {o : Oper}

/-! ### Stores -/
theorem oneCell_of {c : AV Hd} {u : Value} (hi : IsA c u) (hst : storable [erA c] = true) : u.oneCell' = true := by
  cases c with
  | agg cs => simp [erA, storable] at hst
  | tup cs => simp [erA, storable] at hst
  | tr t =>
    cases t with
    | undef => simp [erA, erT, storable] at hst
    | _ => simp only [IsA, IsT] at hi; rw [hi]; rfl
  | ref => simp only [IsA] at hi; rw [hi]; rfl
  | ptr => simp only [IsA] at hi; rw [hi]; rfl
  | psh => simp only [IsA] at hi; rw [hi]; rfl
  | fn => obtain ⟨vs, h1, h2⟩ := hi; rw [h1]; rfl
  | ifc => obtain ⟨vs, h1, h2⟩ := hi; rw [h1]; rfl
theorem storable_cons {c : UV} {r : List UV} (h : storable (c :: r) = true) : storable [c] = true ∧ storable r = true := by
  cases c with
  | agg cs => simp [storable] at h
  | tup cs => simp [storable] at h
  | tr t =>
    cases t with
    | undef => simp [storable] at h
    | _ => exact ⟨rfl, by simpa [storable] using h⟩
  | _ => exact ⟨rfl, by simpa [storable] using h⟩
theorem upd_setCell {B off : Nat} {cs : Array Value} {e : TypeId} {u : Value} (hb : w.heap[B]? = some (.cells cs e (0, 0))) (hlt : off < cs.size) : Upd w (w.setCell ⟨B, off, none⟩ u) ⟨B, off, none⟩ u := by
  refine ⟨fun b hne => ?_, cs, e, hb, hlt, ?_⟩
  · simp only [World.setCell, Array.getElem?_modify]
    rw [if_neg (fun h => hne h.symm)]
  · simp only [World.setCell, Array.getElem?_modify, if_true, hb, Option.map_some]
    simp
theorem setCell_size (w : World) (A : Addr) (u : Value) : (w.setCell A u).heap.size = w.heap.size := by simp [World.setCell]
mutual
theorem poiA_or (b1 b2 : Place → Bool → Bool) : ∀ v : AV Hd, poiA b2 (poiA b1 v) = poiA (fun q b => b1 q b || b2 q b) v
  | .tr t => rfl
  | .ref q .. => by by_cases h : b1 q true = true <;> simp [poiA, h]
  | .ptr q _ => by by_cases h : b1 q false = true <;> simp [poiA, h]
  | .psh .. => rfl
  | .agg cs => by simp only [poiA]; rw [poiL_or b1 b2 cs]
  | .tup cs => by simp only [poiA]; rw [poiL_or b1 b2 cs]
  | .fn _ cs => by simp only [poiA]; rw [poiL_or b1 b2 cs]
  | .ifc _ v => by simp only [poiA]; rw [poiA_or b1 b2 v]
theorem poiL_or (b1 b2 : Place → Bool → Bool) : ∀ l : List (AV Hd), poiL b2 (poiL b1 l) = poiL (fun q b => b1 q b || b2 q b) l
  | [] => rfl
  | v :: r => by simp only [poiL]; rw [poiA_or b1 b2 v, poiL_or b1 b2 r]
end
theorem not_badAt_row (r : Nat) (st : List (Nat × Nat)) (o1 o2 : Nat) : badAt ⟨r, st, o1⟩ ⟨r, st, o2⟩ false = false := by
  simp only [badAt, thru, Place.chain, beq_self_eq_true, Bool.true_and, Bool.false_and, Bool.or_false]
  cases h : (st.map (·.1) ++ [o1]).isPrefixOf (st.map (·.1)) with
  | false => rfl
  | true =>
    have := (List.isPrefixOf_iff_prefix.1 h).length_le
    simp at this
    omega
theorem setE_len {e e' : Ent Hd} {st : List (Nat × Nat)} {off : Nat} {c : AV Hd} (h : e.set st off c = some e') {g : Hd} {cs : List (AV Hd)} (he : e = .box g cs) : ∃ cs', e' = .box g cs' ∧ cs'.length = cs.length := by
  subst he
  simp only [Ent.set] at h
  split at h
  · rename_i cs' hs; simp at h; subst h; exact ⟨cs', rfl, setRowA_length hs⟩
  · simp at h
/-- One cell is stored. -/
theorem store1 {c : AV Hd} {u : Value} {r off : Nat} {st : List (Nat × Nat)} {bad badn : Place → Bool → Bool} {B : Addr} {row : List (AV Hd)} {S1 : St Hd} (hG : Good Z S a w) (ha : rowAddrS S r st = some (B, row))
    (hs : setC (poi badn S) ⟨r, st, off⟩ (poiA badn (poiA bad c)) = some S1) (hk : ∀ S2, setC (poi badn S) ⟨r, st, off⟩ (poiA badn (poiA bad c)) = some S2 → Keeps (poi badn S) S2 badn) (hb : badn ⟨r, st, off⟩ false = false)
    (hi : IsA c u) (hm : memA w Z c) (hnd : (ownA c).Nodup) (hz : ∀ b ∈ ownA c, ¬ Z.b b ∧ b < w.heap.size) (hdis : ∀ b ∈ ownA c, b ∉ ownS S) (hr : refOk S (poiA bad c)) :
    Good Z S1 a (w.setCell ⟨B.block, B.off + off, none⟩ u) ∧ Upd w (w.setCell ⟨B.block, B.off + off, none⟩ u) ⟨B.block, B.off + off, none⟩ u ∧ Keeps S S1 badn ∧ (∀ b ∈ ownS S1, b ∈ ownS S ∨ b ∈ ownA c) ∧ B.block ∈ ownS S ∧ off < row.length ∧
    (∀ d g cs, look S d = some (.box g cs) → ∃ cs', look S1 d = some (.box g cs') ∧ cs'.length = cs.length) ∧ (∃ row', rowAddrS S1 r st = some (B, row') ∧ row'.length = row.length) ∧ Own1 (fun x => x = r) S S1 := by
  have hG0 := hG.poi badn
  have hk1 := hk S1 hs
  have hk0 : Keeps S (poi badn S) badn := keeps_poi S badn badn
  obtain ⟨row0, ha0⟩ := hk0.ptr ⟨r, st, off⟩ hb B row ha
  obtain ⟨cs, e, c1, c2⟩ := hG.row ha
  obtain ⟨e1, e2, l1, l2, rfl⟩ := setC_look hs
  have hloc : ∃ old, getC (poi badn S) ⟨r, st, off⟩ = some old := by
    obtain ⟨old, _, p0, _, _⟩ := setC_perm hG0.sorted hs
    exact ⟨old, p0⟩
  have hoff : off < row0.length := by
    obtain ⟨old, ho⟩ := hloc
    simp only [getC, rowAddrS_rowOf ha0] at ho
    exact (List.getElem?_eq_some_iff.1 ho).1
  have hrl : row0.length = row.length := by
    have h1 := rowAddrS_rowOf ha0
    have h2 := rowAddrS_rowOf ha
    simp only [rowOf, look_poi] at h1 h2
    cases hl : look S r with
    | none => simp [hl] at h2
    | some ee =>
      simp only [hl, Option.map_some, cells_poi] at h1 h2
      by_cases hst : st = []
      · subst hst
        simp only [stepRow, Option.some.injEq] at h1 h2
        rw [← h1, ← h2, poiL_map]; simp
      · rw [stepRow_poi badn _ _ hst] at h1
        rw [h1] at h2
        simp at h2; rw [h2]
  obtain ⟨⟨v0, v1, _⟩, _⟩ := c2 off row[off] (by simp [← hrl, hoff])
  have hlt : B.off + off < cs.size := (Array.getElem?_eq_some_iff.1 v1).1
  have hU := upd_setCell (u := u) c1 hlt
  have hBo : B.block ∈ ownS S := by
    simp only [rowAddrS] at ha
    cases hl : look S r with
    | none => simp [hl] at ha
    | some ee => simp only [hl] at ha; exact look_own hl _ (rowAddrE_own (hG.ent _ _ hl) ha)
  have hcB : B.block ∉ ownA c := fun h => hdis _ h hBo
  have hZB : ¬ Z.b B.block := (hG.zn _ hBo).1
  have hgood := hG0.setC (w' := w.setCell ⟨B.block, B.off + off, none⟩ u) (v := u) hs hk1 (poi_idem badn S) (poiA_idem badn (poiA bad c)) ha0 hU (by rw [setCell_size]; exact Nat.le_refl _)
    (IsA_poi _ _ _ (IsA_poi _ _ _ hi)) (memA_poi _ _ (memA_poi _ _ (memA_frame c (fun b hb => hU.1 b (by rintro rfl; rcases hb with hb | hb; exact hcB hb; exact hZB hb)) hm)))
    (by rw [ownA_poi, ownA_poi]; exact hnd) (by rw [ownA_poi, ownA_poi, setCell_size]; exact hz) (by rw [ownA_poi, ownA_poi, ownS_poi]; exact hdis) (refOk_keeps hk0 _ hr)
  obtain ⟨old, rest, p0, p1, p2⟩ := setC_perm hG0.sorted hs
  rw [ownS_poi] at p1
  rw [ownA_poi, ownA_poi] at p2
  have hkk : Keeps S (put (poi badn S) r e2) badn := hk0.trans hk1
  obtain ⟨row', hr'⟩ := hkk.ptr ⟨r, st, off⟩ hb B row ha
  refine ⟨hgood, hU, hkk, fun b hb => ?_, hBo, by omega, fun d g cs hd => ?_, ⟨row', hr', ?_⟩, (own1_poi _ _ S).trans (own1_put _ _ _ rfl)⟩
  · rcases List.mem_append.1 (p2.mem_iff.1 hb) with hb | hb
    · exact .inr hb
    · exact .inl (p1.mem_iff.2 (by simp [hb]))
  · by_cases hdr : d = r
    · subst hdr
      have hl1 : look (poi badn S) d = some (.box g (poiL badn cs)) := by rw [look_poi, hd]; rfl
      rw [l1] at hl1
      simp at hl1
      obtain ⟨cs', k1, k2⟩ := setE_len l2 hl1
      exact ⟨cs', by rw [look_put, if_pos rfl, k1], by rw [k2, poiL_map]; simp⟩
    · exact ⟨poiL badn cs, by rw [look_put, if_neg hdr, look_poi, hd]; rfl, by rw [poiL_map]; simp⟩
  · have h1 := rowAddrS_rowOf hr'
    have h2 := rowAddrS_rowOf ha0
    simp only [rowOf, look_put, if_true] at h1
    simp only [rowOf] at h2
    rw [l1] at h2
    simp only at h1 h2
    rw [← hrl]
    rcases setE_cells l2 with k | ⟨k1, v, rfl, hna, rfl, k2⟩
    · cases hst : st with
      | nil =>
        subst hst
        simp only [stepRow, Option.some.injEq] at h1 h2
        rw [← h1, ← h2]
        exact setRowA_length k
      | cons x rr =>
        subst hst
        obtain ⟨o1, i1⟩ := x
        obtain ⟨g1, w1, rows1, row1, t, row3, q1, q3, _, q4, q5⟩ := setRowA_cons k
        have hlt : o1 < e1.cells.length := (List.getElem?_eq_some_iff.1 q1).1
        have hilt : i1 < rows1.length := (List.getElem?_eq_some_iff.1 q3).1
        rw [q5] at h1
        simp only [stepRow, List.getElem?_set_self hlt, List.getElem?_set_self hilt, stepRow_tr] at h1
        simp only [stepRow, q1, q3, stepRow_tr] at h2
        exact rowT_len q4 h1 h2
    · exfalso
      rw [k1] at ha0
      simp [rowAddrS, l1, rowAddrE] at ha0
where
  rowT_len : ∀ {st : List (Nat × Nat)} {row row2 : List (Tr Hd)} {off : Nat} {c : Tr Hd} {x y : List (AV Hd)}, setRowT row st off c = some row2 → (rowT row2 st).map (·.map .tr) = some x → (rowT row st).map (·.map .tr) = some y → x.length = y.length
    | [], row, row2, off, c, x, y, h, h1, h2 => by
      simp [rowT] at h1 h2
      have := setRowT_length h
      rw [← h1, ← h2]
      simp [this]
    | (o1, i1) :: r, row, row2, off, c, x, y, h, h1, h2 => by
      simp only [setRowT] at h
      split at h
      · rename_i g1 w1 rows1 e1
        split at h
        · rename_i row1 e3
          split at h
          · rename_i row3 e4
            simp at h; subst h
            have hlt : o1 < row.length := (List.getElem?_eq_some_iff.1 e1).1
            have hilt : i1 < rows1.length := (List.getElem?_eq_some_iff.1 e3).1
            simp only [rowT, List.getElem?_set_self hlt, List.getElem?_set_self hilt] at h1
            simp only [rowT, e1, e3] at h2
            exact rowT_len e4 h1 h2
          · simp at h
        · simp at h
      · simp at h

theorem poiA_false (v : AV Hd) : poiA (fun _ _ => false) v = v := poiA_noBad' v
theorem poiL_false (l : List (AV Hd)) : poiL (fun _ _ => false) l = l := poi_noBad.poiL_noBad l
theorem or_noBad (bad : Place → Bool → Bool) : (fun q b => bad q b || noBad q b) = bad := by funext q b; simp [noBad]
/-- Cells are stored, one by one. -/
theorem setCs_ok {r : Nat} {st : List (Nat × Nat)} {B : Addr} {o0 : Nat} : ∀ {cs : List (AV Hd)} {us : List Value} {bad : Place → Bool → Bool} {S : St Hd} {w : World} {i : Nat} {row : List (AV Hd)} {U : US}, Good Z S a w → setCs r st bad (erS S) (erL cs) (o0 + i) = some U →
    rowAddrS S r st = some (B, row) → IsL cs us → storable (erL cs) = true → memL w Z cs → (ownAL cs).Nodup → (∀ b ∈ ownAL cs, ¬ Z.b b ∧ b < w.heap.size) → (∀ b ∈ ownAL cs, b ∉ ownS S) → refOkL S (poiL bad cs) →
    ∃ S' w' row', erS S' = U ∧ (storeCells ⟨B.block, B.off + o0, none⟩ us i).run P w = .ok () w' ∧ Good Z S' a w' ∧ w'.os = w.os ∧ w'.tape = w.tape ∧ w'.output = w.output ∧ w'.heap.size = w.heap.size ∧ (∀ b, b ≠ B.block → w'.heap[b]? = w.heap[b]?) ∧ (cs ≠ [] → B.block ∈ ownS S) ∧
      (∀ b ∈ ownS S', b ∈ ownS S ∨ b ∈ ownAL cs) ∧ (∀ d g ds, look S d = some (.box g ds) → ∃ ds', look S' d = some (.box g ds') ∧ ds'.length = ds.length) ∧ (Own1 (fun x => x = r) S S' ∧ VirOk S S') ∧ rowAddrS S' r st = some (B, row') ∧ row'.length = row.length ∧ (cs = [] ∨ o0 + i + cs.length ≤ row.length) ∧
      (∀ cells e, w.heap[B.block]? = some (.cells cells e (0, 0)) → ∃ cells', w'.heap[B.block]? = some (.cells cells' e (0, 0)) ∧ cells'.size = cells.size ∧ ∀ k, (k < B.off + o0 + i ∨ B.off + o0 + i + cs.length ≤ k) → cells'[k]? = cells[k]?)
  | [], us, bad, S, w, i, row, U, hG, h, ha, hi, _, _, _, _, _, _ => by
    simp only [erL, setCs, Option.some.injEq] at h
    simp only [IsL] at hi
    subst hi
    exact ⟨S, w, row, h, rfl, hG, rfl, rfl, rfl, rfl, fun _ _ => rfl, by simp, fun b hb => .inl hb, fun d g ds hd => ⟨ds, hd, rfl⟩, ⟨.refl _ S, .refl S⟩, ha, rfl, .inl rfl, fun cells e hc => ⟨cells, hc, rfl, fun _ _ => rfl⟩⟩
  | c :: cs, us, bad, S, w, i, row, U, hG, h, ha, hi, hst, hm, hnd, hz, hdis, hr => by
    obtain ⟨u, us, rfl, i1, i2⟩ := hi
    obtain ⟨st1, st2⟩ := storable_cons hst
    have hnd' : (ownA c ++ ownAL cs).Nodup := hnd
    have hone := oneCell_of i1 (by simpa using st1)
    -- one step
    have step : ∃ badn S1, badn ⟨r, st, o0 + i⟩ false = false ∧ setC (poi badn S) ⟨r, st, o0 + i⟩ (poiA badn (poiA bad c)) = some S1 ∧ (∀ S2, setC (poi badn S) ⟨r, st, o0 + i⟩ (poiA badn (poiA bad c)) = some S2 → Keeps (poi badn S) S2 badn) ∧
        setCs r st (fun q b => bad q b || badn q b) (erS S1) (erL cs) (o0 + i + 1) = some U := by
      simp only [erL, setCs, getC_er] at h
      cases hc : getC S ⟨r, st, o0 + i⟩ with
      | none => simp [hc] at h
      | some old =>
        simp only [hc, Option.map_some] at h
        split at h
        · rename_i g0 w0 rows0 heq
          split at h
          · rename_i U1 hs
            rw [← poi_er, ← poiA_er, setC_er] at hs
            cases hh : setC (poi (badAt ⟨r, st, o0 + i⟩) S) ⟨r, st, o0 + i⟩ (poiA (fun q b => bad q b || badAt ⟨r, st, o0 + i⟩ q b) c) with
            | none => simp [hh] at hs
            | some S1 =>
              simp [hh] at hs
              subst hs
              exact ⟨badAt ⟨r, st, o0 + i⟩, S1, not_badAt_row _ _ _ _, by rw [poiA_or]; exact hh, fun S2 h2 => keeps_setC h2, h⟩
          · simp at h
        · rename_i x hno heq
          split at h
          · rename_i U1 hs
            rw [← poiA_er, setC_er] at hs
            cases hh : setC S ⟨r, st, o0 + i⟩ (poiA bad c) with
            | none => simp [hh] at hs
            | some S1 =>
              simp [hh] at hs
              subst hs
              refine ⟨noBad, S1, rfl, by rw [poi_noBad, poiA_noBad']; exact hh, fun S2 h2 => ?_, by rw [or_noBad]; exact h⟩
              rw [poi_noBad, poiA_noBad'] at h2
              rw [poi_noBad]
              refine keeps_setC' h2 hc ?_ noBad
              simp only [Option.some.injEq] at heq
              subst heq
              cases old with
              | tr t =>
                cases t with
                | sl κ g0 w0 rows0 => cases κ <;> first | rfl | exact (hno () w0 (erRows rows0) rfl).elim
                | _ => rfl
              | _ => rfl
          · simp at h
        · simp at h
    obtain ⟨badn, S1, hb, hs, hk, hrest⟩ := step
    have hm' : memA w Z c ∧ memL w Z cs := hm
    have hr' : refOk S (poiA bad c) ∧ refOkL S (poiL bad cs) := hr
    obtain ⟨g1, hU, g3, g4, g5, g6, g7, ⟨row1, g8, g9⟩, g10⟩ := store1 hG ha hs hk hb i1 hm'.1 (nodup_append_left hnd') (fun b hb => hz b (by simp [ownAL, hb])) (fun b hb => hdis b (by simp [ownAL, hb])) hr'.1
    obtain ⟨S', w', row', k1, k2, k3, k4, k5, k6, k7, k8, k9, k10, k11, kO, k12, k13, k14, k15⟩ := setCs_ok (cs := cs) (us := us) (i := i + 1) g1 (by rw [← Nat.add_assoc]; exact hrest) g8 i2 st2
      (memL_frame cs (fun b hb => hU.1 b (by
        rintro rfl
        rcases hb with hb | hb
        · exact hdis _ (by simp [ownAL, hb]) g5
        · exact (hG.zn _ g5).1 hb)) hm'.2) (nodup_append_right hnd') (fun b hb => by rw [setCell_size]; exact hz b (by simp [ownAL, hb]))
      (fun b hb hc => by
        rcases g4 b hc with hc | hc
        · exact hdis b (by simp [ownAL, hb]) hc
        · exact nodup_apart hnd' hc hb) (by have := refOkL_keeps g3 _ hr'.2; rwa [poiL_or] at this)
    obtain ⟨hU1, cells0, e0, hU2, hU3, hU4⟩ := hU
    refine ⟨S', w', row', k1, ?_, k3, by rw [k4]; rfl, by rw [k5]; rfl, by rw [k6]; rfl, by rw [k7, setCell_size], fun b hne => by rw [k8 b hne, hU1 b hne], fun _ => g5, fun b hb => ?_, fun d g ds hd => ?_, ⟨g10.trans kO.1, ((virOk_poi badn S).trans (virOk_setC hs (.inl fun t hl => by
      rw [look_poi] at hl
      cases hl0 : look S r with
      | none => simp [hl0] at hl
      | some e =>
        cases e with
        | vir t0 => exact vir_row ha hl0
        | tmp v => simp [hl0, Ent.poi] at hl
        | box g cs => simp [hl0, Ent.poi] at hl))).trans kO.2⟩, k12, by rw [k13, g9], .inr ?_, fun cells e hc => ?_⟩
    · have hcell : w.cell? ⟨B.block, B.off + (o0 + i), none⟩ = some cells0[B.off + (o0 + i)] := by rw [cell_eq hU2]; exact Array.getElem?_eq_getElem hU3
      have hfz : w.frozen? ⟨B.block, B.off + (o0 + i), none⟩ = false := by simp only [World.frozen?, hU2]; simp
      have hadd : (⟨B.block, B.off + o0, none⟩ : Addr).add i = ⟨B.block, B.off + (o0 + i), none⟩ := by rw [spot_add, Nat.add_assoc]
      have hst : (store ((⟨B.block, B.off + o0, none⟩ : Addr).add i) u).run P w = .ok () (w.setCell ⟨B.block, B.off + (o0 + i), none⟩ u) := by
        rw [hadd, run_store P w _ u _ hone]
        simp only [hcell, hfz, Bool.false_eq_true, if_false]
      simp only [storeCells, Sem.run_bind, hst, Result.andThen_ok]
      exact k2
    · rcases k10 b hb with hb | hb
      · rcases g4 b hb with hb | hb
        · exact .inl hb
        · exact .inr (by simp [ownAL, hb])
      · exact .inr (by simp [ownAL, hb])
    · obtain ⟨ds1, m1, m2⟩ := g7 d g ds hd
      obtain ⟨ds2, m3, m4⟩ := k11 d g ds1 m1
      exact ⟨ds2, m3, m4.trans m2⟩
    · rcases k14 with rfl | k14
      · simp; omega
      · simp; omega
    · have hc' : some (Obj.cells cells0 e0 (0, 0)) = some (Obj.cells cells e (0, 0)) := by rw [← hU2]; exact hc
      simp at hc'
      obtain ⟨rfl, rfl⟩ := hc'
      obtain ⟨cells', m1, m2, m3⟩ := k15 _ _ hU4
      refine ⟨cells', m1, by rw [m2]; simp, fun k hk => ?_⟩
      simp only [List.length_cons] at hk
      rw [m3 k (by omega), Array.getElem?_setIfInBounds_ne (by simp only; omega)]
end Go.HT
end
section
namespace Go.HT
open Go
variable {P : Program} {Z : Zone} {S : St Hd} {a : Act} {w : World} {o : Oper}

theorem resolve_storable : ∀ {l : List UV} {S : US} {ts : List UT} {U : US}, resolve S l = some (ts, U) → storable (ts.map .tr) = true → storable l = true
  | [], S, ts, U, h, hs => rfl
  | c :: r, S, ts, U, h, hs => by
    simp only [resolve] at h
    split at h
    · rename_i t
      split at h
      · rename_i cs S2 hr
        simp at h
        obtain ⟨rfl, rfl⟩ := h
        simp only [List.map_cons] at hs
        have h2 := resolve_storable hr (storable_cons hs).2
        cases t with
        | undef => simp [storable] at hs
        | _ => simpa [storable] using h2
      · simp at h
    · split at h
      · split at h
        · split at h
          · split at h
            · rename_i cs S2 hr
              simp at h
              obtain ⟨rfl, rfl⟩ := h
              simp only [List.map_cons] at hs
              simpa [storable] using resolve_storable hr (storable_cons hs).2
            · simp at h
          · simp at h
        · simp at h
      · simp at h
    · simp at h
/-- A row that is there has its address. -/
theorem row_addr (hG : Good Z S a w) {r : Nat} {st : List (Nat × Nat)} {row : List (AV Hd)} (hr : rowOf S r st = some row) (hst : st ≠ []) : ∃ B row', rowAddrS S r st = some (B, row') := by
  simp only [rowOf] at hr
  cases hl : look S r with
  | none => simp [hl] at hr
  | some e =>
    simp only [hl] at hr
    have hm := hG.cellsMem hl
    have key : ∀ B0, ∃ B row', rowAddrA B0 e.cells st = some (B, row') := by
      intro B0
      cases st with
      | nil => exact absurd rfl hst
      | cons x rr =>
        obtain ⟨o1, i1⟩ := x
        simp only [stepRow] at hr
        simp only [rowAddrA]
        cases hh : e.cells[o1]? with
        | none => simp [hh] at hr
        | some c1 =>
          simp only [hh] at hr ⊢
          split at hr
          · rename_i g1 wd rows1 e0
            simp only [Option.some.injEq] at e0
            subst e0
            simp only
            cases h3 : rows1[i1]? with
            | none => simp [h3] at hr
            | some row1 =>
              simp only [h3, stepRow_tr] at hr
              obtain ⟨m1, m2, m3⟩ := hm _ (List.mem_of_getElem? hh)
              cases hg : g1.a with
              | none => have := (m1.1 hg).1; subst this; simp at h3
              | some A1 =>
                simp only
                cases hrt : rowT row1 rr with
                | none => simp [hrt] at hr
                | some row2 =>
                  obtain ⟨B', k1⟩ := rowT_addr (B := ⟨A1.block, A1.off + i1 * wd, none⟩) (memRow_iff.1 (memRows_iff.1 m3 row1 (List.mem_of_getElem? h3))) hrt
                  exact ⟨B', row2.map .tr, by rw [k1]; rfl⟩
          · simp at hr
    simp only [rowAddrS, hl]
    cases e with
    | box g1 cs =>
      obtain ⟨h1, A1, h2, _⟩ := hG.ent _ _ hl
      simp only [rowAddrE, h2]
      exact key A1
    | vir t => simp only [rowAddrE]; rw [if_neg hst]; exact key default
    | tmp v => simp only [rowAddrE]; rw [if_neg hst]; exact key default
/-- A row that is still there lies where it lay. -/
theorem row_still {S' : St Hd} (_hG : Good Z S a w) (hG' : Good Z S' a w) (hl : Less S S') {r : Nat} {st : List (Nat × Nat)} {B : Addr} {row : List (AV Hd)} (ha : rowAddrS S r st = some (B, row)) {row1 : List (AV Hd)} (h1 : rowOf S' r st = some row1) : ∃ row', rowAddrS S' r st = some (B, row') := by
  by_cases hst : st = []
  · subst hst
    simp only [rowAddrS] at ha
    cases hk : look S r with
    | none => simp [hk] at ha
    | some e =>
      simp only [hk] at ha
      cases e with
      | box g cs =>
        obtain ⟨cs', k1, k2⟩ := hl.box r g cs hk
        simp only [rowAddrE] at ha
        cases hg : g.a with
        | none => simp [hg] at ha
        | some A =>
          simp only [hg, rowAddrA, Option.some.injEq, Prod.mk.injEq] at ha
          exact ⟨cs', by simp only [rowAddrS, k1, rowAddrE, hg, rowAddrA, ha.1]⟩
      | tmp v => simp [rowAddrE] at ha
      | vir t => simp [rowAddrE] at ha
  · obtain ⟨B', row', k⟩ := row_addr hG' h1 hst
    obtain ⟨row2, k2⟩ := hl.back r st B' row' k
    rw [ha] at k2
    simp at k2
    exact ⟨row', by rw [k, k2.1]⟩
/-- A box's own row. -/
theorem box_row (hG : Good Z S a w) {d r : Nat} {g : Hd} {cs row : List (AV Hd)} {A B : Addr} {st : List (Nat × Nat)} (hd : look S d = some (.box g cs)) (hg : g.a = some A) (ha : rowAddrS S r st = some (B, row)) (hAB : A.block = B.block) : r = d ∧ st = [] ∧ B = A ∧ row = cs := by
  simp only [rowAddrS] at ha
  cases hk : look S r with
  | none => simp [hk] at ha
  | some e =>
    simp only [hk] at ha
    have hin := rowAddrE_own (hG.ent _ _ hk) ha
    have hA : A.block ∈ ownE (.box g cs : Ent Hd) := by simp [ownE, blk, hg]
    by_cases hrd : r = d
    · subst hrd
      rw [hd] at hk
      simp at hk
      subst hk
      simp only [rowAddrE, hg] at ha
      cases st with
      | nil =>
        simp only [rowAddrA, Option.some.injEq, Prod.mk.injEq] at ha
        exact ⟨rfl, rfl, ha.1.symm, ha.2.symm⟩
      | cons x rr =>
        exfalso
        obtain ⟨o1, i1⟩ := x
        have hnd := hG.ownE_nodup hd
        simp only [ownE, blk, hg] at hnd
        refine nodup_apart hnd (x := A.block) (by simp) ?_
        rw [hAB]
        simp only [rowAddrA] at ha
        split at ha
        · rename_i g1 w1 rows1 e1
          cases hg1 : g1.a with
          | none => simp [hg1] at ha
          | some A1 =>
            simp only [hg1] at ha
            cases h3 : rows1[i1]? with
            | none => simp [h3] at ha
            | some row1 =>
              simp only [h3] at ha
              cases hr : rowAddrT ⟨A1.block, A1.off + i1 * w1, none⟩ row1 rr with
              | none => simp [hr] at ha
              | some y =>
                obtain ⟨B', row'⟩ := y
                simp only [hr, Option.map_some, Option.some.injEq, Prod.mk.injEq] at ha
                obtain ⟨rfl, _⟩ := ha
                refine ownAL_get e1 ?_
                simp only [ownA, ownT]
                rcases rowAddr_block hr with ⟨_, rfl, _⟩ | hb
                · simp [hg1]
                · simp [ownRows_get h3 hb]
        · simp at ha
    · exfalso
      exact look_ne hG.nd hk hd hrd _ (hAB ▸ hin) hA
section
variable (hG : Good Z S a w) {U : US} {p : Prop}
include hG
/-- Cells that hang free are stored. -/
theorem store_lands {S2 : St Hd} {t : TypeId} {x y : Operand} {q : Place} {B : Addr} {row : List (AV Hd)} {cs : List (AV Hd)} (hop : o.op = .store t x y) (hdst : o.dst = none) (ha : rowAddrS S q.root q.st = some (B, row)) (hx : a.eval x = .pointer (some ⟨B.block, B.off + q.off, none⟩))
    (hG2 : Good Z S2 a w) (hl : Less S S2) (hO : Own1 (near S o) S S2) (hi : IsL cs (a.eval y).cells.toList) (hst : storable (erL cs) = true) (hm : memL w Z cs) (hnd : (ownAL cs).Nodup) (hown : ∀ b ∈ ownAL cs, b ∈ ownS S) (hdis : ∀ b ∈ ownAL cs, b ∉ ownS S2) (hr : refOkL S2 cs)
    (htch : near S o q.root) (hset : setCs q.root q.st noBad (erS S2) (erL cs) q.off = some U) (hty : tyOk P t = true) (hlen : cs.length = szOf P t) : Lands P Z S a w o U := by
  have hBS : B.block ∈ slotB S q.root := by
    simp only [rowAddrS] at ha
    simp only [slotB]
    cases hl : look S q.root with
    | none => simp [hl] at ha
    | some e => simp only [hl] at ha; exact rowAddrE_own (hG.ent _ _ hl) ha
  have hne : cs ≠ [] := by rintro rfl; have := tyOk_pos hty; simp at hlen; omega
  have hrow : ∃ row1, rowOf S2 q.root q.st = some row1 := by
    cases cs with
    | nil => exact absurd rfl hne
    | cons c r =>
      simp only [erL, setCs, getC_er] at hset
      cases hc : getC S2 ⟨q.root, q.st, q.off⟩ with
      | none => simp [hc] at hset
      | some old =>
        simp only [getC] at hc
        cases hr : rowOf S2 q.root q.st with
        | none => simp [hr] at hc
        | some row1 => exact ⟨row1, rfl⟩
  obtain ⟨row1, hrow⟩ := hrow
  obtain ⟨row2, ha2⟩ := row_still hG hG2 hl ha hrow
  obtain ⟨S', w', row', k1, k2, k3, k4, k5, k6, k7, k8, k9, k10, k11, kO, k12, k13, k14, k15⟩ := setCs_ok (P := P) (o0 := q.off) (i := 0) (bad := noBad) hG2 (by simpa using hset) ha2 hi hst hm hnd (fun b hb => hG.zn b (hown b hb)) hdis (by rw [poi_noBad.poiL_noBad]; exact hr)
  have hsz : (a.eval y).cells.size = szOf P t := by
    have := IsL_length hi
    rw [← hlen, ← this]; simp
  have hrun : (execOp a.eval o).run P w = .ok .skip w' := by
    simp only [execOp, hop, Instr.storeAt, hx, Instr.sureAddr, storeVar, Sem.run_bind, Sem.run_pure, Result.andThen_ok, run_sizeOf' hty, hsz, ne_eq, not_true_eq_false, if_false]
    rw [k2]; rfl
  refine ⟨S', undef, w', .inr ⟨hrun, rfl⟩, by rw [hdst]; exact k3, k1, ⟨k4, k5, k6, by rw [k7]; exact Nat.le_refl _, fun b _ hb => k8 b (fun h => ?_), fun b hb => .inl ?_, fun d g ds A cells e hd hg hc => ?_, hl.vir.trans kO.2⟩, fun b _ hb => k8 b (by rintro rfl; exact hb ⟨q.root, htch, hBS⟩), hO.trans (kO.1.mono fun x hx => by rw [hx]; exact htch)⟩
  · exact hb (hl.own _ (h ▸ k9 hne))
  · rcases k10 b hb with hb | hb
    · exact hl.own b hb
    · exact hown b hb
  · obtain ⟨ds1, m1, m2⟩ := hl.box d g ds hd
    obtain ⟨ds2, m3, m4⟩ := k11 d g ds1 m1
    refine ⟨?_, .inl ⟨ds2, m3, m4.trans m2⟩⟩
    by_cases hAB : A.block = B.block
    · obtain ⟨rfl, hst', rfl, rfl⟩ := box_row hG2 m1 hg ha2 hAB
      obtain ⟨cells', n1, n2, n3⟩ := k15 cells e (hAB ▸ hc)
      refine ⟨cells', hAB ▸ n1, n2, fun k hk => n3 k ?_⟩
      rcases k14 with h | h
      · exact absurd h hne
      · omega
    · exact ⟨cells, by rw [k8 _ hAB]; exact hc, rfl, fun _ _ => rfl⟩
theorem xStore_ok {br : Nat → Bool} {t : TypeId} {x y : Operand} (hop : o.op = .store t x y) (hdst : o.dst = none) (h : xStore P br (erS S) t x y = some (p, ⟨U⟩)) (hp : p) : Lands P Z S a w o U := by
  unfold xStore at h
  split at h
  · rename_i q u hv
    obtain ⟨v', h1, h2, h3, h4, h5, h6⟩ := ev_ok hG hv
    obtain ⟨g, rfl⟩ := erA_ptr h1
    obtain ⟨B, row, r1, r2⟩ := h4
    simp only [IsA, r2] at h2
    have htch : near S o q.root := by
      cases x with
      | tmp s =>
        obtain ⟨e, hl, he⟩ := h6 s rfl
        refine .inr ⟨s, by simp [hop, Op.operands], ?_⟩
        rcases he with rfl | ⟨g1, cs1, rfl, hh⟩
        · exact .inr ⟨_, hl, by simp [rootsE, rootsV]⟩
        · simp at hh
          obtain ⟨rfl, rfl⟩ := hh
          exact .inl rfl
      | const c =>
        simp only [ev] at hv
        unfold evC at hv
        split at hv <;> (try split at hv) <;> simp at hv
      | func f => simp [ev] at hv
      | global g => simp [ev] at hv
    split at h
    · rename_i cs U1 hcs
      split at h
      · rename_i hst
        split at h
        · rename_i U2 hset
          simp only [Option.some.injEq, Prod.mk.injEq, W.mk.injEq] at h
          obtain ⟨rfl, rfl⟩ := h
          obtain ⟨p1, p2⟩ := hp
          split at hcs
          · split at hcs
            · rename_i v S1 bad hu
              simp only [Option.some.injEq, Prod.mk.injEq] at hcs
              obtain ⟨rfl, rfl⟩ := hcs
              obtain ⟨v3, S3, k1, k2, k3, k4, k5, k6, k7, k8, k9, k10, k11⟩ := evU_ok hG hu
              subst k1 k2
              obtain ⟨vc, v1, v2, v3'⟩ := cells_of_IsA k4 hst
              obtain ⟨q1, q2, q3⟩ := cells_mem (w := w) (Z := Z) (S := S3) v3'
              exact store_lands hG hop hdst r1 h2 k3 k9 (k11.2.1.mono fun d hd => .inr ⟨d, by simp [hop, Op.operands, hd], .inl rfl⟩) v1 (by rw [v2]; exact hst) (q1 k5) (by rw [q2]; exact k7) (fun b hb => (k8 b (by rwa [← q2])).1) (fun b hb => (k8 b (by rwa [← q2])).2) (q3 k6) htch (by rw [v2]; exact hset) p1 (by rw [← p2, ← v2, erL_length])
            · simp at hcs
          · split at hcs
            · rename_i ts S1 hu
              simp only [Option.some.injEq, Prod.mk.injEq] at hcs
              obtain ⟨rfl, rfl⟩ := hcs
              unfold cellsUsed at hu
              split at hu
              · rename_i v S0 bad hu0
                obtain ⟨v3, S3, k1, k2, k3, k4, k5, k6, k7, k8, k9, k10, k11⟩ := evU_ok hG hu0
                subst k1 k2
                obtain ⟨vc, v1, v2, v3'⟩ := cells_of_IsA k4 (resolve_storable hu hst)
                obtain ⟨q1, q2, q3⟩ := cells_mem (w := w) (Z := Z) (S := S3) v3'
                rw [← v2] at hu
                obtain ⟨ts', S4, f1, f2, f3, f4, f5, f6, f7, f8⟩ := resolve_ok k3 hu (q1 k5) (by rw [q2]; exact k7) (fun b hb => (k8 b (by rwa [← q2])).2) (fun c hc => RefW_of (refOkL_iff.1 (q3 k6) c hc))
                subst f1 f2
                have hnodup : (ownAL (ts'.map .tr)).Nodup ∧ ownAL (ts'.map .tr) = ownRow ts' := by
                  have : ownAL (ts'.map .tr) = ownRow ts' := by
                    clear hu hset hst p2 f5 f6 f7 f8
                    induction ts' with
                    | nil => rfl
                    | cons t r ih => simp [ownAL, ownRow, ownA, ih]
                  rw [this]; exact ⟨f6, rfl⟩
                refine store_lands hG hop hdst r1 h2 f3 (k9.trans f4) ((k11.2.1.mono fun d hd => .inr ⟨d, by simp [hop, Op.operands, hd], .inl rfl⟩).trans (f8.2.mono fun z hz => by
                  have : z ∈ rootsV v3 := by
                    rcases v3' with rfl | rfl
                    · simpa [rootsL] using hz
                    · exact hz
                  obtain ⟨d, hd, hh⟩ := k11.2.2 z this
                  exact .inr ⟨d, by simp [hop, Op.operands, hd], hh⟩)) (f8.1 _ v1) (by rw [← erRow_tr]; exact hst) (memL_tr f5) hnodup.1 (fun b hb => ?_) (fun b hb => (f7 b (by rwa [← hnodup.2])).2) (refOkL_tr _) htch (by rw [← erRow_tr]; exact hset) p1 (by rw [← p2]; simp [erRow_length])
                rw [hnodup.2] at hb
                rcases (f7 b hb).1 with hb | hb
                · exact (k8 b (by rwa [← q2])).1
                · exact k9.own b hb
              · simp at hu
            · simp at hcs
        · simp at h
      · simp at h
    · simp at h
  · simp at h
end
end Go.HT
end
section
namespace Go.HT
open Go
variable {P : Program} {Z : Zone} {S : St Hd} {a : Act} {w : World} {o : Oper}

/-! ### Trees that say less -/
inductive Sub : Tr Hd → Tr Hd → Prop
  | undef (t : Tr Hd) : Sub .undef t
  | refl (t : Tr Hd) : Sub t t
  | sl (g : Hd) (w : Nat) (rows rows' : List (List (Tr Hd))) (hl : rows'.length = rows.length)
      (hw : ∀ (i : Nat) (row row' : List (Tr Hd)), rows[i]? = some row → rows'[i]? = some row' → row'.length = row.length)
      (h : ∀ (i : Nat) (row row' : List (Tr Hd)), rows[i]? = some row → rows'[i]? = some row' → ∀ (j : Nat) (t t' : Tr Hd), row[j]? = some t → row'[j]? = some t' → Sub t' t) : Sub (.sl .own g w rows') (.sl .own g w rows)
def SubRow (row' row : List (Tr Hd)) : Prop := row'.length = row.length ∧ ∀ (j : Nat) (t t' : Tr Hd), row[j]? = some t → row'[j]? = some t' → Sub t' t
theorem sub_sl {g : Hd} {w : Nat} {rows rows' : List (List (Tr Hd))} (hl : rows'.length = rows.length) (h : ∀ (i : Nat) (row row' : List (Tr Hd)), rows[i]? = some row → rows'[i]? = some row' → SubRow row' row) : Sub (.sl .own g w rows') (.sl .own g w rows) :=
  .sl g w rows rows' hl (fun i row row' h1 h2 => (h i row row' h1 h2).1) (fun i row row' h1 h2 => (h i row row' h1 h2).2)
theorem get_len {α β : Type} {l : List α} {m : List β} (h : m.length = l.length) {i : Nat} {x : β} (hx : m[i]? = some x) : ∃ y, l[i]? = some y := by
  have := (List.getElem?_eq_some_iff.1 hx).1
  exact ⟨l[i]'(by omega), by simp⟩
theorem sub_is {t t' : Tr Hd} (h : Sub t' t) {v : Value} (hv : IsT t v) : IsT t' v := by
  cases h with
  | undef => trivial
  | refl => exact hv
  | sl g w rows rows' hl _ _ => simpa [IsT, hl] using hv
theorem sub_mem {t t' : Tr Hd} (h : Sub t' t) (hm : memT w Z true t) : memT w Z true t' := by
  induction h with
  | undef => trivial
  | refl => exact hm
  | sl g wd rows rows' hl hw h ih =>
    obtain ⟨⟨m1, m2⟩, m3, m4⟩ := hm
    refine ⟨⟨fun hn => ?_, fun A hA => ?_⟩, m3, memRows_iff.2 fun row' hr => ?_⟩
    · obtain ⟨k1, k2⟩ := m1 hn
      subst k1
      exact ⟨by simpa using hl, k2⟩
    · obtain ⟨q1, q2, q3, cs, e, fr, q4, q5, q6⟩ := m2 A hA
      refine ⟨q1, by omega, q3, cs, e, fr, q4, q5, fun i row' hi => ?_⟩
      obtain ⟨row, hr⟩ := get_len hl hi
      obtain ⟨r1, r2⟩ := q6 i row hr
      have h1 := hw i row row' hr hi
      have h2 := h i row row' hr hi
      refine ⟨by omega, fun j c hj => ?_⟩
      obtain ⟨c0, hc0⟩ := get_len h1 hj
      obtain ⟨v, k1, k2⟩ := r2 j c0 hc0
      exact ⟨v, k1, sub_is (h2 j c0 c hc0 hj) k2⟩
    · obtain ⟨i, hi⟩ := List.getElem?_of_mem hr
      obtain ⟨row, hr⟩ := get_len hl hi
      have h1 := hw i row row' hr hi
      refine memRow_iff.2 fun t' ht => ?_
      obtain ⟨j, hj⟩ := List.getElem?_of_mem ht
      obtain ⟨c0, hc0⟩ := get_len h1 hj
      exact ih i row row' hr hi j c0 t' hc0 hj (memRow_iff.1 (memRows_iff.1 m4 row (List.mem_of_getElem? hr)) c0 (List.mem_of_getElem? hc0))
theorem sub_addr : ∀ {st : List (Nat × Nat)} {B B' : Addr} {row row' r' : List (Tr Hd)}, SubRow row' row → rowAddrT B row' st = some (B', r') → ∃ r0, rowAddrT B row st = some (B', r0)
  | [], B, B', row, row', r', hs, h => by simp [rowAddrT] at h; exact ⟨row, by simp [rowAddrT, h.1]⟩
  | (o, i) :: r, B, B', row, row', r', hs, h => by
    simp only [rowAddrT] at h ⊢
    split at h
    · rename_i g wd rows1 e1
      split at h
      · rename_i A row1 e2 e3
        obtain ⟨t, ht⟩ := get_len hs.1 e1
        have hsub := hs.2 o t _ ht e1
        cases hsub with
        | refl => simp only [ht, e2, e3]; exact ⟨r', h⟩
        | sl g wd rows rows' hl hw hh =>
          obtain ⟨row0, h0⟩ := get_len hl e3
          simp only [ht, e2, h0]
          exact sub_addr ⟨hw i row0 row1 h0 e3, hh i row0 row1 h0 e3⟩ h
      · simp at h
    · simp at h
theorem sub_row_refl (row : List (Tr Hd)) : SubRow row row := ⟨rfl, fun j t t' h1 h2 => by rw [h1] at h2; simp at h2; subst h2; exact .refl t⟩
theorem sub_set {row : List (Tr Hd)} {o : Nat} {t t' : Tr Hd} (h : row[o]? = some t) (hs : Sub t' t) : SubRow (row.set o t') row := by
  refine ⟨by simp, fun j x x' h1 h2 => ?_⟩
  rw [List.getElem?_set] at h2
  split at h2
  · rename_i hh; subst hh
    split at h2
    · simp at h2; subst h2; rw [h] at h1; simp at h1; subst h1; exact hs
    · simp at h2
  · rw [h1] at h2; simp at h2; subst h2; exact .refl x
theorem setRow_sub : ∀ {st : List (Nat × Nat)} {row row2 : List (Tr Hd)} {off : Nat} {c old : Tr Hd}, setRowT row st off c = some row2 → getT row st off = some old → Sub c old → SubRow row2 row
  | [], row, row2, off, c, old, h, hg, hs => by
    simp only [setRowT] at h
    split at h
    · simp at h; subst h
      exact sub_set hg hs
    · simp at h
  | (o, i) :: r, row, row2, off, c, old, h, hg, hs => by
    simp only [setRowT] at h
    split at h
    · rename_i g1 w1 rows1 e1
      split at h
      · rename_i row1 e3
        split at h
        · rename_i row3 e4
          simp at h; subst h
          simp only [getT, e1, e3] at hg
          have ih := setRow_sub e4 hg hs
          refine sub_set e1 (sub_sl (by simp) fun i' x x' h1 h2 => ?_)
          rw [List.getElem?_set] at h2
          split at h2
          · rename_i hh; subst hh
            split at h2
            · simp at h2; subst h2; rw [e3] at h1; simp at h1; subst h1; exact ih
            · simp at h2
          · rw [h1] at h2; simp at h2; subst h2; exact sub_row_refl x
        · simp at h
      · simp at h
    · simp at h
/-- A header stays where only what lies behind it says less. -/
theorem keepR : ∀ {st st2 : List (Nat × Nat)} {row row2 : List (Tr Hd)} {off off2 : Nat} {g : Hd} {w0 : Nat} {rows rows' : List (List (Tr Hd))}, setRowT row st off (.sl .own g w0 rows') = some row2 → getT row st off = some (.sl .own g w0 rows) → rows'.length = rows.length →
    (st.map (·.1) ++ [off]).isPrefixOf (st2.map (·.1)) = false → ∀ {g2 : Hd} {w2 : Nat} {rows2 : List (List (Tr Hd))}, getT row st2 off2 = some (.sl .own g2 w2 rows2) → ∃ rows2', getT row2 st2 off2 = some (.sl .own g2 w2 rows2') ∧ rows2'.length = rows2.length
  | [], st2, row, row2, off, off2, g, w0, rows, rows', h, ho, hl, hp, g2, w2, rows2, hg => by
    simp only [setRowT] at h
    split at h
    · rename_i hlt
      simp at h; subst h
      cases st2 with
      | nil =>
        by_cases hh : off = off2
        · subst hh
          simp only [getT] at ho hg
          rw [ho] at hg
          simp at hg
          obtain ⟨rfl, rfl, rfl⟩ := hg
          exact ⟨rows', by simp [getT, hlt], hl⟩
        · exact ⟨rows2, by simpa [getT, List.getElem?_set, hh] using hg, rfl⟩
      | cons x r2 =>
        obtain ⟨o2, i2⟩ := x
        have hh : off ≠ o2 := by rintro rfl; simp [List.isPrefixOf] at hp
        exact ⟨rows2, by simpa [getT, List.getElem?_set, hh] using hg, rfl⟩
    · simp at h
  | (o, i) :: r, st2, row, row2, off, off2, g, w0, rows, rows', h, ho, hl, hp, g2, w2, rows2, hg => by
    simp only [setRowT] at h
    split at h
    · rename_i g1 w1 rows1 e1
      split at h
      · rename_i row1 e3
        split at h
        · rename_i row3 e4
          simp at h; subst h
          simp only [getT, e1, e3] at ho
          have hlt : o < row.length := (List.getElem?_eq_some_iff.1 e1).1
          cases st2 with
          | nil =>
            by_cases hh : o = off2
            · subst hh
              simp only [getT, e1, Option.some.injEq, Tr.sl.injEq] at hg
              obtain ⟨_, rfl, rfl, rfl⟩ := hg
              exact ⟨rows1.set i row3, by simp [getT, hlt], by simp⟩
            · exact ⟨rows2, by simpa [getT, List.getElem?_set, hh] using hg, rfl⟩
          | cons x r2 =>
            obtain ⟨o2, i2⟩ := x
            by_cases hh : o = o2
            · subst hh
              simp only [getT, e1] at hg
              have hilt : i < rows1.length := (List.getElem?_eq_some_iff.1 e3).1
              by_cases hi : i = i2
              · subst hi
                simp only [e3] at hg
                obtain ⟨rows2', k1, k2⟩ := keepR e4 ho hl (by simpa [List.isPrefixOf] using hp) hg
                exact ⟨rows2', by simp only [getT, List.getElem?_set_self hlt, List.getElem?_set_self hilt]; exact k1, k2⟩
              · refine ⟨rows2, ?_, rfl⟩
                simp only [getT, List.getElem?_set_self hlt, List.getElem?_set_ne hi]
                exact hg
            · exact ⟨rows2, by simpa [getT, List.getElem?_set, hh] using hg, rfl⟩
        · simp at h
      · simp at h
    · simp at h
theorem keepRA {st st2 : List (Nat × Nat)} {cs cs' : List (AV Hd)} {off off2 : Nat} {g : Hd} {w0 : Nat} {rows rows' : List (List (Tr Hd))} (h : setRowA cs st off (.tr (.sl .own g w0 rows')) = some cs') (ho : getA cs st off = some (.tr (.sl .own g w0 rows))) (hl : rows'.length = rows.length)
    (hp : (st.map (·.1) ++ [off]).isPrefixOf (st2.map (·.1)) = false) {g2 : Hd} {w2 : Nat} {rows2 : List (List (Tr Hd))} (hg : getA cs st2 off2 = some (.tr (.sl .own g2 w2 rows2))) : ∃ rows2', getA cs' st2 off2 = some (.tr (.sl .own g2 w2 rows2')) ∧ rows2'.length = rows2.length := by
  cases st with
  | nil =>
    simp only [setRowA] at h
    split at h
    · rename_i hlt
      simp at h; subst h
      cases st2 with
      | nil =>
        by_cases hh : off = off2
        · subst hh
          simp only [getA, stepRow] at ho hg
          rw [ho] at hg
          simp at hg
          obtain ⟨rfl, rfl, rfl⟩ := hg
          exact ⟨rows', by simp [getA, stepRow, hlt], hl⟩
        · exact ⟨rows2, by simpa [getA, stepRow, List.getElem?_set, hh] using hg, rfl⟩
      | cons x r2 =>
        obtain ⟨o2, i2⟩ := x
        have hh : off ≠ o2 := by rintro rfl; simp [List.isPrefixOf] at hp
        exact ⟨rows2, by simpa [getA, stepRow, List.getElem?_set, hh] using hg, rfl⟩
    · simp at h
  | cons x r =>
    obtain ⟨o, i⟩ := x
    obtain ⟨g1, w1, rows1, row1, t, row3, e1, e3, ht, e4, rfl⟩ := setRowA_cons h
    simp at ht; subst ht
    rw [getA_cons e1 e3] at ho
    have ho' : getT row1 r off = some (.sl .own g w0 rows) := by
      cases hh : getT row1 r off with
      | none => simp [hh] at ho
      | some t' => simp [hh] at ho; rw [ho]
    have hlt : o < cs.length := (List.getElem?_eq_some_iff.1 e1).1
    cases st2 with
    | nil =>
      by_cases hh : o = off2
      · subst hh
        simp only [getA, stepRow, e1, Option.some.injEq, AV.tr.injEq, Tr.sl.injEq] at hg
        obtain ⟨_, rfl, rfl, rfl⟩ := hg
        exact ⟨rows1.set i row3, by simp [getA, stepRow, hlt], by simp⟩
      · exact ⟨rows2, by simpa [getA, stepRow, List.getElem?_set, hh] using hg, rfl⟩
    | cons y r2 =>
      obtain ⟨o2, i2⟩ := y
      by_cases hh : o = o2
      · subst hh
        have hilt : i < rows1.length := (List.getElem?_eq_some_iff.1 e3).1
        by_cases hi : i = i2
        · subst hi
          rw [getA_cons e1 e3] at hg
          have hg' : getT row1 r2 off2 = some (.sl .own g2 w2 rows2) := by
            cases hh : getT row1 r2 off2 with
            | none => simp [hh] at hg
            | some t' => simp [hh] at hg; rw [hg]
          obtain ⟨rows2', k1, k2⟩ := keepR e4 ho' hl (by simpa [List.isPrefixOf] using hp) hg'
          exact ⟨rows2', by rw [getA_cons (g := g1) (w := w1) (row1 := row3) (rows := rows1.set i row3) (by simp [hlt]) (by simp [hilt]), k1]; rfl, k2⟩
        · refine ⟨rows2, ?_, rfl⟩
          simp only [getA, stepRow, e1] at hg
          simp only [getA, stepRow, List.getElem?_set_self hlt, List.getElem?_set_ne hi]
          exact hg
      · exact ⟨rows2, by simpa [getA, stepRow, List.getElem?_set, hh] using hg, rfl⟩
/-- Cells that say less, one by one. -/
def SubA (cs' cs : List (AV Hd)) : Prop := cs'.length = cs.length ∧ ∀ (j : Nat) (x x' : AV Hd), cs[j]? = some x → cs'[j]? = some x' → x' = x ∨ ∃ t t', x = .tr t ∧ x' = .tr t' ∧ Sub t' t
theorem setA_sub {st : List (Nat × Nat)} {cs cs' : List (AV Hd)} {off : Nat} {c old : Tr Hd} (h : setRowA cs st off (.tr c) = some cs') (ho : getA cs st off = some (.tr old)) (hs : Sub c old) : SubA cs' cs := by
  have key : ∀ (o : Nat) (t t' : Tr Hd), cs[o]? = some (.tr t) → Sub t' t → SubA (cs.set o (.tr t')) cs := by
    intro o t t' ht hs
    refine ⟨by simp, fun j x x' h1 h2 => ?_⟩
    rw [List.getElem?_set] at h2
    split at h2
    · rename_i hh; subst hh
      split at h2
      · simp at h2; subst h2; rw [ht] at h1; simp at h1; subst h1; exact .inr ⟨t, t', rfl, rfl, hs⟩
      · simp at h2
    · rw [h1] at h2; simp at h2; exact .inl h2.symm
  cases st with
  | nil =>
    simp only [setRowA] at h
    split at h
    · simp at h; subst h
      simp only [getA, stepRow] at ho
      exact key off old c ho hs
    · simp at h
  | cons x r =>
    obtain ⟨o, i⟩ := x
    obtain ⟨g1, w1, rows1, row1, t, row3, e1, e3, ht, e4, rfl⟩ := setRowA_cons h
    simp at ht; subst ht
    rw [getA_cons e1 e3] at ho
    have ho' : getT row1 r off = some old := by
      cases hh : getT row1 r off with
      | none => simp [hh] at ho
      | some t' => simp [hh] at ho; rw [ho]
    have ih := setRow_sub e4 ho' hs
    refine key o _ _ e1 (sub_sl (by simp) fun i' x x' h1 h2 => ?_)
    rw [List.getElem?_set] at h2
    split at h2
    · rename_i hh; subst hh
      split at h2
      · simp at h2; subst h2; rw [e3] at h1; simp at h1; subst h1; exact ih
      · simp at h2
    · rw [h1] at h2; simp at h2; subst h2; exact sub_row_refl x
theorem subA_is {cs cs' : List (AV Hd)} (h : SubA cs' cs) {vs : List Value} (hi : IsL cs vs) : IsL cs' vs := by
  refine IsL_of_get (by rw [IsL_length hi]; exact h.1.symm) fun i c' u h1 h2 => ?_
  obtain ⟨c, hc⟩ := get_len h.1 h1
  obtain ⟨v, k1, k2⟩ := IsL_get hi hc
  rw [h2] at k1
  simp at k1
  subst k1
  rcases h.2 i c c' hc h1 with rfl | ⟨t, t', rfl, rfl, hs⟩
  · exact k2
  · exact sub_is hs k2
theorem subA_mem {cs cs' : List (AV Hd)} (h : SubA cs' cs) (hm : ∀ x ∈ cs, memA w Z x) : ∀ x ∈ cs', memA w Z x := by
  intro x' hx
  obtain ⟨i, hi⟩ := List.getElem?_of_mem hx
  obtain ⟨c, hc⟩ := get_len h.1 hi
  have := hm c (List.mem_of_getElem? hc)
  rcases h.2 i c x' hc hi with rfl | ⟨t, t', rfl, rfl, hs⟩
  · exact this
  · exact sub_mem hs this
theorem entOk_sub {d : Nat} {e e' : Ent Hd} {st : List (Nat × Nat)} {off : Nat} {c old : Tr Hd} (he : entOk a w Z d e) (h : e.set st off (.tr c) = some e') (ho : getA e.cells st off = some (.tr old)) (hs : Sub c old) : entOk a w Z d e' := by
  cases e with
  | box g cs =>
    simp only [Ent.set] at h
    split at h
    · rename_i cs' hset
      simp at h; subst h
      have hsub := setA_sub hset ho hs
      obtain ⟨h1, A, h2, h3, cells, e, h4, h5, h6⟩ := he
      refine ⟨h1, A, h2, h3, cells, e, h4, (by have := hsub.1; omega), fun j x' hj => ?_⟩
      obtain ⟨x, hx⟩ := get_len hsub.1 hj
      obtain ⟨⟨v, k1, k2⟩, k3⟩ := h6 j x hx
      rcases hsub.2 j x x' hx hj with rfl | ⟨t, t', rfl, rfl, hs⟩
      · exact ⟨⟨v, k1, k2⟩, k3⟩
      · exact ⟨⟨v, k1, sub_is hs k2⟩, sub_mem hs k3⟩
    · simp at h
  | vir t =>
    simp only [Ent.set] at h
    split at h
    · rename_i t' hset
      simp at h; subst h
      have hsub := setA_sub hset ho hs
      exact subA_mem hsub (by intro x hx; simp at hx; subst hx; exact he) (.tr t') (by simp)
    · simp at h
  | tmp v =>
    cases v with
    | agg cs =>
      simp only [Ent.set] at h
      split at h
      · rename_i cs' hset
        simp at h; subst h
        have hsub := setA_sub hset ho hs
        obtain ⟨⟨vs, m1, m2⟩, m3⟩ := he
        exact ⟨⟨vs, m1, subA_is hsub m2⟩, memL_iff.2 (subA_mem hsub (memL_iff.1 m3))⟩
      · simp at h
    | _ =>
      simp only [Ent.set] at h
      split at h
      · rename_i v' hset
        simp at h; subst h
        have hsub := setA_sub hset ho hs
        have h1 := subA_is hsub (vs := [_]) ⟨_, [], rfl, he.1, rfl⟩
        obtain ⟨u, us, hu, k1, _⟩ := h1
        simp at hu
        obtain ⟨rfl, _⟩ := hu
        refine ⟨by simpa using k1, subA_mem hsub (by intro x hx; simp at hx; subst hx; exact he.2) _ (by simp)⟩
      · simp at h
end Go.HT
end
section
namespace Go.HT
open Go
variable {P : Program} {Z : Zone} {S : St Hd} {a : Act} {w : World} {o : Oper}

def thq (q : Place) : Place → Bool → Bool := fun q2 _ => thru q q2
theorem keeps_retree {S S' : St Hd} {q : Place} {g : Hd} {wd : Nat} {rows rows' : List (List (Tr Hd))} (hc : getC S q = some (.tr (.sl .own g wd rows))) (hs : setC S q (.tr (.sl .own g wd rows')) = some S') (hl : rows'.length = rows.length) : Keeps S S' (thq q) := by
  have hk := keeps_setC hs
  refine ⟨fun q2 hb g2 w2 rows2 hg => ?_, fun q2 hb B row ha => hk.ptr q2 (by simpa [badAt, thq] using hb) B row ha⟩
  obtain ⟨e, e', h1, h2, rfl⟩ := setC_look hs
  by_cases hr : q2.root = q.root
  · have hl2 : look (put S q.root e') q2.root = some e' := by rw [look_put, if_pos hr]
    rw [getC_getA (hr ▸ h1)] at hg
    rw [getC_getA hl2]
    rw [getC_getA h1] at hc
    have hp : (q.st.map (·.1) ++ [q.off]).isPrefixOf (q2.st.map (·.1)) = false := not_thru_pre hr (by simpa [badAt, thq] using hb)
    rcases setE_cells h2 with k | ⟨k1, v, rfl, hna, rfl, k2⟩
    · exact keepRA k hc hl hp hg
    · rw [cells_na hna] at hg hc
      simp only [k1, k2, getA, stepRow] at hc
      simp at hc; subst hc
      cases hst : q2.st with
      | nil =>
        simp only [hst, getA, stepRow] at hg
        cases ho : q2.off with
        | zero =>
          simp [ho] at hg
          obtain ⟨rfl, rfl, rfl⟩ := hg
          exact ⟨rows', by simp [getA, stepRow, Ent.cells], hl⟩
        | succ n => simp [ho] at hg
      | cons x r =>
        obtain ⟨o1, i1⟩ := x
        exfalso
        simp only [hst, getA, stepRow] at hg
        cases o1 with
        | zero => rw [k1, k2, hst] at hp; simp [List.isPrefixOf] at hp
        | succ n => simp at hg
  · exact ⟨rows2, by rw [getC_root (S := S) (by rw [look_put, if_neg hr])]; exact hg, rfl⟩
theorem subA_addr {B0 B : Addr} {cs cs' r' : List (AV Hd)} {st : List (Nat × Nat)} (h : SubA cs' cs) (hr : rowAddrA B0 cs' st = some (B, r')) : ∃ r0, rowAddrA B0 cs st = some (B, r0) := by
  cases st with
  | nil => simp [rowAddrA] at hr; exact ⟨cs, by simp [rowAddrA, hr.1]⟩
  | cons x rr =>
    obtain ⟨o1, i1⟩ := x
    simp only [rowAddrA] at hr ⊢
    split at hr
    · rename_i g w0 rows e1
      obtain ⟨x, hx⟩ := get_len h.1 e1
      rcases h.2 o1 x _ hx e1 with hh | ⟨t, t', rfl, ht', hsub⟩
      · subst hh
        rw [hx]
        exact ⟨r', hr⟩
      · simp at ht'; subst ht'
        rw [hx]
        cases hsub with
        | refl => exact ⟨r', hr⟩
        | sl g wd rows0 _ hl hw hh =>
          simp only
          cases hg : g.a with
          | none => simp [hg] at hr
          | some A =>
            simp only [hg] at hr ⊢
            cases h3 : rows[i1]? with
            | none => simp [h3] at hr
            | some row1 =>
              simp only [h3] at hr
              obtain ⟨row0, h0⟩ := get_len hl h3
              simp only [h0]
              cases hrt : rowAddrT ⟨A.block, A.off + i1 * w0, none⟩ row1 rr with
              | none => simp [hrt] at hr
              | some y =>
                obtain ⟨B', r2⟩ := y
                simp only [hrt, Option.map_some, Option.some.injEq, Prod.mk.injEq] at hr
                obtain ⟨rfl, rfl⟩ := hr
                obtain ⟨r0, k⟩ := sub_addr ⟨hw i1 row0 row1 h0 h3, hh i1 row0 row1 h0 h3⟩ hrt
                exact ⟨r0.map .tr, by simp [k]⟩
    · simp at hr
theorem setE_sub {e e' : Ent Hd} {st : List (Nat × Nat)} {off : Nat} {c old : Tr Hd} (h : e.set st off (.tr c) = some e') (ho : getA e.cells st off = some (.tr old)) (hs : Sub c old) : SubA e'.cells e.cells ∧ ((∃ g cs cs', e = .box g cs ∧ e' = .box g cs') ∨ (∃ v v', e = .tmp v ∧ e' = .tmp v') ∨ (∃ t t', e = .vir t ∧ e' = .vir t')) := by
  constructor
  · rcases setE_cells h with k | ⟨k1, v, rfl, hna, rfl, k2⟩
    · exact setA_sub k ho hs
    · rw [cells_na hna] at ho ⊢
      simp only [k1, k2, getA, stepRow] at ho
      simp at ho; subst ho
      refine ⟨rfl, fun j x x' h1 h2 => ?_⟩
      cases j with
      | zero => simp [Ent.cells] at h1 h2; exact .inr ⟨old, c, h1.symm, h2.symm, hs⟩
      | succ n => simp at h1
  · cases e with
    | box g cs =>
      simp only [Ent.set] at h
      split at h
      · simp at h; exact .inl ⟨g, cs, _, rfl, h.symm⟩
      · simp at h
    | vir t =>
      simp only [Ent.set] at h
      split at h
      · simp at h; exact .inr (.inr ⟨t, _, rfl, h.symm⟩)
      · simp at h
    | tmp v =>
      refine .inr (.inl ⟨v, ?_⟩)
      cases v <;> simp only [Ent.set] at h <;> split at h <;> simp at h <;> exact ⟨_, rfl, h.symm⟩
/-- Rows at a place come to say less; what they owned hangs free. -/
theorem Good.retree (hG : Good Z S a w) {S' : St Hd} {q : Place} {g : Hd} {wd : Nat} {rows rows' : List (List (Tr Hd))} {fl : List Nat} (hc : getC S q = some (.tr (.sl .own g wd rows))) (hs : HT.setC (HT.poi (thq q) S) q (.tr (.sl .own g wd rows')) = some S')
    (hsub : Sub (.sl .own g wd rows') (.sl .own g wd rows)) (hl : rows'.length = rows.length) (hp : (ownRows rows).Perm (fl ++ ownRows rows')) : Good Z S' a w ∧ Less S S' ∧ (ownS S).Perm (fl ++ ownS S') ∧ Own1 (fun x => x = q.root) S S' := by
  have hG0 := hG.poi (thq q)
  have hc0 := (getC_poi_sl (bad := thq q)).2 hc
  have hk := keeps_retree hc0 hs hl
  obtain ⟨old, rest, p0, p1, p2⟩ := setC_perm hG0.sorted hs
  rw [hc0] at p0
  simp at p0; subst p0
  rw [ownS_poi] at p1
  have hown : (ownS S).Perm (fl ++ ownS S') := by
    refine p1.trans ?_
    simp only [ownA, ownT]
    have h1 : ((match g.a with | some A => [A.block] | none => []) ++ ownRows rows).Perm (fl ++ ((match g.a with | some A => [A.block] | none => []) ++ ownRows rows')) :=
      (hp.append_left _).trans (by rw [← List.append_assoc, ← List.append_assoc]; exact List.perm_append_comm.append_right _)
    refine (h1.append_right _).trans ?_
    rw [List.append_assoc]
    exact (p2.symm.append_left _)
  have hnd := hown.nodup_iff.1 hG.nd
  obtain ⟨e, e', h1, h2, rfl⟩ := setC_look hs
  have ho : getA e.cells q.st q.off = some (.tr (.sl .own g wd rows)) := by rw [← getC_getA h1]; exact hc0
  obtain ⟨hsA, hkind⟩ := setE_sub h2 ho hsub
  refine ⟨⟨put_sorted _ _ _ hG0.sorted, fun d e0 he => ?_, nodup_append_right hnd, fun b hb => hG.zn b (hown.mem_iff.2 (List.mem_append.2 (.inr hb))), hG.zb, fun d e0 he => ?_⟩, ⟨fun b hb => hown.mem_iff.2 (List.mem_append.2 (.inr hb)), fun d g1 cs hd => ?_, fun r st B row' hr => ?_, fun s2 e2 he => ?_, (virOk_poi _ _).trans (virOk_setC hs (.inr fun t ht => .inr ⟨_, hc0, by cases ht; simp [hdT, hl]⟩))⟩, hown, (own1_poi _ _ S).trans (own1_put _ _ _ rfl)⟩
  · rw [look_put] at he
    split at he
    · rename_i hd; subst hd; simp at he; subst he
      exact entOk_sub (hG0.ent _ _ h1) h2 ho hsub
    · exact hG0.ent d e0 he
  · have hpe : ∀ d e0, look (HT.poi (thq q) S) d = some e0 → e0.poi (thq q) = e0 := by
      intro d e0 hl
      have := look_poi (thq q) (HT.poi (thq q) S) d
      rw [poi_idem, hl] at this
      simp at this
      exact this.symm
    rw [look_put] at he
    split at he
    · simp at he; subst he
      refine refOkE_set h2 ?_ trivial
      have := refOkE_keeps hk e (hG0.refs _ _ h1)
      rwa [hpe _ _ h1] at this
    · have := refOkE_keeps hk e0 (hG0.refs _ _ he)
      rwa [hpe _ _ he] at this
  · by_cases hdr : d = q.root
    · subst hdr
      have hl1 : look (HT.poi (thq q) S) q.root = some (.box g1 (poiL (thq q) cs)) := by rw [look_poi, hd]; rfl
      rw [h1] at hl1
      simp at hl1
      obtain ⟨cs', k1, k2⟩ := setE_len h2 hl1
      exact ⟨cs', by rw [look_put, if_pos rfl, k1], by rw [k2, poiL_map]; simp⟩
    · exact ⟨poiL (thq q) cs, by rw [look_put, if_neg hdr, look_poi, hd]; rfl, by rw [poiL_map]; simp⟩
  · have : ∃ row, rowAddrS (HT.poi (thq q) S) r st = some (B, row) := by
      by_cases hdr : r = q.root
      · subst hdr
        simp only [rowAddrS, look_put, if_true, h1] at hr ⊢
        rcases hkind with ⟨g1, cs, cs', rfl, rfl⟩ | ⟨v, v', rfl, rfl⟩ | ⟨t, t', rfl, rfl⟩
        · simp only [rowAddrE] at hr ⊢
          cases hg : g1.a with
          | none => simp [hg] at hr
          | some A => simp only [hg] at hr ⊢; exact subA_addr hsA hr
        · simp only [rowAddrE] at hr ⊢
          split at hr
          · simp at hr
          · rename_i hst; rw [if_neg hst]; exact subA_addr hsA hr
        · simp only [rowAddrE] at hr ⊢
          split at hr
          · simp at hr
          · rename_i hst; rw [if_neg hst]; exact subA_addr hsA hr
      · rw [rowAddr_root (S := HT.poi (thq q) S) (by rw [look_put, if_neg hdr])] at hr
        exact ⟨row', hr⟩
    obtain ⟨row, hrow⟩ := this
    exact poi_back _ S r st B row hrow
  · rw [look_put] at he
    split at he
    · rename_i hd; subst hd
      simp at he; subst he
      obtain ⟨e0, k0, k1⟩ := (less_poi (thq q) S).roots _ e h1
      exact ⟨e0, k0, fun r hr => k1 r (setE_roots h2 r hr)⟩
    · exact (less_poi (thq q) S).roots s2 e2 he
/-- Rows are taken from a place. -/
theorem takeRows_ok2 (hG : Good Z S a w) {q : Place} {lo n : Nat} {U : US} (h : takeRows (erS S) q lo n = some U) {g : Hd} {wd : Nat} {rows : List (List (Tr Hd))} (hc : getC S q = some (.tr (.sl .own g wd rows))) (hln : lo + n ≤ rows.length) :
    ∃ S', erS S' = U ∧ Good Z S' a w ∧ Less S S' ∧ (ownRows ((rows.drop lo).take n)).Nodup ∧ (∀ b ∈ ownRows ((rows.drop lo).take n), b ∈ ownS S ∧ b ∉ ownS S') ∧ Own1 (fun x => x = q.root) S S' ∧ ∃ rows', rows'.length = rows.length ∧ HT.setC (HT.poi (thq q) S) q (.tr (.sl .own g wd rows')) = some S' := by
  unfold takeRows at h
  rw [getC_er, hc] at h
  simp only [Option.map_some, erA, erT] at h
  have hrows : (AV.tr (.sl .own () wd ((erRows rows).take lo ++ (List.replicate n (List.replicate wd .undef) ++ (erRows rows).drop (lo + n)))) : UV) = erA (.tr (.sl .own g wd (rows.take lo ++ (List.replicate n (List.replicate wd .undef) ++ rows.drop (lo + n))))) := by
    simp [erA, erT, erRows_map, erRow_map]
  rw [hrows, show (fun q2 (_ : Bool) => thru q q2) = thq q from rfl, ← poi_er, setC_er] at h
  cases hs : setC (poi (thq q) S) q (.tr (.sl .own g wd (rows.take lo ++ (List.replicate n (List.replicate wd .undef) ++ rows.drop (lo + n))))) with
  | none => simp [hs] at h
  | some S' =>
    simp [hs] at h
    subst h
    have hmem := hG.getMem hc
    have hwd : ∀ (i : Nat) (row : List (Tr Hd)), rows[i]? = some row → row.length = wd := by
      intro i row hi
      obtain ⟨b, off, hga⟩ := rows_adr hmem (by rintro rfl; simp at hi)
      obtain ⟨_, _, _, _, _, _, _, _, q6⟩ := hmem.1.2 _ hga
      exact (q6 i row hi).1
    have hlen : (rows.take lo ++ (List.replicate n (List.replicate wd (.undef : Tr Hd)) ++ rows.drop (lo + n))).length = rows.length := by simp; omega
    have hsub : Sub (.sl .own g wd (rows.take lo ++ (List.replicate n (List.replicate wd .undef) ++ rows.drop (lo + n)))) (.sl .own g wd rows) := by
      refine sub_sl hlen fun i row row' h1 h2 => ?_
      by_cases hi : i < lo
      · rw [List.getElem?_append_left (by simp; omega), List.getElem?_take, if_pos hi, h1] at h2
        simp at h2; subst h2
        exact sub_row_refl row
      · rw [List.getElem?_append_right (by simp; omega)] at h2
        simp only [List.length_take] at h2
        by_cases hj : i < lo + n
        · rw [List.getElem?_append_left (by simp; omega), List.getElem?_replicate, if_pos (by omega)] at h2
          simp at h2; subst h2
          refine ⟨by simp [hwd i row h1], fun j t t' _ h4 => ?_⟩
          rw [List.getElem?_replicate] at h4
          split at h4
          · simp at h4; subst h4; exact .undef t
          · simp at h4
        · rw [List.getElem?_append_right (by simp; omega), List.getElem?_drop] at h2
          simp only [List.length_replicate] at h2
          rw [show lo + n + (i - min lo rows.length - n) = i by omega, h1] at h2
          simp at h2; subst h2
          exact sub_row_refl row
    have hun : ownRows (List.replicate n (List.replicate wd (.undef : Tr Hd))) = [] := by
      cases hh : ownRows (List.replicate n (List.replicate wd (.undef : Tr Hd))) with
      | nil => rfl
      | cons b r =>
        exfalso
        have hb : b ∈ ownRows (List.replicate n (List.replicate wd (.undef : Tr Hd))) := by rw [hh]; simp
        obtain ⟨r', hr, hb⟩ := mem_ownRows.1 hb
        rw [List.eq_of_mem_replicate hr] at hb
        obtain ⟨t, ht, hb⟩ := mem_ownRow.1 hb
        rw [List.eq_of_mem_replicate ht] at hb
        simp [ownT] at hb
    have hperm : (ownRows rows).Perm (ownRows ((rows.drop lo).take n) ++ ownRows (rows.take lo ++ (List.replicate n (List.replicate wd .undef) ++ rows.drop (lo + n)))) := by
      rw [ownRows_append, ownRows_append, hun, List.nil_append]
      have hr : rows = rows.take lo ++ ((rows.drop lo).take n ++ rows.drop (lo + n)) := by
        rw [← List.drop_drop, List.take_append_drop, List.take_append_drop]
      conv => lhs; rw [hr, ownRows_append, ownRows_append]
      rw [← List.append_assoc, ← List.append_assoc]
      exact List.perm_append_comm.append_right _
    obtain ⟨k1, k2, k3, k4⟩ := hG.retree hc hs hsub hlen hperm
    have hnd := k3.nodup_iff.1 hG.nd
    exact ⟨S', rfl, k1, k2, nodup_append_left hnd, fun b hb => ⟨k3.mem_iff.2 (by simp [hb]), fun hc => nodup_apart hnd hb hc⟩, k4, _, hlen, hs⟩
/-- Rows are taken from a place. -/
theorem takeRows_ok (hG : Good Z S a w) {q : Place} {lo n : Nat} {U : US} (h : takeRows (erS S) q lo n = some U) {g : Hd} {wd : Nat} {rows : List (List (Tr Hd))} (hc : getC S q = some (.tr (.sl .own g wd rows))) (hln : lo + n ≤ rows.length) :
    ∃ S', erS S' = U ∧ Good Z S' a w ∧ Less S S' ∧ (ownRows ((rows.drop lo).take n)).Nodup ∧ (∀ b ∈ ownRows ((rows.drop lo).take n), b ∈ ownS S ∧ b ∉ ownS S') ∧ Own1 (fun x => x = q.root) S S' := by
  obtain ⟨S', h1, h2, h3, h4, h5, h6, _⟩ := takeRows_ok2 hG h hc hln
  exact ⟨S', h1, h2, h3, h4, h5, h6⟩
end Go.HT
end
section
namespace Go.HT
open Go
variable {P : Program} {Z : Zone} {S : St Hd} {a : Act} {w : World} {o : Oper}

/-- A slice's rows can be read. -/
def Rd (w : World) (v : Value) (g : Hd) (wd : Nat) (rows : List (List (Tr Hd))) : Prop :=
  v = .slice g.a rows.length g.cap ∧ rows.length ≤ g.cap ∧
    (rows ≠ [] → ∃ (B off : Nat) (cs : Array Value) (e : TypeId) (fr : Nat × Nat), g.a = some ⟨B, off, none⟩ ∧ w.heap[B]? = some (.cells cs e fr) ∧ ∀ (i : Nat) (row : List (Tr Hd)), rows[i]? = some row → row.length = wd ∧ ∀ (j : Nat) (c : Tr Hd), row[j]? = some c → ∃ u, cs[off + i * wd + j]? = some u ∧ IsT c u)
theorem rd_of_mem {al : Bool} {κ : Knd} {g : Hd} {wd : Nat} {rows : List (List (Tr Hd))} (h : memT w Z al (.sl κ g wd rows)) : Rd w (.slice g.a rows.length g.cap) g wd rows := by
  refine ⟨rfl, rows_cap h, fun hne => ?_⟩
  obtain ⟨b, off, hg⟩ := rows_adr h hne
  obtain ⟨q1, q2, q3, cs, e, fr, q4, q5, q6⟩ := h.1.2 _ hg
  exact ⟨b, off, cs, e, fr, hg, q4, q6⟩
/-- A part of the rows can be read. -/
theorem rd_part {g0 g : Hd} {wd lo n : Nat} {cp : Bool} {rows : List (List (Tr Hd))} (h : memT w Z true (.sl .own g0 wd rows)) (hs : subOk g0 wd rows.length lo n cp g) : Rd w (.slice g.a n g.cap) g wd ((rows.drop lo).take n) := by
  obtain ⟨s1, s2, s3, s4, s5⟩ := hs
  have hlen : ((rows.drop lo).take n).length = n := by simp; omega
  refine ⟨by rw [hlen], by omega, fun hne => ?_⟩
  · have hpos : 0 < n := by
      cases n with
      | zero => simp at hne
      | succ n => omega
    obtain ⟨A0, a1, a2⟩ := s2 hpos
    obtain ⟨q1, q2, q3, cs, e, fr, q4, q5, q6⟩ := h.1.2 A0 a1
    refine ⟨A0.block, A0.off + lo * wd, cs, e, fr, a2, q4, fun i row hi => ?_⟩
    rw [List.getElem?_take] at hi
    split at hi
    · rw [List.getElem?_drop] at hi
      obtain ⟨r1, r2⟩ := q6 _ row hi
      refine ⟨r1, fun j c hj => ?_⟩
      obtain ⟨v, k1, k2⟩ := r2 j c hj
      exact ⟨v, by rw [← k1]; congr 1; rw [Nat.add_mul]; omega, k2⟩
    · simp at hi
theorem flat_own {rows : List (List (Tr Hd))} (h : flatRows (erRows rows) = true) : ownRows rows = [] := by
  cases hh : ownRows rows with
  | nil => rfl
  | cons b r =>
    exfalso
    have hb : b ∈ ownRows rows := by rw [hh]; simp
    obtain ⟨row, hr, hb⟩ := mem_ownRows.1 hb
    obtain ⟨t, ht, hb⟩ := mem_ownRow.1 hb
    have h1 := List.all_eq_true.1 h (erRow row) (by rw [erRows_map]; exact List.mem_map.2 ⟨row, hr, rfl⟩)
    have h2 := List.all_eq_true.1 h1 (erT t) (by rw [erRow_map]; exact List.mem_map.2 ⟨t, ht, rfl⟩)
    cases t with
    | sl => simp [erT, Tr.flat] at h2
    | _ => simp [ownT] at hb
theorem memRows_false {rows : List (List (Tr Hd))} (h : memRows w Z false rows) : memRows w Z true rows ∧ ownRows rows = [] := by
  refine ⟨memRows_iff.2 fun r hr => memRow_iff.2 fun t ht => (memT_false (memRow_iff.1 (memRows_iff.1 h r hr) t ht)).1, ?_⟩
  cases hh : ownRows rows with
  | nil => rfl
  | cons b r =>
    exfalso
    have hb : b ∈ ownRows rows := by rw [hh]; simp
    obtain ⟨row, hr, hb⟩ := mem_ownRows.1 hb
    obtain ⟨t, ht, hb⟩ := mem_ownRow.1 hb
    rw [(memT_false (memRow_iff.1 (memRows_iff.1 h row hr) t ht)).2] at hb
    simp at hb
theorem poiA_own (bad : Place → Bool → Bool) (q : Place) (lo n : Nat) (cp : Bool) (u : Unit) (v : UV) (h : poiA bad v = .ref q lo n cp u) : v = .ref q lo n cp u := by
  cases v with
  | ref => simp only [poiA] at h; split at h <;> simp at h; obtain ⟨rfl, rfl, rfl, rfl⟩ := h; rfl
  | ptr => simp only [poiA] at h; split at h <;> simp at h
  | _ => simp [poiA] at h
theorem evU_ref {S : US} {t : TypeId} {x : Operand} {q : Place} {lo n : Nat} {cp : Bool} {u : Unit} {S1 : US} {bad : Place → Bool → Bool} (h : evU P S t x = some (.ref q lo n cp u, S1, bad)) : S1 = S ∧ ev P S t x = some (.ref q lo n cp u) := by
  unfold evU at h
  split at h
  · rename_i v hv
    split at h
    · split at h
      · rename_i hown
        simp at h
        have := poiA_own _ _ _ _ _ _ _ h.1
        rw [this] at hown
        simp [ownV] at hown
      · simp at h
        obtain ⟨rfl, rfl, _⟩ := h
        exact ⟨rfl, hv⟩
    · simp at h
      obtain ⟨rfl, rfl, _⟩ := h
      exact ⟨rfl, hv⟩
  · simp at h
/-- Where an operand's value lies. -/
def NearX (S : St Hd) (x : Operand) (y : Nat) : Prop := ∃ s, x = .tmp s ∧ (y = s ∨ ∃ e, look S s = some e ∧ y ∈ rootsE e)
def Held (S : St Hd) (x : Operand) (b : Nat) : Prop := ∃ y, NearX S x y ∧ b ∈ slotB S y
/-- The rows that 'append' takes up. -/
theorem rowsUsed_ok (hG : Good Z S a w) {t : TypeId} {x : Operand} {base al : Bool} {p : Prop} {rows : List (List UT)} {U : US} (h : rowsUsed P (erS S) t x base = some (p, al, rows, U)) (hp : p) :
    ∃ g rows' S', erRows rows' = rows ∧ erS S' = U ∧ Good Z S' a w ∧ Less S S' ∧ Rd w (a.eval x) g (szOf P (elemOf P t)) rows' ∧ memRows w Z true rows' ∧ (ownRows rows').Nodup ∧ (∀ b ∈ ownRows rows', b ∈ ownS S ∧ b ∉ ownS S') ∧
      (base = true → al = false → memT w Z true (.sl .own g (szOf P (elemOf P t)) rows') ∧ (ownT (.sl .own g (szOf P (elemOf P t)) rows')).Nodup ∧ ∀ b ∈ ownT (.sl .own g (szOf P (elemOf P t)) rows'), (b ∈ ownS S ∧ b ∉ ownS S') ∧ Held S x b) ∧
      (al = true → g.cap = rows'.length) ∧ Own1 (NearX S x) S S' := by
  unfold rowsUsed at h
  split at h
  · rename_i v S1 bad hu
    split at h
    · rename_i κ u wd rows1
      obtain ⟨v3, S3, k1, k2, k3, k4, k5, k6, k7, k8, k9, k10, k11⟩ := evU_ok hG hu
      subst k2
      obtain ⟨t', rfl, ht⟩ := erA_tr k1
      obtain ⟨g, rows', rfl, rfl⟩ := erT_sl ht
      simp only [IsA, IsT] at k4
      split at h
      · simp only [Option.some.injEq, Prod.mk.injEq] at h
        obtain ⟨rfl, rfl, rfl, rfl⟩ := h
        subst hp
        have hsub : ∀ b ∈ ownRows rows', b ∈ ownA (.tr (.sl .own g (szOf P (elemOf P t)) rows')) := fun b hb => by simp [ownA, ownT, hb]
        have hrows : memRows w Z true rows' := by have := k5.2.2; simpa using this
        refine ⟨g, rows', S3, rfl, rfl, k3, k9, by rw [k4]; exact rd_of_mem k5, hrows, ?_, fun b hb => k8 b (hsub b hb), fun _ _ => ⟨k5, k7, fun b hb => ⟨k8 b hb, by obtain ⟨d, hd, hb⟩ := k11.1 b hb; exact ⟨d, ⟨d, hd, .inl rfl⟩, hb⟩⟩⟩, by simp, k11.2.1.mono fun d hd => ⟨d, hd, .inl rfl⟩⟩
        simp only [ownA, ownT] at k7
        exact nodup_append_right k7
      · rename_i hκ
        have hκ' : κ ≠ .own := by simpa using hκ
        split at h
        · simp at h
        · rename_i hb
          simp only [Option.some.injEq, Prod.mk.injEq] at h
          obtain ⟨rfl, rfl, rfl, rfl⟩ := h
          subst hp
          have hz : (true && decide (κ = .own)) = false := by simp [hκ']
          obtain ⟨m1, m2⟩ := memRows_false (by have := k5.2.2; rwa [hz] at this)
          exact ⟨g, rows', S3, rfl, rfl, k3, k9, by rw [k4]; exact rd_of_mem k5, m1, by rw [m2]; simp, by rw [m2]; simp, fun hb' => absurd hb' hb, by simp, k11.2.1.mono fun d hd => ⟨d, hd, .inl rfl⟩⟩
    · rename_i q lo n cp u
      obtain ⟨rfl, hev⟩ := evU_ref hu
      obtain ⟨v3, k1, k4, k5, k6, kk7, kk8⟩ := ev_ok hG hev
      obtain ⟨g, rfl⟩ := erA_ref k1
      obtain ⟨g0, wd, rows1, hc, hs⟩ := k6
      have k3 := hG
      have k9 := Less.refl S
      simp only [IsA] at k4
      have hnear : NearX S x q.root := by
        cases x with
        | tmp s =>
          obtain ⟨e, hl, he⟩ := kk8 s rfl
          rcases he with rfl | ⟨g1, cs1, rfl, hh⟩
          · exact ⟨s, rfl, .inr ⟨_, hl, by simp [rootsE, rootsV]⟩⟩
          · simp at hh
        | const c =>
          exfalso
          simp only [ev] at hev
          unfold evC at hev
          split at hev <;> (try split at hev) <;> simp at hev
        | func f => simp [ev] at hev
        | global g => simp [ev] at hev
      have hheld : ∀ b ∈ ownT (.sl .own g0 wd rows1), Held S x b := fun b hb => ⟨q.root, hnear, getC_slot hc hb⟩
      rw [getC_er, hc] at h
      simp only [Option.map_some, erA, erT] at h
      have hmem := k3.getMem hc
      have hln : lo + n ≤ rows1.length := hs.1
      split at h
      · rename_i hbc
        simp only [Bool.and_eq_true, Bool.not_eq_true'] at hbc
        obtain ⟨hb, hcp⟩ := hbc
        split at h
        · rename_i S2 ht
          simp only [Option.some.injEq, Prod.mk.injEq, erRows_length] at h
          obtain ⟨rfl, rfl, rfl, rfl⟩ := h
          obtain ⟨rfl, rfl, rfl⟩ := hp
          obtain ⟨S', e1, t1, t2, t3, t4, t5, t6, t7⟩ := take_ok k3 ht hc
          subst e1
          have hgg : g = g0 := hs.2.2.2.2.1 hcp rfl rfl
          subst hgg
          have hsub : ∀ b ∈ ownRows rows1, b ∈ ownT (.sl .own g (szOf P (elemOf P t)) rows1) := fun b hb => by simp [ownT, hb]
          have t4' : ∀ b ∈ ownT (.sl .own g (szOf P (elemOf P t)) rows1), b ∈ ownS S ∧ b ∉ ownS S' := fun b hb => ⟨k9.own b (t4 b hb).1, (t4 b hb).2⟩
          refine ⟨g, rows1, S', rfl, rfl, t1, k9.trans t2, by rw [k4]; exact rd_of_mem hmem, by have := hmem.2.2; simpa using this, ?_, fun b hb => t4' b (hsub b hb), fun _ _ => ⟨t5, t3, fun b hb => ⟨t4' b hb, hheld b hb⟩⟩, by simp, t7.2.mono fun y hy => by rw [hy]; exact hnear⟩
          simp only [ownT] at t3
          exact nodup_append_right t3
        · simp at h
      · rename_i hbc
        have hbc' : base = true → cp = true := by
          intro hb
          cases hcp : cp with
          | true => rfl
          | false => simp [hb, hcp] at hbc
        have hcap : base = true → g.cap = n := fun hb => hs.2.2.2.1 (hbc' hb)
        have hlen : ((rows1.drop lo).take n).length = n := by simp; omega
        have her : erRows ((rows1.drop lo).take n) = ((erRows rows1).drop lo).take n := by simp [erRows_map]
        have hm' : memRows w Z true ((rows1.drop lo).take n) := memRows_iff.2 fun r hr => memRows_iff.1 (by have := hmem.2.2; simpa using this : memRows w Z true rows1) r (List.mem_of_mem_drop (List.mem_of_mem_take hr))
        split at h
        · simp only [Option.some.injEq, Prod.mk.injEq] at h
          obtain ⟨rfl, rfl, rfl, rfl⟩ := h
          obtain ⟨rfl, hfl⟩ := hp
          rw [← her] at hfl
          have ho := flat_own hfl
          exact ⟨g, (rows1.drop lo).take n, S, her, rfl, k3, k9, by rw [k4]; exact rd_part hmem hs, hm', by rw [ho]; simp, by rw [ho]; simp, fun hb hb' => by rw [hb] at hb'; simp at hb', fun hb => by rw [hlen]; exact hcap hb, .refl _ S⟩
        · split at h
          · rename_i S2 ht
            simp only [Option.some.injEq, Prod.mk.injEq] at h
            obtain ⟨rfl, rfl, rfl, rfl⟩ := h
            subst hp
            obtain ⟨S', e1, t1, t2, t3, t4, t5⟩ := takeRows_ok k3 ht hc hln
            subst e1
            exact ⟨g, (rows1.drop lo).take n, S', her, rfl, t1, k9.trans t2, by rw [k4]; exact rd_part hmem hs, hm', t3, fun b hb => ⟨k9.own b (t4 b hb).1, (t4 b hb).2⟩, fun hb hb' => by rw [hb] at hb'; simp at hb', fun hb => by rw [hlen]; exact hcap hb, t5.mono fun y hy => by rw [hy]; exact hnear⟩
          · simp at h
    · simp at h
  · simp at h

theorem rd_cells {v : Value} {g : Hd} {wd : Nat} {rows : List (List (Tr Hd))} (h : Rd w v g wd rows) : ∃ olds : List Value, olds.length = rows.length * wd ∧ (∀ A, g.a = some A → ∀ j u, olds[j]? = some u → w.cell? (A.add j) = some u) ∧ (g.a = none → rows = []) ∧
    ∀ (i : Nat) (row : List (Tr Hd)), rows[i]? = some row → row.length = wd ∧ ∀ (j : Nat) (c : Tr Hd), row[j]? = some c → ∃ u, olds[i * wd + j]? = some u ∧ IsT c u := by
  obtain ⟨h1, h2, h3⟩ := h
  by_cases hne : rows = []
  · subst hne
    exact ⟨[], by simp, by simp, fun _ => rfl, by simp⟩
  · obtain ⟨B, off, cs, e, fr, hg, hb, hr⟩ := h3 hne
    have hget : ∀ j, j < rows.length * wd → ∃ u, cs[off + j]? = some u := by
      intro j hj
      have hw : 0 < wd := by
        cases wd with
        | zero => simp at hj
        | succ n => omega
      have hi : j / wd < rows.length := Nat.div_lt_of_lt_mul (by rw [Nat.mul_comm]; exact hj)
      obtain ⟨r1, r2⟩ := hr (j / wd) rows[j / wd] (by simp [hi])
      obtain ⟨u, k1, _⟩ := r2 (j % wd) (rows[j / wd][j % wd]'(by rw [r1]; exact Nat.mod_lt _ hw)) (by simp [r1, Nat.mod_lt _ hw])
      refine ⟨u, ?_⟩
      rw [← k1]
      congr 1
      rw [Nat.mul_comm, Nat.add_assoc, Nat.div_add_mod]
    let olds : List Value := (List.range (rows.length * wd)).map fun j => cs.getD (off + j) undef
    have hold : ∀ j, j < rows.length * wd → olds[j]? = cs[off + j]? := by
      intro j hj
      obtain ⟨u, hu⟩ := hget j hj
      simp [olds, hj, Array.getD_eq_getD_getElem?, hu]
    refine ⟨olds, by simp [olds], fun A hA j u hu => ?_, fun hn => by rw [hg] at hn; simp at hn, fun i row hi => ?_⟩
    · rw [hg] at hA
      simp at hA
      subst hA
      have hj : j < rows.length * wd := by
        have := (List.getElem?_eq_some_iff.1 hu).1
        simpa [olds] using this
      rw [spot_add, cell_eq hb, ← hold j hj]
      exact hu
    · obtain ⟨r1, r2⟩ := hr i row hi
      refine ⟨r1, fun j c hj => ?_⟩
      obtain ⟨u, k1, k2⟩ := r2 j c hj
      refine ⟨u, ?_, k2⟩
      have hjl : j < wd := by rw [← r1]; exact (List.getElem?_eq_some_iff.1 hj).1
      have hil : i < rows.length := (List.getElem?_eq_some_iff.1 hi).1
      have : (i + 1) * wd ≤ rows.length * wd := Nat.mul_le_mul_right _ (by omega)
      rw [Nat.add_mul] at this
      rw [hold _ (by omega), ← k1]
      congr 1
      omega
theorem run_firstCells' {sz n : Nat} {ga : Option Addr} {c m : Nat} {olds : List Value} (hl : olds.length = n * sz) (hc : ∀ A, ga = some A → ∀ j u, olds[j]? = some u → w.cell? (A.add j) = some u) (hn : ga = none → n = 0) : (Builtin.firstCells sz n (.slice ga m c)).run P w = .ok olds.toArray w := by
  cases ga with
  | some A => exact run_firstCells_some w sz n A m c olds hl (hc A rfl)
  | none =>
    have : n = 0 := hn rfl
    subst this
    have : olds = [] := List.eq_nil_of_length_eq_zero (by simpa using hl)
    subst this
    exact run_firstCells_none w sz 0 m c
/-- The arm that grows. -/
theorem run_append_grow' {t ty e : TypeId} {i : TypeInfo} {z : Value} (ht : P.underlying t = some (.slice e)) (hi : P.info? e = some i) (hz : i.zero = some z) {ga gb : Option Addr} {n1 c1 n2 c2 : Nat} {olds news : List Value}
    (h1 : olds.length = n1 * i.size) (h2 : ∀ A, ga = some A → ∀ j u, olds[j]? = some u → w.cell? (A.add j) = some u) (h3 : ga = none → n1 = 0)
    (h4 : news.length = n2 * i.size) (h5 : ∀ A, gb = some A → ∀ j u, news[j]? = some u → w.cell? (A.add j) = some u) (h6 : gb = none → n2 = 0)
    (hg : c1 < n1 + n2) (h63 : n1 + n2 ≤ 70368744177664) (hb : (n1 + n2) * i.bytes ≤ 70368744177664) :
    (Builtin.append_ #[t, t] ty #[.slice ga n1 c1, .slice gb n2 c2]).run P w = .ok (.slice (some ⟨w.heap.size, 0, none⟩) (n1 + n2) (grownCap w (n1 + n2) c1 e)) (w.drew.alloc (.cells (olds.toArray ++ news.toArray ++ Builtin.zeroCells z.cells (grownCap w (n1 + n2) c1 e - (n1 + n2))) e)) := by
  have hn : ¬ (n1 + n2 ≤ c1) := by omega
  have h63' : ¬ (9223372036854775807 < ((n1 : Int) + (n2 : Int))) := by omega
  have hfit := growslice_fits (bytes := i.bytes) hg (by omega)
  have h48' : ¬ (281474976710656 < Builtin.nextslicecap (n1 + n2) c1 * i.bytes) := by omega
  have hf := run_firstCells' (P := P) (w := w.drew) (m := n2) (c := c2) h4 (by simpa using h5) h6
  have hfo := run_firstCells' (P := P) (w := w.drew) (m := n1) (c := c1) h1 (by simpa using h2) h3
  simp [Builtin.append_, run_underlying ht, Go.sizeOf, typeInfo, zeroValue, hi, hz, Builtin.lenOf, hn, h63', h48', Question.forced, hf, hfo, newRow, grownCap]
  congr 2
  apply Array.ext'
  simp [List.append_assoc]
theorem run_append_none {t ty e : TypeId} {i : TypeInfo} (ht : P.underlying t = some (.slice e)) (hi : P.info? e = some i) {ga gb : Option Addr} {n1 c1 c2 : Nat} (hc : n1 ≤ c1) :
    (Builtin.append_ #[t, t] ty #[.slice ga n1 c1, .slice gb 0 c2]).run P w = .ok (.slice ga n1 c1) w := by
  have hf := run_firstCells' (P := P) (w := w) (sz := i.size) (n := 0) (ga := gb) (m := 0) (c := c2) (olds := []) (by simp) (by simp) (fun _ => rfl)
  cases ga <;> simp [Builtin.append_, run_underlying ht, Go.sizeOf, typeInfo, hi, Builtin.lenOf, hc, hf, storeCells]
end Go.HT
end
section
namespace Go.HT
open Go
variable {P : Program} {Z : Zone} {S : St Hd} {a : Act} {w : World} {o : Oper}

/-- A value is laid into a slot; the world has turned where nothing that is told of lies. -/
theorem lands_turn {S1 : St Hd} {w' : World} {v' : AV Hd} {val : Value} (hrun : (execOp a.eval o).run P w = .ok (.value val) w') (hG : Good Z S1 a w) (hl : Less S S1) (hO : Own1 (near S o) S S1)
    (hos : w'.os = w.os) (htp : w'.tape = w.tape) (hout : w'.output = w.output) (hsz : w.heap.size = w'.heap.size)
    (hkeep : ∀ b, b ∈ ownS S1 ∨ Z.b b → w'.heap[b]? = w.heap[b]?) (hblock : ∀ b, b ∉ ownS S → w'.heap[b]? = w.heap[b]?) (htch : ∀ b, ¬ touched S o b → w'.heap[b]? = w.heap[b]?)
    (hd : ∀ d, o.dst = some d → d < a.tmps.size) (h1 : IsA v' val) (h2 : memA w' Z v') (hnd : (ownA v').Nodup) (hz : ∀ b ∈ ownA v', ¬ Z.b b ∧ b < w'.heap.size)
    (hown : ∀ b ∈ ownA v', b ∈ ownS S) (hdis : ∀ b ∈ ownA v', b ∉ ownS S1) (hr : refOk S1 v') : Lands P Z S a w o (putO (erS S1) o.dst (erA v')) := by
  have hG' : Good Z S1 a w' := hG.frame hkeep (by omega) (fun _ _ _ => rfl)
  have hFr : ∀ S2 : St Hd, (∀ b ∈ ownS S2, b ∈ ownS S) → (∀ d g cs, look S1 d = some (.box g cs) → (∃ cs', look S2 d = some (.box g cs') ∧ cs'.length = cs.length) ∨ ∀ A, g.a = some A → A.block ∉ ownS S2) → VirOk S1 S2 → Fr S w S2 w' := by
    intro S2 ho hb hv
    refine ⟨hos, htp, hout, by omega, fun b _ hn => hblock b hn, fun b hb => .inl (ho b hb), fun d g cs A cells e hl0 hg hc => ?_, hl.vir.trans hv⟩
    obtain ⟨cs1, l1, l2⟩ := hl.box d g cs hl0
    have hin : A.block ∈ ownS S1 := look_own l1 _ (by simp [ownE, blk, hg])
    refine ⟨⟨cells, by rw [hkeep _ (.inl hin)]; exact hc, rfl, fun _ _ => rfl⟩, ?_⟩
    rcases hb d g cs1 l1 with ⟨cs2, m1, m2⟩ | hn
    · exact .inl ⟨cs2, m1, m2.trans l2⟩
    · exact .inr (hn A hg)
  cases hdst : o.dst with
  | none => exact ⟨S1, val, w', .inl hrun, by rw [hdst]; exact hG', rfl, hFr S1 hl.own (fun d g cs h => .inl ⟨cs, h, rfl⟩) (.refl S1), fun b _ hb => htch b hb, hO⟩
  | some d =>
    have hr' : refOkE S1 (.tmp v') := hr
    refine ⟨_, val, w', .inl hrun, by rw [hdst]; exact hG'.putE d (.tmp v') (fun _ _ => rfl) (Nat.le_refl _) (fun d' e' hne _ => put_tmp_ne a d d' val hne) (entOk_poi _ ⟨by rw [put_tmp_eq a d val (hd d hdst)]; exact h1, h2⟩) hnd hz (fun b hb hc => hdis b hb (sub_put hG.sorted d hc)) hr',
      (putP_er hG d (.tmp v') hr').symm, hFr _ (fun b hb => ?_) (fun d0 g cs h => ?_) ((virOk_poi _ _).trans (virOk_put _ _ _ (by intro t h; simp [Ent.poi] at h))), fun b _ hb => htch b hb, hO.trans ((own1_poi _ _ S1).trans (own1_put _ _ _ (.inl hdst)))⟩
    · obtain ⟨rest, p1, p2⟩ := put_perm S1 d hG.sorted
      have pe : (ownS (put (poi (badRoot d) S1) d ((Ent.tmp v').poi (badRoot d)))).Perm (ownA v' ++ rest) := by
        rw [ownS_put_poi]; exact (p2 _).trans (by rw [ownE_poi]; rfl)
      rcases List.mem_append.1 (pe.mem_iff.1 hb) with hb | hb
      · exact hown b hb
      · exact hl.own b (p1.mem_iff.2 (by simp [hb]))
    · by_cases hd0 : d0 = d
      · right
        subst hd0
        intro A hg hn
        obtain ⟨rest, p1, p2⟩ := put_perm S1 d0 hG.sorted
        have pe : (ownS (put (poi (badRoot d0) S1) d0 ((Ent.tmp v').poi (badRoot d0)))).Perm (ownA v' ++ rest) := by
          rw [ownS_put_poi]; exact (p2 _).trans (by rw [ownE_poi]; rfl)
        have hin : A.block ∈ ownE (.box g cs : Ent Hd) := by simp [ownE, blk, hg]
        rcases List.mem_append.1 (pe.mem_iff.1 hn) with hb | hb
        · exact hdis _ hb (look_own h _ hin)
        · have := p1.nodup_iff.1 hG.nd
          simp only [oldE, h] at this
          exact nodup_apart this hin hb
      · left
        exact ⟨poiL (badRoot d) cs, by rw [look_put, if_neg hd0, look_poi, h]; rfl, by rw [poiL_map]; simp⟩
theorem setCells_heap (b : Nat) : ∀ (vs : List Value) (off : Nat) (w : World) (cs : Array Value) (e : TypeId), w.heap[b]? = some (.cells cs e (0, 0)) → off + vs.length ≤ cs.size →
    ∃ cs', (w.setCells b off vs).heap[b]? = some (.cells cs' e (0, 0)) ∧ cs'.size = cs.size ∧ (∀ k, k < off → cs'[k]? = cs[k]?) ∧ (∀ j, j < vs.length → cs'[off + j]? = vs[j]?) ∧ (∀ k, k ≠ b → (w.setCells b off vs).heap[k]? = w.heap[k]?) ∧ (w.setCells b off vs).heap.size = w.heap.size ∧
      (w.setCells b off vs).os = w.os ∧ (w.setCells b off vs).tape = w.tape ∧ (w.setCells b off vs).output = w.output
  | [], off, w, cs, e, h, _ => ⟨cs, h, rfl, fun _ _ => rfl, by simp, fun _ _ => rfl, rfl, rfl, rfl, rfl⟩
  | v :: r, off, w, cs, e, h, hl => by
    simp only [List.length_cons] at hl
    obtain ⟨hU1, cs0, e0, hU2, hU3, hU4⟩ := upd_setCell (w := w) (u := v) h (show off < cs.size by omega)
    rw [h] at hU2
    simp at hU2
    obtain ⟨rfl, rfl⟩ := hU2
    obtain ⟨cs', k1, k2, k3, k4, k5, k6, k7, k8, k9⟩ := setCells_heap b r (off + 1) (w.setCell ⟨b, off, none⟩ v) _ _ hU4 (by simp; omega)
    refine ⟨cs', k1, by rw [k2]; simp, fun k hk => ?_, fun j hj => ?_, fun k hk => by rw [World.setCells, k5 k hk, hU1 k hk], by rw [World.setCells, k6, setCell_size], k7, k8, k9⟩
    · rw [k3 k (by omega), Array.getElem?_setIfInBounds_ne (by first | omega | (simp only; omega))]
    · cases j with
      | zero =>
        rw [Nat.add_zero, k3 off (by omega)]
        simp only [List.getElem?_cons_zero]
        rw [Array.getElem?_setIfInBounds_self_of_lt (by first | omega | (simp only; omega))]
      | succ j =>
        simp only [List.length_cons] at hj
        have := k4 j (by omega)
        rw [show off + (j + 1) = off + 1 + j by omega, this]
        simp
theorem news_oneCell {rows : List (List (Tr Hd))} {news : List Value} {wd : Nat} (hd : defRows (erRows rows) = true) (hl : news.length = rows.length * wd) (h : ∀ (i : Nat) (row : List (Tr Hd)), rows[i]? = some row → row.length = wd ∧ ∀ (j : Nat) (c : Tr Hd), row[j]? = some c → ∃ u, news[i * wd + j]? = some u ∧ IsT c u) : ∀ u ∈ news, u.oneCell' = true := by
  intro u hu
  obtain ⟨k, hk⟩ := List.getElem?_of_mem hu
  have hkl : k < rows.length * wd := by rw [← hl]; exact (List.getElem?_eq_some_iff.1 hk).1
  have hw : 0 < wd := by
    cases wd with
    | zero => simp at hkl
    | succ n => omega
  have hi : k / wd < rows.length := Nat.div_lt_of_lt_mul (by rw [Nat.mul_comm]; exact hkl)
  have hri : rows[k / wd]? = some rows[k / wd] := by simp [hi]
  obtain ⟨r1, r2⟩ := h _ _ hri
  have hcj : rows[k / wd][k % wd]? = some (rows[k / wd][k % wd]'(by rw [r1]; exact Nat.mod_lt _ hw)) := by simp [r1, Nat.mod_lt _ hw]
  obtain ⟨u', k1, k2⟩ := r2 _ _ hcj
  rw [Nat.mul_comm, Nat.div_add_mod, hk] at k1
  simp at k1
  subst k1
  have h1 := List.all_eq_true.1 hd (erRow rows[k / wd]) (by rw [erRows_map]; exact List.mem_map.2 ⟨_, List.mem_of_getElem? hri, rfl⟩)
  have h2 := List.all_eq_true.1 h1 (erT _) (by rw [erRow_map]; exact List.mem_map.2 ⟨_, List.mem_of_getElem? hcj, rfl⟩)
  generalize (rows[k / wd][k % wd]'(by rw [r1]; exact Nat.mod_lt _ hw)) = c at k2 h2
  cases c with
  | undef => simp [erT] at h2
  | _ => simp only [IsT] at k2; rw [k2]; rfl
theorem memRows_append {al : Bool} {l m : List (List (Tr Hd))} (h1 : memRows w Z al l) (h2 : memRows w Z al m) : memRows w Z al (l ++ m) :=
  memRows_iff.2 fun r hr => (List.mem_append.1 hr).elim (memRows_iff.1 h1 r) (memRows_iff.1 h2 r)
theorem erRows_append (l m : List (List (Tr Hd))) : erRows (l ++ m) = erRows l ++ erRows m := by simp [erRows_map]
/-- Rows behind one another. -/
theorem rows_both {r1 r2 : List (List (Tr Hd))} {olds news : List Value} {wd : Nat} (hl : olds.length = r1.length * wd)
    (h1 : ∀ (i : Nat) (row : List (Tr Hd)), r1[i]? = some row → row.length = wd ∧ ∀ (j : Nat) (c : Tr Hd), row[j]? = some c → ∃ u, olds[i * wd + j]? = some u ∧ IsT c u)
    (h2 : ∀ (i : Nat) (row : List (Tr Hd)), r2[i]? = some row → row.length = wd ∧ ∀ (j : Nat) (c : Tr Hd), row[j]? = some c → ∃ u, news[i * wd + j]? = some u ∧ IsT c u) :
    ∀ (i : Nat) (row : List (Tr Hd)), (r1 ++ r2)[i]? = some row → row.length = wd ∧ ∀ (j : Nat) (c : Tr Hd), row[j]? = some c → ∃ u, (olds ++ news)[i * wd + j]? = some u ∧ IsT c u := by
  intro i row hi
  by_cases hlt : i < r1.length
  · rw [List.getElem?_append_left hlt] at hi
    obtain ⟨k1, k2⟩ := h1 i row hi
    refine ⟨k1, fun j c hj => ?_⟩
    obtain ⟨u, m1, m2⟩ := k2 j c hj
    exact ⟨u, by rw [List.getElem?_append_left (List.getElem?_eq_some_iff.1 m1).1]; exact m1, m2⟩
  · rw [List.getElem?_append_right (by omega)] at hi
    obtain ⟨k1, k2⟩ := h2 _ row hi
    refine ⟨k1, fun j c hj => ?_⟩
    obtain ⟨u, m1, m2⟩ := k2 j c hj
    have hle : r1.length * wd ≤ i * wd := Nat.mul_le_mul_right _ (by omega)
    refine ⟨u, ?_, m2⟩
    rw [List.getElem?_append_right (by omega), ← m1]
    congr 1
    rw [Nat.sub_mul]
    omega
section
variable (hG : Good Z S a w) (hd : ∀ d, o.dst = some d → d < a.tmps.size) {U : US} {p : Prop}
include hG hd
theorem xAppend_ok {b x : Operand} (hb0 : b ∈ o.op.operands) (hx0 : x ∈ o.op.operands) {t t' ty : TypeId} (hrun : ∀ v w', (Builtin.append_ #[t, t'] ty #[a.eval b, a.eval x]).run P w = .ok v w' → (execOp a.eval o).run P w = .ok (.value v) w') (h : xAppend P (erS S) o.dst b x t t' = some (p, ⟨U⟩)) (hp : p) : Lands P Z S a w o U := by
  unfold xAppend at h
  split at h
  · rename_i p1 al r1 S1 h1
    split at h
    · rename_i p2 al2 r2 S2 h2
      simp only [retIf, Option.some.injEq, Prod.mk.injEq, W.mk.injEq] at h
      obtain ⟨rfl, rfl⟩ := h
      obtain ⟨q1, q2, q3, q4, rfl, q6, q7, q8⟩ := hp
      obtain ⟨g1, rows1, S1', e1, e1', G1, L1, R1, M1, N1, O1, B1, C1, D1⟩ := rowsUsed_ok hG h1 q1
      subst e1 e1'
      obtain ⟨g2, rows2, S2', e2, e2', G2, L2, R2, M2, N2, O2, _, _, D2⟩ := rowsUsed_ok G1 h2 q2
      subst e2 e2'
      rw [erRows_length, erRows_length] at q7 q8
      obtain ⟨s1, s2⟩ := slOk_spec q4
      obtain ⟨i, z, d, i1, i2, i3, i4, i5, i6, i7, _⟩ := tyOk_spec s2
      have hbytes : bytesOf P (elemOf P t') = i.bytes := by simp [HT.bytesOf, i1]
      rw [hbytes] at q7
      obtain ⟨olds, o1, o2, o3, o4⟩ := rd_cells R1
      obtain ⟨news, n1, n2, n3, n4⟩ := rd_cells R2
      have hboth := rows_both o1 o4 n4
      have hL := L1.trans L2
      have hO : Own1 (near S o) S S2' := (D1.mono fun y ⟨s, hs, hy⟩ => .inr ⟨s, hs ▸ hb0, hy⟩).trans (D2.mono fun y ⟨s, hs, hy⟩ => .inr ⟨s, hs ▸ hx0, hy.imp id fun ⟨e, he, hye⟩ => by
        obtain ⟨e0, h0, hr0⟩ := L1.roots s e he
        exact ⟨e0, h0, hr0 y hye⟩⟩)
      have hnd12 : (ownRows (rows1 ++ rows2)).Nodup := by
        rw [ownRows_append]
        refine List.nodup_append.2 ⟨N1, N2, fun y hy z hz hyz => ?_⟩
        subst hyz
        exact (O1 y hy).2 (O2 y hz).1
      have hown12 : ∀ b ∈ ownRows (rows1 ++ rows2), b ∈ ownS S ∧ b ∉ ownS S2' := by
        intro b hb
        rw [ownRows_append] at hb
        rcases List.mem_append.1 hb with hb | hb
        · exact ⟨(O1 b hb).1, fun hc => (O1 b hb).2 (L2.own b hc)⟩
        · exact ⟨L1.own b (O2 b hb).1, (O2 b hb).2⟩
      rw [← erRows_append]
      have hv1 := R1.1
      have hv2 := R2.1
      by_cases hroom : rows1.length + rows2.length ≤ g1.cap
      · by_cases h0 : rows2 = []
        · -- nothing is appended
          subst h0
          have hal : al = false := by
            cases hal : al with
            | false => rfl
            | true => exact absurd rfl (q3 hal)
          obtain ⟨b1, b2, b3⟩ := B1 rfl hal
          have hr := hrun _ w (by rw [hv1, hv2]; exact run_append_none s1 i1 (by simpa using hroom))
          rw [List.append_nil]
          exact lands_put (v' := .tr (.sl .own g1 (szOf P (elemOf P t')) rows1)) hr G2 hL hO (.refl w) hd rfl b1 b2 (fun b hb => hG.zn b (b3 b hb).1.1) (fun b hb => .inl (b3 b hb).1.1) (fun b hb hc => (b3 b hb).1.2 (L2.own b hc)) trivial
        · have hal : al = false := by
            cases hal : al with
            | false => rfl
            | true =>
              have := C1 hal
              have hpos : 0 < rows2.length := by cases rows2 with | nil => exact absurd rfl h0 | cons => simp
              omega
          obtain ⟨b1, b2, b3⟩ := B1 rfl hal
          have hpos : 0 < rows2.length := by cases rows2 with | nil => exact absurd rfl h0 | cons => simp
          obtain ⟨B2, off2, cs2, e2, fr2, hg2, hb2, _⟩ := R2.2.2 h0
          have hg1 : ∃ B off, g1.a = some ⟨B, off, none⟩ := by
            cases hg : g1.a with
            | none => have := (b1.1.1 hg).2; omega
            | some A =>
              obtain ⟨B, off, sp⟩ := A
              have := (b1.1.2 _ hg).1
              simp only at this
              subst this
              exact ⟨B, off, rfl⟩
          obtain ⟨B, off, hg1⟩ := hg1
          obtain ⟨m1, m2, m3, cs, e, fr, m4, m5, m6⟩ := b1.1.2 _ hg1
          obtain ⟨rfl, m5'⟩ := m5 rfl
          clear m5
          have m5 : off + g1.cap * szOf P (elemOf P t') ≤ cs.size := m5'
          clear m5'
          simp only at m3 m4 m6
          have hfit : off + rows1.length * szOf P (elemOf P t') + news.length ≤ cs.size := by
            rw [n1]
            have : (rows1.length + rows2.length) * szOf P (elemOf P t') ≤ g1.cap * szOf P (elemOf P t') := Nat.mul_le_mul_right _ hroom
            rw [Nat.add_mul] at this
            omega
          obtain ⟨cs', k1, k2, k3, k4, k5, k6, k7, k8, k9⟩ := setCells_heap B news (off + rows1.length * szOf P (elemOf P t')) w cs e m4 hfit
          have hone := news_oneCell q6 n1 n4
          have hr := run_append_room_cells (P := P) w t' ty (elemOf P t') i s1 i1 B off rows1.length g1.cap ⟨B2, off2, none⟩ rows2.length g2.cap news (by rw [n1, i5]) (fun j u hu => n2 _ hg2 j u hu) hone hroom
            (fun j hj => by rw [i5, cell_eq m4, Array.getElem?_eq_getElem (by omega)]; rfl) (fun j hj => by simp only [World.frozen?, m4]; simp)
          have hv : (Builtin.append_ #[t', t'] ty #[a.eval b, a.eval x]).run P w = .ok (.slice g1.a (rows1 ++ rows2).length g1.cap) (w.setCells B (off + rows1.length * szOf P (elemOf P t')) news) := by
            rw [hv1, hv2, hg1, hg2, hr, i5]; simp
          have hBown : B ∈ ownT (.sl .own g1 (szOf P (elemOf P t')) rows1) := by simp [ownT, hg1]
          have hBS := (b3 B hBown).1
          have hBT : touched S o B := by
            obtain ⟨y, ⟨s, hs, hy⟩, hB⟩ := (b3 B hBown).2
            exact ⟨y, .inr ⟨s, hs ▸ hb0, hy⟩, hB⟩
          have hB2 : B ∉ ownS S2' := fun hc => hBS.2 (L2.own B hc)
          have hBZ : ¬ Z.b B := m3
          have hBr1 : B ∉ ownRows rows1 := by
            simp only [ownT, hg1] at b2
            exact nodup_apart b2 (by simp)
          have hBr2 : B ∉ ownRows rows2 := fun hc => hBS.2 (O2 B hc).1
          have hnew : ownT (.sl .own g1 (szOf P (elemOf P t')) (rows1 ++ rows2)) = B :: ownRows (rows1 ++ rows2) := by simp [ownT, hg1]
          have hBr12 : B ∉ ownRows (rows1 ++ rows2) := by rw [ownRows_append]; simp [hBr1, hBr2]
          have := lands_turn (v' := .tr (.sl .own g1 (szOf P (elemOf P t')) (rows1 ++ rows2))) (hrun _ _ hv) G2 hL hO k7 k8 k9 k6.symm
            (fun b hb => k5 b (by rintro rfl; exact hb.elim hB2 hBZ)) (fun b hb => k5 b (by rintro rfl; exact hb hBS.1)) (fun b hb => k5 b (by rintro rfl; exact hb hBT)) hd rfl ?_ ?_ ?_ ?_ ?_ trivial
          · exact this
          · refine ⟨⟨fun hn => by rw [hg1] at hn; simp at hn, fun A hA => ?_⟩, fun _ => rfl, ?_⟩
            · rw [hg1] at hA
              simp at hA
              subst hA
              refine ⟨rfl, by simpa using hroom, hBZ, cs', e, (0, 0), k1, fun _ => ⟨rfl, by rw [k2]; exact m5⟩, fun i' row hi => ?_⟩
              obtain ⟨r1, r2⟩ := hboth i' row hi
              refine ⟨r1, fun j c hj => ?_⟩
              have hjl : j < szOf P (elemOf P t') := by rw [← r1]; exact (List.getElem?_eq_some_iff.1 hj).1
              by_cases hlt : i' < rows1.length
              · rw [List.getElem?_append_left hlt] at hi
                obtain ⟨v, p1, p2⟩ := (m6 i' row hi).2 j c hj
                have hle : (i' + 1) * szOf P (elemOf P t') ≤ rows1.length * szOf P (elemOf P t') := Nat.mul_le_mul_right _ (by omega)
                rw [Nat.add_mul] at hle
                exact ⟨v, by simp only; rw [k3 _ (by omega)]; exact p1, p2⟩
              · obtain ⟨u, p1, p2⟩ := r2 j c hj
                have hle : rows1.length * szOf P (elemOf P t') ≤ i' * szOf P (elemOf P t') := Nat.mul_le_mul_right _ (by omega)
                rw [List.getElem?_append_right (by omega)] at p1
                refine ⟨u, ?_, p2⟩
                have hnl := (List.getElem?_eq_some_iff.1 p1).1
                have := k4 _ hnl
                rw [p1] at this
                rw [← this]
                simp only
                congr 1
                omega
            · refine memRows_frame true _ (fun b' hb => k5 b' ?_) (memRows_append M1 M2)
              rintro rfl
              rcases hb with hb | hb
              · exact hBr12 hb.2
              · exact hBZ hb
          · rw [show ownA (.tr (.sl .own g1 (szOf P (elemOf P t')) (rows1 ++ rows2))) = B :: ownRows (rows1 ++ rows2) from hnew]
            exact List.nodup_cons.2 ⟨hBr12, hnd12⟩
          · intro b' hb
            rw [show ownA (.tr (.sl .own g1 (szOf P (elemOf P t')) (rows1 ++ rows2))) = B :: ownRows (rows1 ++ rows2) from hnew] at hb
            rw [k6]
            rcases List.mem_cons.1 hb with rfl | hb
            · exact hG.zn _ hBS.1
            · exact hG.zn _ (hown12 b' hb).1
          · intro b' hb
            rw [show ownA (.tr (.sl .own g1 (szOf P (elemOf P t')) (rows1 ++ rows2))) = B :: ownRows (rows1 ++ rows2) from hnew] at hb
            rcases List.mem_cons.1 hb with rfl | hb
            · exact hBS.1
            · exact (hown12 b' hb).1
          · intro b' hb
            rw [show ownA (.tr (.sl .own g1 (szOf P (elemOf P t')) (rows1 ++ rows2))) = B :: ownRows (rows1 ++ rows2) from hnew] at hb
            rcases List.mem_cons.1 hb with rfl | hb
            · exact hB2
            · exact (hown12 b' hb).2
      · have hgr := run_append_grow' (P := P) (w := w) (ty := ty) s1 i1 i2 (c2 := g2.cap) (by rw [o1, i5]) o2 (fun hn => by rw [o3 hn]; rfl) (by rw [n1, i5]) n2 (fun hn => by rw [n3 hn]; rfl) (show g1.cap < rows1.length + rows2.length by omega) q8 q7
        have hr := hrun _ _ (by rw [hv1, hv2]; exact hgr)
        have hcapn := grownCap_ge w (rows1.length + rows2.length) g1.cap (elemOf P t')
        have hzs : z.cells.size = szOf P (elemOf P t') := by
          have := (zero_rows i4 w Z)
          obtain ⟨_, _, _, _, _, hz⟩ := this
          omega
        refine lands_row (wd := szOf P (elemOf P t')) hr hG G2 hL hO ⟨rfl, rfl, rfl, by simp, fun b hb => heap_alloc_old w.drew _ b hb⟩ (heap_alloc_new w.drew _) hd (by simp) hcapn ?_ (fun i' row hi => ?_) (memRows_append M1 M2) hnd12 hown12
        · simp only [Array.size_append, List.size_toArray, size_zeroCells, hzs, o1, n1, ← Nat.add_mul]
          exact Nat.le_of_eq (by congr 1; omega)
        · obtain ⟨k1, k2⟩ := hboth i' row hi
          refine ⟨k1, fun j c hj => ?_⟩
          obtain ⟨u, p1, p2⟩ := k2 j c hj
          have hnl := (List.getElem?_eq_some_iff.1 p1).1
          refine ⟨u, ?_, p2⟩
          rw [Array.getElem?_append_left (by simpa using hnl)]
          simpa using p1
    · simp at h
  · simp at h
end
end Go.HT
end
section
namespace Go.HT
open Go
variable {P : Program} {Z : Zone} {S : St Hd} {a : Act} {w : World} {o : Oper}
theorem call_builtin {c : Call} {b : Builtin} (hop : o.op = .call c) (hc : c.callee = .builtin b) (w : World) : (execOp a.eval o).run P w = (builtin b c.argTypes o.type (c.args.map fun | .const _ => true | _ => false) (c.args.map a.eval)).run P w := by
  simp [execOp, hop, Go.resolve, hc, invoke]; rfl
theorem bytesTy_spec {t : TypeId} (h : bytesTy P t = true) : ∃ e, P.underlying t = some (.slice e) ∧ P.underlying e = some (.int .u8) := by
  unfold bytesTy at h
  split at h
  · rename_i e he
    split at h
    · rename_i h2; exact ⟨e, he, h2⟩
    · simp at h
  · simp at h
theorem u8s_ok : ∀ {rows : List (List (Tr Hd))} {ns : List Int}, u8s (erRows rows) = some ns → rows = ns.map fun n => [.int .u8 n]
  | [], ns, h => by simp [erRows, u8s] at h; subst h; rfl
  | row :: r, ns, h => by
    simp only [erRows] at h
    unfold u8s at h
    split at h
    · rename_i heq; simp at heq
    · rename_i n r' heq
      simp only [List.cons.injEq] at heq
      obtain ⟨h1, rfl⟩ := heq
      split at h
      · rename_i l hl
        simp at h; subst h
        have hrow : row = [.int .u8 n] := by
          match row with
          | [] => simp [erRow] at h1
          | [t] =>
            simp only [erRow, List.cons.injEq, and_true] at h1
            rw [erT_int h1]
          | t :: u :: rr => simp [erRow] at h1
        simp [hrow, u8s_ok hl]
      · simp at h
    · simp at h
theorem intTy_spec {t : TypeId} {k : IntKind} (h : intTy P t = some k) : P.underlying t = some (.int k) := by
  unfold intTy at h
  split at h
  · rename_i k' hk; simp at h; subst h; exact hk
  · simp at h
theorem run_conv_int {src dst : TypeId} {k k' : IntKind} {n : Int} (hs : (P.underlying src).isSome = true) (hd : intTy P dst = some k) (hr : inR k n) (w : World) : (convert src dst (.int k' n)).run P w = .ok (.int k n) w := by
  have h1 := intTy_spec hd
  obtain ⟨d, hd'⟩ := Option.isSome_iff_exists.mp hs
  simp [convert, run_underlying hd', run_underlying h1, Conv.intToInt, wrap_of_inR hr]
/-- What a slice that is read holds. -/
theorem rows_read (hG : Good Z S a w) {x : Operand} {v : UV} {rows : List (List UT)} (hv : ev P (erS S) 0 x = some v) (hr : rowsOf (erS S) v = some rows) : ∃ (g : Hd) (wd : Nat) (rows' : List (List (Tr Hd))), erRows rows' = rows ∧ Rd w (a.eval x) g wd rows' ∧ (g.a = none → rows' = []) ∧ ∀ A, g.a = some A → A.spot = none := by
  obtain ⟨v', h1, h2, h3, h4, _⟩ := ev_ok hG hv
  unfold rowsOf at hr
  split at hr
  · rename_i κ u wd rows0
    obtain ⟨t', rfl, ht⟩ := erA_tr h1
    obtain ⟨g, rows', rfl, rfl⟩ := erT_sl ht
    simp at hr; subst hr
    simp only [IsA, IsT] at h2
    rw [h2]
    exact ⟨g, wd, rows', rfl, rd_of_mem h3, fun hg => (h3.1.1 hg).1, fun A hA => (h3.1.2 A hA).1⟩
  · rename_i q lo n cp u
    obtain ⟨g, rfl⟩ := erA_ref h1
    obtain ⟨g0, w0, rows0, hc, hs⟩ := h4
    simp only [getC_er, hc, Option.map_some, erA, erT, Option.some.injEq] at hr
    subst hr
    simp only [IsA] at h2
    rw [h2]
    refine ⟨g, w0, (rows0.drop lo).take n, by rw [erRows_map, erRows_map, List.map_take, List.map_drop], rd_part (hG.getMem hc) hs, fun hg => ?_, fun A hA => (hs.2.2.2.2.2.1 A hA).1⟩
    have hcap := hs.2.2.2.2.2.2 hg
    have hn : n = 0 := by have := hs.2.2.1; omega
    subst hn; simp
  · simp at hr
theorem xConvert_ok (hG : Good Z S a w) (hd : ∀ d, o.dst = some d → d < a.tmps.size) {src dst : TypeId} {x : Operand} {U : US} {p : Prop} (hop : o.op = .convert src dst x) (h : xConvert P (erS S) o.dst src dst x = some (p, ⟨U⟩)) (hp : p) : Lands P Z S a w o U := by
  unfold xConvert at h
  split at h
  · rename_i k hk
    split at h
    · rename_i k' n hv
      simp only [retIf, Option.some.injEq, Prod.mk.injEq, W.mk.injEq] at h
      obtain ⟨rfl, rfl⟩ := h
      have e1 := ev_int hG hv
      exact lands_plain (v' := .tr (.int k n)) (val := .int k n) (by simp [execOp, hop, e1, run_conv_int hp.1 hk hp.2]) hG hd rfl trivial rfl trivial
    · simp at h
  · split at h
    · rename_i v hv
      split at h
      · rename_i rows hrows
        split at h
        · rename_i ns hns
          simp only [retIf, Option.some.injEq, Prod.mk.injEq, W.mk.injEq] at h
          obtain ⟨rfl, rfl⟩ := h
          obtain ⟨e, he1, he2⟩ := bytesTy_spec hp.1
          obtain ⟨g, wd, rows', rfl, ⟨r1, r2, r3⟩, r4, r5⟩ := rows_read hG hv hrows
          have hrw := u8s_ok hns
          have hrun : (convert src dst (a.eval x)).run P w = .ok (.string ⟨⟨ns.map fun n => UInt8.ofNat n.toNat⟩⟩) w := by
            rw [r1]
            cases hga : g.a with
            | none =>
              have h0 := r4 hga
              rw [h0] at hrw
              have : ns = [] := by simpa using hrw.symm
              subst this
              exact run_convert_bytes_nil (P := P) w src e he1 he2 _ _ dst (strOk_spec hp.2)
            | some A =>
              by_cases hne : rows' = []
              · have : ns = [] := by rw [hne] at hrw; simpa using hrw.symm
                subst this
                rw [hne]
                obtain ⟨bb, oo, sp⟩ := A
                have := r5 _ hga
                simp only at this
                subst this
                exact run_convert_bytes_arg (P := P) w src e he1 he2 bb oo 0 g.cap [] rfl (by simp) dst (strOk_spec hp.2)
              · obtain ⟨B, off, cs, e0, fr, k1, k2, k3⟩ := r3 hne
                rw [hga] at k1; simp at k1; subst k1
                have hwd : wd = 1 := by
                  cases hr : rows' with
                  | nil => exact absurd hr hne
                  | cons row rr =>
                    have := (k3 0 row (by rw [hr]; rfl)).1
                    rw [hr] at hrw
                    cases ns with
                    | nil => simp at hrw
                    | cons n nr => simp at hrw; rw [hrw.1] at this; simpa using this.symm
                subst hwd
                have := run_convert_bytes_arg (P := P) w src e he1 he2 B off rows'.length g.cap ns (by rw [hrw]; simp) (fun i hi => by
                  have hi2 : i < ns.length := by rw [hrw] at hi; simpa using hi
                  obtain ⟨_, q2⟩ := k3 i [.int .u8 ns[i]] (by rw [hrw]; simp [hi2])
                  obtain ⟨u, u1, u2⟩ := q2 0 (.int .u8 ns[i]) rfl
                  rw [cell_eq k2, show off + i = off + i * 1 + 0 by omega, u1]
                  simp only [IsT] at u2
                  simp [u2, List.getD, hi2]) dst (strOk_spec hp.2)
                exact this
          exact lands_plain (v' := .tr (.str (ns.map fun n : Int => UInt8.ofNat n.toNat))) (val := .string ⟨⟨ns.map fun n : Int => UInt8.ofNat n.toNat⟩⟩) (by simp [execOp, hop, hrun]) hG hd rfl trivial rfl trivial
        · simp at h
      · simp at h
    · simp at h
/-- Every operation lands where the interpreter says. -/
theorem exec1_ok (hG : Good Z S a w) (hd : ∀ d, o.dst = some d → d < a.tmps.size) {br : Nat → Bool} {U : US} {p : Prop} (h : exec1 P br (erS S) o = some (p, ⟨U⟩)) (hp : p) : Lands P Z S a w o U := by
  unfold exec1 at h
  split at h
  · rename_i hop; exact xMove_ok hG hd hop h
  · rename_i hop; exact xAssign_ok hG hd hop h
  · rename_i hop; exact xPick_ok hG hd hop h
  · rename_i hop; exact xAlloc_ok hG hd hop h hp
  · rename_i hop; exact xBox_ok hG hd hop h
  · rename_i hop; exact xLoad_ok hG hd hop h hp
  · rename_i hop
    split at h
    · rename_i hdst; exact xStore_ok hG hop hdst h hp
    · simp at h
  · rename_i hop; exact xNil_ok hG hd hop h
  · rename_i hop; exact xBin_ok hG hd hop h hp
  · rename_i hop; exact xUn_ok hG hd hop h hp
  · rename_i hop; exact xField_ok hG hd hop h hp
  · rename_i hop; exact xIndexAddr_ok hG hd hop h hp
  · rename_i hop; exact xIndex_ok hG hd hop h hp
  · rename_i hop; exact xExtract_ok hG hd hop h
  · rename_i hop; exact xBuild_ok hG hd hop h hp
  · rename_i hop; exact xBuildSlice_ok hG hd hop h hp
  · rename_i hop; exact xMakeSlice_ok hG hd hop h hp
  · rename_i fn first caps hop
    split at h
    · rename_i h0
      have : first = #[] := Array.eq_empty_of_size_eq_zero h0
      subst this
      exact xMakeFunc_ok hG hd hop h
    · simp at h
  · rename_i hop; exact xIface_ok hG hd hop h hp
  · rename_i hop; exact xSlice_ok hG hd hop h hp
  · rename_i c hop
    split at h
    · rename_i b hc
      have hcall := call_builtin (P := P) (a := a) hop hc w
      unfold xBuiltin at h
      split at h
      · split at h
        · rename_i x t hx ht
          have ha : c.args = #[x] := by apply Array.ext'; simpa using hx
          have hta : c.argTypes = #[t] := by apply Array.ext'; simpa using ht
          refine xLen_ok hG hd (ty := o.type) (fun v hv => ?_) h hp
          rw [hcall, ha, hta]
          simp [builtin, hv]
        · simp at h
      · split at h
        · rename_i x y t t' hx ht
          have ha : c.args = #[x, y] := by apply Array.ext'; simpa using hx
          have hta : c.argTypes = #[t, t'] := by apply Array.ext'; simpa using ht
          refine xAppend_ok hG hd (ty := o.type) (by simp [hop, Op.operands, Call.operands, ha, hc]) (by simp [hop, Op.operands, Call.operands, ha, hc]) (fun v w' hv => ?_) h hp
          rw [hcall, ha, hta]
          simp [builtin, hv]
        · simp at h
      · split at h
        · rename_i x y hx
          have ha : c.args = #[x, y] := by apply Array.ext'; simpa using hx
          refine xMin_ok hG hd (ts := c.argTypes) (ty := o.type) (fun v hv => ?_) h
          rw [hcall, ha]
          simp [builtin, hv]
        · simp at h
      · split at h
        · rename_i x y hx
          have ha : c.args = #[x, y] := by apply Array.ext'; simpa using hx
          refine xMax_ok hG hd (ts := c.argTypes) (ty := o.type) (fun v hv => ?_) h
          rw [hcall, ha]
          simp [builtin, hv]
        · simp at h
      · simp at h
    · simp at h
  · rename_i hop; exact xConvert_ok hG hd hop h hp
  · simp at h
end Go.HT
end
section
namespace Go.HT
open Go

inductive Out
  | normal
  | exit (id : Nat)
  | ret

section
variable (P : Program)
/-- What a callee may be told of a value: all that is owned is lent. -/
def lend (S : US) : UV → Option UV
  | .tr t => some (.tr (boT t))
  | .ref q lo n cp g => match getC S q with
    | some (.tr (.sl .own _ w rows)) => some (.tr (.sl .bo () w (boRows ((rows.drop lo).take n))))
    | _ => none
  | .psh r i g => some (.psh r i g)
  | _ => none
def lendL (S : US) : List UV → Option (List UV)
  | [] => some []
  | c :: r => match lend S c, lendL S r with
    | some c, some r => some (c :: r)
    | _, _ => none
def lendV (S : US) : UV → Option UV
  | .agg cs => match lendL S cs with | some cs => some (.agg cs) | none => none
  | v => lend S v
/-! ### What a call is handed -/
/-- Trees that are there. -/
def defd : List UV → Bool
  | [] => true
  | .tr .undef :: _ => false
  | .tr _ :: r => defd r
  | _ => false
def badBox (r : Nat) (q : Place) (isRef : Bool) : Bool := q.root == r && (isRef || !q.st.isEmpty)
/-- A box's cells are handed on. -/
def giveBox (S : US) (r : Nat) : Option (List UV × US) := match look S r with
  | some (.box _ cs) => if defd cs = true ∧ cs.isEmpty = false then some (cs, put (if ownL cs then poi (badBox r) S else S) r (.box () (cs.map fun _ => .tr .undef))) else none
  | _ => none
/-- Slices that are handed on to be written into. -/
def giveVs : List Place → US → Nat → List UV → Option (List UV × List UT × List Place × US)
  | _, S, _, [] => some ([], [], [], S)
  | V, S, k, .ref q lo n cp _ :: r => match getC S q with
    | some (.tr (.sl .own _ w rows)) => if lo = 0 ∧ n = rows.length ∧ cp = false ∧ (V.all fun q' => !thru q q') = true then (match take S q with
      | some S1 => match giveVs (q :: V) S1 (k + 1) r with
        | some (cs, ts, qs, S2) => some (.ref ⟨k, [], 0⟩ 0 n false () :: cs, .sl .own () w rows :: ts, q :: qs, S2)
        | none => none
      | none => none) else none
    | _ => none
  | V, S, k, .tr t :: r => if ownV (.tr t) then none else match giveVs V S k r with
    | some (cs, ts, qs, S2) => some (.tr (boT t) :: cs, ts, qs, S2)
    | none => none
  | _, _, _, _ => none
/-- What is taken over. -/
def passTake (md : Nat → Nat) : Nat → US → List (Operand × TypeId) → Option (List (Option UE) × US)
  | _, S, [] => some ([], S)
  | i, S, (x, t) :: r => if md i = 1 then (match cellsUsed P S t x with
      | some (cs, S1) => match passTake md (i + 1) S1 r with
        | some (es, S2) => match ev P S t x with
          | some (.agg _) => some (some (.tmp (.agg (cs.map .tr))) :: es, S2)
          | _ => match cs with
            | [c] => some (some (.tmp (.tr c)) :: es, S2)
            | _ => none
        | none => none
      | none => none)
    else match passTake md (i + 1) S r with
      | some (es, S2) => some (none :: es, S2)
      | none => none
/-- Boxes behind pointers. -/
def passBox (md : Nat → Nat) : Nat → US → List (Operand × TypeId) → Option (List (Option UE) × List Nat × US)
  | _, S, [] => some ([], [], S)
  | i, S, (x, t) :: r => if md i = 3 then (match ev P S t x with
      | some (.ptr q _) => if q.st = [] ∧ q.off = 0 then (match giveBox S q.root with
        | some (cs, S1) => match passBox md (i + 1) S1 r with
          | some (es, bs, S2) => some (some (.box () cs) :: es, q.root :: bs, S2)
          | none => none
        | none => none) else none
      | _ => none)
    else match passBox md (i + 1) S r with
      | some (es, bs, S2) => some (none :: es, bs, S2)
      | none => none
def cellsAt (x : Operand) (v : UV) : List UV := match x with
  | .tmp d => cellsOf (bor d v)
  | _ => cellsOf v
def passVir (md : Nat → Nat) : Nat → List Place → US → Nat → List (Operand × TypeId) → Option (List (Option UE) × List UT × List Place × US)
  | _, _, S, _, [] => some ([], [], [], S)
  | i, V, S, k, (x, t) :: r => if md i = 2 then (match ev P S t x with
      | some v => match giveVs V S k (cellsAt x v) with
        | some (cs, ts, qs, S1) => match passVir md (i + 1) (qs ++ V) S1 (k + ts.length) r with
          | some (es, ts2, qs2, S2) => match v with
            | .agg _ => some (some (.tmp (.agg cs)) :: es, ts ++ ts2, qs ++ qs2, S2)
            | _ => match cs with
              | [c] => some (some (.tmp c) :: es, ts ++ ts2, qs ++ qs2, S2)
              | _ => none
          | none => none
        | none => none
      | none => none)
    else match passVir md (i + 1) V S k r with
      | some (es, ts, qs, S2) => some (none :: es, ts, qs, S2)
      | none => none
/-- What is left is lent. -/
def finish (S : US) : List (Operand × TypeId) → List (Option UE) → List (Option UE) → List (Option UE) → Option (List UE)
  | (x, t) :: r, a :: A, b :: B, c :: C => match finish S r A B C with
    | some es => (match a with
      | some e => some (e :: es)
      | none => match b with
        | some e => some (e :: es)
        | none => match c with
          | some e => some (e :: es)
          | none => match ev P S t x with
            | some v => (match lendV S v with
              | some v => some (.tmp v :: es)
              | none => none)
            | none => none)
    | none => none
  | [], [], [], [] => some []
  | _, _, _, _ => none
/-- Boxes that a function value has captured. -/
def passCaps : US → List UV → Option (List UE × List Nat × US)
  | S, [] => some ([], [], S)
  | S, .ptr q _ :: r => if q.st = [] ∧ q.off = 0 then (match giveBox S q.root with
    | some (cs, S1) => match passCaps S1 r with
      | some (es, bs, S2) => some (.box () cs :: es, q.root :: bs, S2)
      | none => none
    | none => none) else none
  | _, _ => none
structure Prep where
  es : List UE
  vs : List UT
  bs : List Nat
  vbs : List Place
  s : US
def prep (md : Nat → Nat) (S : US) (args : List (Operand × TypeId)) (caps : List UV) : Option Prep := match passTake P md 0 S args with
  | some (A, S1) => match passBox P md 0 S1 args with
    | some (B, bs, S2) => match passCaps S2 caps with
      | some (es2, bs2, S3) => match passVir P md 0 [] S3 1000 args with
        | some (C, ts, qs, S4) => match finish P S4 args A B C with
          | some es => some ⟨es ++ es2, ts, bs ++ bs2, qs, S4⟩
          | none => none
        | none => none
      | none => none
    | none => none
  | none => none
/-- Behind a call: the boxes hold what they hold then. -/
def backTo (S : US) : List Nat → List (List UV) → (W → Prop) → Prop
  | [], [], K => K ⟨S⟩
  | r :: bs, c :: cs, K => backTo (put S r (.box () c)) bs cs K
  | _, _, _ => False
def vbackTo (S : US) : List Place → List UT → (W → Prop) → Prop
  | [], [], K => K ⟨S⟩
  | q :: bs, .sl .own _ wd out :: ts, K => (match getC S q with
    | some (.tr .undef) => match setC S q (.tr (.sl .own () wd out)) with
      | some S1 => vbackTo S1 bs ts K
      | none => False
    | _ => False)
  | _, _, _ => False
mutual
/-- Nothing here is lent. -/
def noBoT : UT → Bool
  | .sl κ _ _ rows => (match κ with | .bo => false | _ => true) && noBoRows rows
  | _ => true
def noBoRow : List UT → Bool
  | [] => true
  | t :: r => noBoT t && noBoRow r
def noBoRows : List (List UT) → Bool
  | [] => true
  | t :: r => noBoRow t && noBoRows r
end
def noBoL : List UV → Bool
  | [] => true
  | .tr t :: r => noBoT t && noBoL r
  | _ => false
/-- What may be handed back: trees, nothing lent, no places. -/
def noBoV : UV → Bool
  | .tr t => noBoT t
  | .agg cs => noBoL cs
  | _ => false
def noBoR : UE → Bool
  | .tmp (.tup vs) => vs.all noBoV
  | .tmp v => noBoV v
  | .box _ cs => noBoL cs
  | _ => false
def init : Nat → List UE → US
  | _, [] => []
  | i, e :: r => (i, e) :: init (i + 1) r
def initV : Nat → List UT → US
  | _, [] => []
  | i, e :: r => (i, .vir e) :: initV (i + 1) r
/-- The boxes that came in, with what they hold then. -/
def outU : Nat → List UE → List (List UV) → US
  | i, .box _ _ :: r, cs :: outs => (i, .box () cs) :: outU (i + 1) r outs
  | i, _ :: r, outs => outU (i + 1) r outs
  | _, [], _ => []
def boxesN : List UE → Nat
  | [] => 0
  | .box _ _ :: r => boxesN r + 1
  | _ :: r => boxesN r
/-- A function with a body, to be entered. -/
def enterOk (P : Program) (f : FuncId) : Bool := match P.funcs[f]? with
  | some fn => fn.name != "runtime.NumGoroutine" && fn.body.isSome
  | none => false
/-- Called with these, the function returns this, and its boxes hold that. -/
def ACall (P : Program) (f : FuncId) (args : List UE) (vir : List UT) (r : UE) (outs : List (List UV)) (vouts : List UT) : Prop :=
  (enterOk P f = true ∧ noBoR r = true ∧ (outs.all noBoL) = true ∧ noBoRow vouts = true ∧ vouts.length = vir.length ∧ outs.length = boxesN args ∧ args.length < 999) ∧
  ∀ (Z : Zone) (w : World) (vals : Array Value) (S0 : St Hd), erS S0 = init 0 args ++ initV 1000 vir → vals.size = args.length → Good Z S0 ⟨vals, []⟩ w →
    Calls P f vals w fun e w' => match e with
      | .returned v => ∃ S' a', Good Z S' a' w' ∧ erS S' = outU 0 args outs ++ ((999, r) :: initV 1000 vouts) ∧ a'.tmps.getD 999 undef = v ∧
          (∀ d g cs, look S0 d = some (.box g cs) → ∃ cs', look S' d = some (.box g cs') ∧ cs'.length = cs.length) ∧ Fr S0 w S' w'
      | .panicked _ => False
      | .outgrown => False

/-- In which order the operations of a region are looked at whose order Go leaves open. -/
inductive Plan
  | fin
  | take (i : Nat) (p : Plan)          -- this one may be taken first
  | any (i : Nat) (p q : Plan)         -- this one may come next, or another one
  | non
/-- Which parameters a function takes over. -/
structure Modes where
  plan : Nat → Plan := fun _ => .fin
  call : FuncId → Nat → Nat := fun _ _ => 0   -- 0: lent; 1: taken over; 2: written into; 3: a box behind a pointer; 4: sort.Slice
  br : Nat → Bool := fun _ => false   -- boxes whose cells may refer to what others own

def callK (f : FuncId) (args : List UE) (vs : List UT) (K : UE → List (List UV) → List UT → Prop) : Prop := ∃ r outs vouts, ACall P f args vs r outs vouts ∧ K r outs vouts
def putR (S : US) (d : Option Nat) (e : UE) : US := match d with
  | some d => putP S d e
  | none => S
/-- A cell holds this. -/
def IsU : UT → Value → Prop
  | .int k n, v => v = .int k n
  | .bool b, v => v = .bool b
  | .str s, v => v = .string ⟨⟨s⟩⟩
  | _, _ => False
def HasRows (cells : Array Value) (off wd : Nat) (rows : List (List UT)) : Prop :=
  ∀ (i : Nat) (row : List UT), rows[i]? = some row → row.length = wd ∧ ∀ (j : Nat) (c : UT), row[j]? = some c → ∃ v, cells[off + i * wd + j]? = some v ∧ IsU c v
/-- Handed a slice that lies in a box, and a function that has captured the box, it puts the rows in another order (sort.Slice). -/
def SortC (P : Program) (f : FuncId) (ti : TypeId) (g : FuncId) (off wd : Nat) (rows rows' : List (List UT)) : Prop :=
  (enterOk P f = true ∧ rows'.length = rows.length) ∧
  ∀ (w : World) (B A : Addr) (cap : Nat) (cells bc : Array Value) (e be : TypeId), A.block ≠ B.block → A.spot = none → rows.length ≤ cap →
    w.heap[B.block]? = some (.cells bc be (0, 0)) → bc[B.off + off]? = some (.slice (some A) rows.length cap) →
    w.heap[A.block]? = some (.cells cells e (0, 0)) → A.off + cap * wd ≤ cells.size → HasRows cells A.off wd rows →
    Calls P f #[.iface ti (.slice (some A) rows.length cap), .func (.func g) #[] #[.pointer (some ⟨B.block, B.off, none⟩)]] w fun x w' => match x with
      | .returned v => v = .tuple #[] ∧ w'.os = w.os ∧ w'.tape = w.tape ∧ w'.output = w.output ∧ w.heap.size ≤ w'.heap.size ∧ (∀ b, b < w.heap.size → b ≠ A.block → w'.heap[b]? = w.heap[b]?) ∧
          ∃ cells', w'.heap[A.block]? = some (.cells cells' e (0, 0)) ∧ cells'.size = cells.size ∧ HasRows cells' A.off wd rows'
      | .panicked _ => False
      | .outgrown => False
structure SortA where
  ti : TypeId
  g : FuncId
  q : Place
  wd : Nat
  rows : List (List UT)
def sortArgs (S : US) (args : List (Operand × TypeId)) : Option SortA := match args with
  | [(x, t), (y, u)] => match ev P S t x with
    | some (.ifc ti (.ref q lo n cp ())) => match ev P S u y with
      | some (.fn g [.ptr qb ()]) => match getC S q with
        | some (.tr (.sl .own () wd rows)) => if q.root = qb.root ∧ q.st = [] ∧ qb.st = [] ∧ qb.off = 0 ∧ lo = 0 ∧ cp = false ∧ n = rows.length ∧ rows.isEmpty = false ∧ flatRows rows = true ∧ defRows rows = true then some ⟨ti, g, q, wd, rows⟩ else none
        | _ => none
      | _ => none
    | _ => none
  | _ => none
@[irreducible] def sortK (f : FuncId) (ti : TypeId) (g : FuncId) (off wd : Nat) (rows : List (List UT)) (K : List (List UT) → Prop) : Prop :=
  ∃ rows', (flatRows rows' = true ∧ defRows rows' = true) ∧ SortC P f ti g off wd rows rows' ∧ K rows'
def vcSort (S : US) (f : FuncId) (args : List (Operand × TypeId)) (d : Option Nat) (K : W → Prop) : Prop := match sortArgs P S args with
  | some s => sortK P f s.ti s.g s.q.off s.wd s.rows fun rows' => match take S s.q with
    | some S1 => vbackTo S1 [s.q] [.sl .own () s.wd rows'] fun S2 => K ⟨putR S2.s d (.tmp (.tup []))⟩
    | none => False
  | none => False
def vcCall (md : Modes) (S : US) (f : FuncId) (caps : List UV) (args : List (Operand × TypeId)) (d : Option Nat) (K : W → Prop) : Prop :=
  if md.call f 0 = 4 then caps = [] ∧ vcSort P S f args d K else
  match prep P (md.call f) S args caps with
  | some p => callK P f p.es p.vs fun r outs vouts => backTo p.s p.bs outs fun S2 => vbackTo S2.s p.vbs vouts fun S3 => K ⟨putR S3.s d r⟩
  | none => False
def callOf (o : Oper) : Option (Operand × List (Operand × TypeId)) := match o.op with
  | .call c => (match c.callee with
    | .value f => if c.args.size = c.argTypes.size then some (f, c.args.toList.zip c.argTypes.toList) else none
    | _ => none)
  | _ => none
def vcO (md : Modes) (o : Oper) (S : W) (K : W → Prop) : Prop :=
  match callOf o with
  | some (f, as) => (match ev P S.s 0 f with
    | some (.fn f caps) => vcCall P md S.s f caps as o.dst K
    | _ => False)
  | none => match exec1 P md.br S.s o with
    | some (p, S1) => p ∧ K S1
    | none => False
def vcOps (md : Modes) (all : List Oper) : List Oper → W → (W → Prop) → Prop
  | [], S, K => K S
  | o :: r, S, K => match o.guard with
    | none => vcO P md o S fun S1 => vcOps md all r S1 K
    | some (j, want) => match all[j]? with
      | some oj => match oj.dst with
        | some d => match look S.s d with
          | some (.tmp (.tr (.bool b))) => (b = want → vcO P md o S fun S1 => vcOps md all r S1 K) ∧ ((!b) = want → vcOps md all r ⟨putO S.s o.dst (.tup [])⟩ K)
          | some (.tmp (.tup _)) => vcOps md all r ⟨putO S.s o.dst (.tup [])⟩ K
          | _ => False
        | none => False
      | none => False
/-- One operation of a region. -/
def vcG (md : Modes) (all : List Oper) (o : Oper) (S : W) (K : W → Prop) : Prop := match o.guard with
  | none => vcO P md o S K
  | some (j, want) => match all[j]? with
    | some oj => match oj.dst with
      | some d => match look S.s d with
        | some (.tmp (.tr (.bool b))) => (b = want → vcO P md o S K) ∧ ((!b) = want → K ⟨putO S.s o.dst (.tup [])⟩)
        | some (.tmp (.tup _)) => K ⟨putO S.s o.dst (.tup [])⟩
        | _ => False
      | none => False
    | none => False
def vcPlan (md : Modes) (all : List Oper) : Plan → W → (W → Prop) → Prop
  | .fin, S, K => K S
  | .take i p, S, K => match all[i]? with
    | some o => vcG P md all o S fun S1 => vcPlan md all p S1 K
    | none => False
  | .any i p q, S, K => (match all[i]? with
    | some o => vcG P md all o S fun S1 => vcPlan md all p S1 K
    | none => False) ∧ vcPlan md all q S K
  | .non, _, _ => True
/-- A state cut down to some slots. -/
def keep (ks : List Nat) (S : US) : US := poi (fun q _ => !ks.contains q.root) (S.filter fun x => ks.contains x.1)
/-- A loop: it ends, some round. -/
def loopN (ks : List Nat) (body : W → (Out → W → Prop) → Prop) : Nat → W → (Out → W → Prop) → Prop
  | 0, _, _ => False
  | n + 1, S, Q => body S fun o S1 => match o with
    | .normal => loopN ks body n ⟨keep ks S1.s⟩ Q
    | .exit i => Q (.exit i) S1
    | .ret => Q .ret S1
def thenK (K : W → Prop) (Q : Out → W → Prop) : Out → W → Prop
  | .normal, S => K S
  | .exit i, S => Q (.exit i) S
  | .ret, S => Q .ret S
def blockK (id : Nat) (Q : Out → W → Prop) : Out → W → Prop
  | .normal, S => Q .normal S
  | .exit i, S => if i = id then Q .normal S else Q (.exit i) S
  | .ret, S => Q .ret S
def vc (md : Modes) : Code → W → (Out → W → Prop) → Prop
  | .skip, S, Q => Q .normal S
  | .region id ops d, S, Q => match d with
    | true => vcPlan P md ops.toList (md.plan id) S (Q .normal)
    | false => vcOps P md ops.toList ops.toList S (Q .normal)
  | .seq a b, S, Q => vc md a S (thenK (fun S1 => vc md b S1 Q) Q)
  | .cond c a b, S, Q => match ev P S.s 0 c with
    | some (.tr (.bool t)) => (t = true → vc md a S Q) ∧ (t = false → vc md b S Q)
    | _ => False
  | .block id a, S, Q => vc md a S (blockK id Q)
  | .loop a, S, Q => ∃ ks n, loopN ks (vc md a) n ⟨keep ks S.s⟩ Q
  | .exit id, S, Q => Q (.exit id) S
  | .ret, S, Q => Q .ret S
  | _, _, _ => False
/-- What is handed back. -/
def retVals (S : US) : List ResultVar → Option (List UV × US)
  | [] => some ([], S)
  | .tmp d :: r => match cellsUsed P S 0 (.tmp d) with
    | some (cs, S1) => match retVals S1 r with
      | some (vs, S2) => match look S d with
        | some (.tmp (.agg _)) => some (.agg (cs.map .tr) :: vs, S2)
        | _ => match cs with
          | [c] => some (.tr c :: vs, S2)
          | _ => none
      | none => none
    | none => none
  | .cell d t :: r => match look S d with
    | some (.box _ cs) => if tyOk P t = true ∧ cs.length = szOf P t then (match resolve (putP S d (.tmp (.tr .undef))) (poiL (badRoot d) cs) with
      | some (cs, S1) => match retVals S1 r with
        | some (vs, S2) => if aggB P t then some (.agg (cs.map .tr) :: vs, S2) else (match cs with
          | [c] => some (.tr c :: vs, S2)
          | _ => none)
        | none => none
      | none => none) else none
    | _ => none
def tupOf : List UV → UV
  | [v] => v
  | vs => .tup vs
def outsOf (S : US) : Nat → List UE → List (List UV)
  | _, [] => []
  | i, .box _ _ :: r => (match look S i with | some (.box _ cs) => cs | _ => []) :: outsOf S (i + 1) r
  | i, _ :: r => outsOf S (i + 1) r
def voutsOf (S : US) : Nat → List UT → List UT
  | _, [] => []
  | i, _ :: r => (match look S i with | some (.vir t) => t | _ => .undef) :: voutsOf S (i + 1) r
/-- Are the boxes and the slices that came in still there? -/
def stillE (S : US) : Nat → List UE → Bool
  | _, [] => true
  | i, .box _ _ :: r => (match look S i with | some (.box _ _) => true | _ => false) && stillE S (i + 1) r
  | i, _ :: r => stillE S (i + 1) r
def stillV (S : US) : Nat → List UT → Bool
  | _, [] => true
  | i, _ :: r => (match look S i with | some (.vir _) => true | _ => false) && stillV S (i + 1) r
/-- What is handed back: values, or a box that is new. -/
def retE (S : US) (rs : List ResultVar) : Option (UE × US) := match (match rs with
    | [.tmp d] => (match ev P S 0 (.tmp d) with
      | some (.ptr q _) => some q
      | _ => none)
    | _ => none) with
  | some q => if q.st = [] ∧ q.off = 0 then (match look S q.root with
    | some (.box _ cs) => some (.box () cs, putP S q.root (.tmp (.tr .undef)))
    | _ => none) else none
  | none => match retVals P S rs with
    | some (vs, S1) => some (.tmp (tupOf vs), S1)
    | none => none
def bodyQ (fn : Func) (args : List UE) (vs : List UT) (r : UE) (outs : List (List UV)) (vouts : List UT) (o : Out) (S : W) : Prop :=
  match o with
  | .exit _ => False
  | _ => match retE P S.s fn.results.toList with
    | some (rs, S1) => rs = r ∧ stillE S1 0 args = true ∧ stillV S1 1000 vs = true ∧ outsOf S1 0 args = outs ∧ voutsOf S1 1000 vs = vouts
    | none => False
section
variable {P} {md : Modes} {S : US} {Q : Out → W → Prop} {K : W → Prop}
theorem vc_skip : vc P md .skip ⟨S⟩ Q = Q .normal ⟨S⟩ := rfl
theorem vc_region {i : Nat} {ops : Array Oper} : vc P md (.region i ops false) ⟨S⟩ Q = vcOps P md ops.toList ops.toList ⟨S⟩ (Q .normal) := rfl
theorem vc_regionD {i : Nat} {ops : Array Oper} : vc P md (.region i ops true) ⟨S⟩ Q = vcPlan P md ops.toList (md.plan i) ⟨S⟩ (Q .normal) := rfl
theorem vcPlan_fin {all : List Oper} : vcPlan P md all .fin ⟨S⟩ K = K ⟨S⟩ := rfl
theorem vcPlan_take {all : List Oper} {i : Nat} {p : Plan} : vcPlan P md all (.take i p) ⟨S⟩ K = match all[i]? with
    | some o => vcG P md all o ⟨S⟩ fun S1 => vcPlan P md all p S1 K
    | none => False := rfl
theorem vcPlan_any {all : List Oper} {i : Nat} {p q : Plan} : vcPlan P md all (.any i p q) ⟨S⟩ K = ((match all[i]? with
    | some o => vcG P md all o ⟨S⟩ fun S1 => vcPlan P md all p S1 K
    | none => False) ∧ vcPlan P md all q ⟨S⟩ K) := rfl
theorem vcPlan_non {all : List Oper} : vcPlan P md all .non ⟨S⟩ K = True := rfl
theorem vcG_none {all : List Oper} {d : Option Tmp} {op : Op} {t : TypeId} {p : String} {af : Array Edge} :
    vcG P md all ⟨d, op, t, p, af, none⟩ ⟨S⟩ K = vcO P md ⟨d, op, t, p, #[], none⟩ ⟨S⟩ K := rfl
theorem vcG_some {all : List Oper} {d : Option Tmp} {op : Op} {t : TypeId} {p : String} {af : Array Edge} {j : Nat} {w : Bool} :
    vcG P md all ⟨d, op, t, p, af, some (j, w)⟩ ⟨S⟩ K = match all[j]? with
      | some oj => match oj.dst with
        | some dj => match look S dj with
          | some (.tmp (.tr (.bool b))) => (b = w → vcO P md ⟨d, op, t, p, #[], none⟩ ⟨S⟩ K) ∧ ((!b) = w → K ⟨putO S d (.tup [])⟩)
          | some (.tmp (.tup _)) => K ⟨putO S d (.tup [])⟩
          | _ => False
        | none => False
      | none => False := rfl
theorem vc_seq {a b : Code} : vc P md (.seq a b) ⟨S⟩ Q = vc P md a ⟨S⟩ (thenK (fun S1 => vc P md b S1 Q) Q) := rfl
theorem vc_cond {c : Operand} {a b : Code} : vc P md (.cond c a b) ⟨S⟩ Q = match ev P S 0 c with
    | some (.tr (.bool t)) => (t = true → vc P md a ⟨S⟩ Q) ∧ (t = false → vc P md b ⟨S⟩ Q)
    | _ => False := rfl
theorem vc_block {i : Nat} {a : Code} : vc P md (.block i a) ⟨S⟩ Q = vc P md a ⟨S⟩ (blockK i Q) := rfl
theorem vc_exit {i : Nat} : vc P md (.exit i) ⟨S⟩ Q = Q (.exit i) ⟨S⟩ := rfl
theorem vc_ret : vc P md .ret ⟨S⟩ Q = Q .ret ⟨S⟩ := rfl
theorem thenK_n : thenK K Q .normal ⟨S⟩ = K ⟨S⟩ := rfl
theorem thenK_e {i : Nat} : thenK K Q (.exit i) ⟨S⟩ = Q (.exit i) ⟨S⟩ := rfl
theorem thenK_r : thenK K Q .ret ⟨S⟩ = Q .ret ⟨S⟩ := rfl
theorem blockK_n {j : Nat} : blockK j Q .normal ⟨S⟩ = Q .normal ⟨S⟩ := rfl
theorem blockK_e {j i : Nat} : blockK j Q (.exit i) ⟨S⟩ = if i = j then Q .normal ⟨S⟩ else Q (.exit i) ⟨S⟩ := rfl
theorem blockK_r {j : Nat} : blockK j Q .ret ⟨S⟩ = Q .ret ⟨S⟩ := rfl
theorem vcOps_nil {all : List Oper} : vcOps P md all [] ⟨S⟩ K = K ⟨S⟩ := rfl
theorem vcOps_cons {all r : List Oper} {d : Option Tmp} {op : Op} {t : TypeId} {p : String} {af : Array Edge} :
    vcOps P md all (⟨d, op, t, p, af, none⟩ :: r) ⟨S⟩ K = vcO P md ⟨d, op, t, p, #[], none⟩ ⟨S⟩ fun S1 => vcOps P md all r S1 K := rfl
theorem vcOps_guard {all r : List Oper} {d : Option Tmp} {op : Op} {t : TypeId} {p : String} {af : Array Edge} {j : Nat} {w : Bool} :
    vcOps P md all (⟨d, op, t, p, af, some (j, w)⟩ :: r) ⟨S⟩ K = match all[j]? with
      | some oj => match oj.dst with
        | some dj => match look S dj with
          | some (.tmp (.tr (.bool b))) => (b = w → vcO P md ⟨d, op, t, p, #[], none⟩ ⟨S⟩ fun S1 => vcOps P md all r S1 K) ∧ ((!b) = w → vcOps P md all r ⟨putO S d (.tup [])⟩ K)
          | some (.tmp (.tup _)) => vcOps P md all r ⟨putO S d (.tup [])⟩ K
          | _ => False
        | none => False
      | none => False := rfl
theorem vcO_s {o : Oper} : vcO P md o ⟨S⟩ K = match callOf o with
  | some (f, as) => (match ev P S 0 f with
    | some (.fn f caps) => vcCall P md S f caps as o.dst K
    | _ => False)
  | none => match exec1 P md.br S o with
    | some (p, S1) => p ∧ K S1
    | none => False := rfl
@[congr] theorem sortK_congr {f f' : FuncId} {ti ti' : TypeId} {g g' : FuncId} {off off' wd wd' : Nat} {rows rows' : List (List UT)} {K : List (List UT) → Prop} (h1 : f = f') (h2 : ti = ti') (h3 : g = g') (h4 : off = off') (h5 : wd = wd') (h6 : rows = rows') : sortK P f ti g off wd rows K = sortK P f' ti' g' off' wd' rows' K := by
  rw [h1, h2, h3, h4, h5, h6]
theorem sortK_of {f : FuncId} {ti : TypeId} {g : FuncId} {off wd : Nat} {rows rows' : List (List UT)} {K : List (List UT) → Prop} (h : SortC P f ti g off wd rows rows') (h1 : flatRows rows' = true) (h2 : defRows rows' = true) (k : K rows') : sortK P f ti g off wd rows K := by
  unfold sortK
  exact ⟨rows', ⟨h1, h2⟩, h, k⟩
theorem callK_of {f : FuncId} {args : List UE} {vs : List UT} {r : UE} {outs : List (List UV)} {vouts : List UT} {K : UE → List (List UV) → List UT → Prop}
    (h : ACall P f args vs r outs vouts) (k : K r outs vouts) : callK P f args vs K := ⟨r, outs, vouts, h, k⟩
end
section
variable {P : Program} {md : Modes}
theorem backTo_mono : ∀ {S : US} {bs : List Nat} {os : List (List UV)} {K K' : W → Prop}, (∀ S, K S → K' S) → backTo S bs os K → backTo S bs os K'
  | S, [], [], K, K', h, hh => h _ hh
  | S, b :: bs, c :: cs, K, K', h, hh => backTo_mono (bs := bs) h hh
  | S, [], _ :: _, K, K', h, hh => hh.elim
  | S, _ :: _, [], K, K', h, hh => hh.elim
theorem vbackTo_mono : ∀ {S : US} {bs : List Place} {ts : List UT} {K K' : W → Prop}, (∀ S, K S → K' S) → vbackTo S bs ts K → vbackTo S bs ts K' := by
  intro S bs
  induction bs generalizing S with
  | nil => intro ts K K' h hh; cases ts with
    | nil => exact h _ hh
    | cons t r => exact hh.elim
  | cons b bs ih =>
    intro ts K K' h hh
    cases ts with
    | nil => exact hh.elim
    | cons t ts =>
      cases t with
      | sl κ g w rows =>
        cases κ with
        | own =>
          simp only [vbackTo] at hh ⊢
          split at hh
          · split at hh
            · exact ih h hh
            · exact hh.elim
          · exact hh.elim
        | _ => exact hh.elim
      | _ => exact hh.elim
theorem vcSort_mono {S : US} {f : FuncId} {args : List (Operand × TypeId)} {d : Option Nat} {K K' : W → Prop} (h : ∀ S, K S → K' S) (hh : vcSort P S f args d K) : vcSort P S f args d K' := by
  unfold vcSort at *
  split
  · rename_i s hs
    simp only [hs, sortK] at hh ⊢
    obtain ⟨rows', k2, k3, k4⟩ := hh
    refine ⟨rows', k2, k3, ?_⟩
    split
    · rename_i S1 h5
      simp only [h5] at k4
      exact vbackTo_mono (fun S h6 => h _ h6) k4
    · rename_i h5; simp [h5] at k4
  · rename_i hs
    simp [hs] at hh
theorem vcO_mono {o : Oper} {S : W} {K K' : W → Prop} (h : ∀ S, K S → K' S) (hh : vcO P md o S K) : vcO P md o S K' := by
  unfold vcO at *
  split
  · rename_i f as hc
    simp only [hc] at hh
    split
    · rename_i fid caps he
      simp only [he] at hh
      unfold vcCall at *
      split
      · rename_i h4
        rw [if_pos h4] at hh
        exact ⟨hh.1, vcSort_mono h hh.2⟩
      rename_i h4
      rw [if_neg h4] at hh
      split
      · rename_i p hp
        simp only [hp] at hh
        obtain ⟨r, outs, vouts, h1, h2⟩ := hh
        exact ⟨r, outs, vouts, h1, backTo_mono (fun S2 h3 => vbackTo_mono (fun S3 h4 => h _ h4) h3) h2⟩
      · rename_i hp; simp [hp] at hh
    · rename_i hno
      split at hh
      · rename_i fid caps he; exact absurd he (hno fid caps)
      · exact hh.elim
  · rename_i hc
    simp only [hc] at hh
    split
    · rename_i p S1 hx
      simp only [hx] at hh
      exact ⟨hh.1, h _ hh.2⟩
    · rename_i hx; simp [hx] at hh
theorem vcOps_mono {all : List Oper} {K K' : W → Prop} (h : ∀ S, K S → K' S) : ∀ {l : List Oper} {S : W}, vcOps P md all l S K → vcOps P md all l S K'
  | [], S, hh => h _ hh
  | o :: r, S, hh => by
    simp only [vcOps] at hh ⊢
    split
    · rename_i hg
      simp only [hg] at hh
      exact vcO_mono (fun S1 h1 => vcOps_mono h h1) hh
    · rename_i j want hg
      simp only [hg] at hh
      split at hh
      · rename_i oj hj
        split at hh
        · rename_i d hd
          split at hh
          · rename_i b hb
            exact ⟨fun e => vcO_mono (fun S1 h1 => vcOps_mono h h1) (hh.1 e), fun e => vcOps_mono h (hh.2 e)⟩
          · exact vcOps_mono h hh
          · exact hh.elim
        · exact hh.elim
      · exact hh.elim
theorem vcG_mono {all : List Oper} {o : Oper} {S : W} {K K' : W → Prop} (h : ∀ S, K S → K' S) (hh : vcG P md all o S K) : vcG P md all o S K' := by
  unfold vcG at *
  split
  · rename_i hg
    simp only [hg] at hh
    exact vcO_mono h hh
  · rename_i j want hg
    simp only [hg] at hh
    split at hh
    · rename_i oj hj
      split at hh
      · rename_i d hd
        split at hh
        · rename_i b hb
          exact ⟨fun e => vcO_mono h (hh.1 e), fun e => h _ (hh.2 e)⟩
        · exact h _ hh
        · exact hh.elim
      · exact hh.elim
    · exact hh.elim
theorem vcPlan_mono {all : List Oper} {K K' : W → Prop} (h : ∀ S, K S → K' S) : ∀ {p : Plan} {S : W}, vcPlan P md all p S K → vcPlan P md all p S K'
  | .fin, S, hh => h _ hh
  | .take i p, S, hh => by
    simp only [vcPlan] at hh ⊢
    split at hh
    · exact vcG_mono (fun S1 h1 => vcPlan_mono h h1) hh
    · exact hh.elim
  | .any i p q, S, hh => by
    simp only [vcPlan] at hh ⊢
    refine ⟨?_, vcPlan_mono h hh.2⟩
    have h1 := hh.1
    split at h1
    · exact vcG_mono (fun S1 h2 => vcPlan_mono h h2) h1
    · exact h1.elim
  | .non, _, _ => trivial
theorem loopN_mono {ks : List Nat} {body : W → (Out → W → Prop) → Prop} (hb : ∀ S (Q Q' : Out → W → Prop), (∀ o S, Q o S → Q' o S) → body S Q → body S Q') : ∀ {n m : Nat} {S : W} {Q Q' : Out → W → Prop}, n ≤ m → (∀ o S, Q o S → Q' o S) → loopN ks body n S Q → loopN ks body m S Q'
  | 0, m, S, Q, Q', _, _, hh => hh.elim
  | n + 1, 0, S, Q, Q', hle, _, hh => absurd hle (by omega)
  | n + 1, m + 1, S, Q, Q', hle, h, hh => by
    refine hb S _ _ (fun o S1 h1 => ?_) hh
    cases o with
    | normal => exact loopN_mono hb (by omega) h h1
    | exit i => exact h _ _ h1
    | ret => exact h _ _ h1
theorem vc_mono : ∀ {c : Code} {S : W} {Q Q' : Out → W → Prop}, (∀ o S, Q o S → Q' o S) → vc P md c S Q → vc P md c S Q'
  | .skip, S, Q, Q', h, hh => h _ _ hh
  | .region _ ops true, S, Q, Q', h, hh => vcPlan_mono (fun S => h .normal S) hh
  | .region _ ops false, S, Q, Q', h, hh => vcOps_mono (fun S => h .normal S) hh
  | .seq a b, S, Q, Q', h, hh => vc_mono (c := a) (fun o S1 h1 => by
      cases o with
      | normal => exact vc_mono (c := b) h h1
      | exit i => exact h _ _ h1
      | ret => exact h _ _ h1) hh
  | .cond c a b, S, Q, Q', h, hh => by
    simp only [vc] at hh ⊢
    split at hh
    · rename_i t hc
      exact ⟨fun e => vc_mono (c := a) h (hh.1 e), fun e => vc_mono (c := b) h (hh.2 e)⟩
    · exact hh.elim
  | .block id a, S, Q, Q', h, hh => vc_mono (c := a) (fun o S1 h1 => by
      cases o with
      | normal => exact h _ _ h1
      | exit i =>
        simp only [blockK] at h1 ⊢
        split
        · rename_i hi; rw [if_pos hi] at h1; exact h _ _ h1
        · rename_i hi; rw [if_neg hi] at h1; exact h _ _ h1
      | ret => exact h _ _ h1) hh
  | .loop a, S, Q, Q', h, ⟨ks, n, hh⟩ => ⟨ks, n, loopN_mono (body := vc P md a) (fun S Q Q' h1 h2 => vc_mono (c := a) h1 h2) (Nat.le_refl n) h hh⟩
  | .exit id, S, Q, Q', h, hh => h _ _ hh
  | .ret, S, Q, Q', h, hh => h _ _ hh
  | .rangeFunc .., _, _, _, _, hh => hh.elim
  | .scope .., _, _, _, _, hh => hh.elim
  | .label .., _, _, _, _, hh => hh.elim
  | .goto .., _, _, _, _, hh => hh.elim
  | .refuse .., _, _, _, _, hh => hh.elim
theorem vc_loop {a : Code} {S : US} {Q : Out → W → Prop} (ks : List Nat) (I : Nat → US → Prop) (n : Nat) (h0 : I n (keep ks S))
  (hs : ∀ n S, I n S → vc P md a ⟨S⟩ (thenK (fun S1 => ∃ m, m < n ∧ I m (keep ks S1.s)) Q)) : vc P md (.loop a) ⟨S⟩ Q := by
  refine ⟨ks, n + 1, ?_⟩
  have key : ∀ n S, I n S → loopN ks (vc P md a) (n + 1) ⟨S⟩ Q := by
    intro n
    induction n using Nat.strongRecOn with
    | ind n ih =>
      intro S hI
      refine vc_mono (fun o S1 h1 => ?_) (hs n S hI)
      cases o with
      | normal =>
        obtain ⟨m, hm, hI'⟩ := h1
        exact loopN_mono (body := vc P md a) (n := m + 1) (m := n) (fun S Q Q' h1 h2 => vc_mono h1 h2) (by omega) (fun _ _ h => h) (ih m hm _ hI')
      | exit i => exact h1
      | ret => exact h1
  exact key n _ h0
end
end
end Go.HT
end
section
namespace Go.HT
open Go
variable {Z : Zone} {S : St Hd} {a : Act} {w : World}
def keepB (ks : List Nat) : Place → Bool → Bool := fun q _ => !ks.contains q.root
def keepH (ks : List Nat) (S : St Hd) : St Hd := poi (keepB ks) (S.filter fun x => ks.contains x.1)
theorem keep_er (ks : List Nat) (S : St Hd) : erS (keepH ks S) = keep ks (erS S) := by
  unfold keepH keep
  rw [poi_er]
  congr 1
  simp only [erS, List.filter_map]
  rfl
theorem look_filter {G : Type} (ks : List Nat) (S : St G) (d : Nat) : look (S.filter fun x => ks.contains x.1) d = if ks.contains d then look S d else none := by
  induction S with
  | nil => simp [look]
  | cons x r ih =>
    obtain ⟨k, e⟩ := x
    simp only [List.filter_cons]
    by_cases hk : k = d
    · subst hk
      by_cases hc : ks.contains k = true
      · rw [if_pos hc, if_pos hc]; simp [look]
      · rw [if_neg hc, if_neg hc, ih, if_neg hc]
    · split
      · simp only [look, if_neg hk, ih]
      · simp only [look, if_neg hk, ih]
theorem filter_own (p : Nat × Ent Hd → Bool) : ∀ S : St Hd, (ownS (S.filter p)).Sublist (ownS S)
  | [] => by simp [ownS]
  | (k, e) :: r => by
    simp only [List.filter_cons]
    split
    · simp only [ownS]; exact (List.Sublist.refl _).append (filter_own p r)
    · simp only [ownS]; exact (filter_own p r).trans (List.sublist_append_right _ _)
theorem look_keepH {ks : List Nat} {d : Nat} {e : Ent Hd} (h : look (keepH ks S) d = some e) : d ∈ ks ∧ ∃ e0, look S d = some e0 ∧ e = e0.poi (keepB ks) := by
  rw [keepH, look_poi, look_filter] at h
  split at h
  · rename_i hc
    cases hl : look S d with
    | none => simp [hl] at h
    | some e0 => simp [hl] at h; exact ⟨by simpa using hc, e0, rfl, h.symm⟩
  · simp at h
theorem keeps_keep (ks : List Nat) (S : St Hd) : Keeps S (keepH ks S) (keepB ks) := by
  have hl : ∀ r, (keepB ks ⟨r, [], 0⟩ true = false) → look (S.filter fun x => ks.contains x.1) r = look S r := by
    intro r hr
    rw [look_filter, if_pos]
    simpa [keepB] using hr
  refine Keeps.trans (S1 := S.filter fun x => ks.contains x.1) ⟨fun q hb g w0 rows h => ⟨rows, ?_, rfl⟩, fun q hb B row h => ⟨row, ?_⟩⟩ (keeps_poi _ _ _)
  · rw [getC_root (S := S) (hl q.root (by simpa [keepB] using hb))]; exact h
  · rw [rowAddr_root (S := S) (hl q.root (by simpa [keepB] using hb))]; exact h
theorem keep_own (ks : List Nat) (S : St Hd) : (ownS (keepH ks S)).Sublist (ownS S) := by
  rw [keepH, ownS_poi]
  exact filter_own _ S
theorem Good.keep (h : Good Z S a w) (ks : List Nat) : Good Z (keepH ks S) a w where
  sorted := poi_sorted _ _ (h.sorted.filter _)
  ent d e he := by
    obtain ⟨_, e0, h0, rfl⟩ := look_keepH he
    exact entOk_poi _ (h.ent d e0 h0)
  nd := (keep_own ks S).nodup h.nd
  zn b hb := h.zn b ((keep_own ks S).subset hb)
  zb := h.zb
  refs d e he := by
    obtain ⟨_, e0, h0, rfl⟩ := look_keepH he
    exact refOkE_keeps (keeps_keep ks S) e0 (h.refs d e0 h0)
theorem own_split : ∀ {S : St Hd} {d : Nat} {e : Ent Hd} {p : Nat × Ent Hd → Bool}, (ownS S).Nodup → look S d = some e → (∀ e', p (d, e') = false) → ∀ b ∈ ownE e, b ∉ ownS (S.filter p)
  | (k, e0) :: r, d, e, p, hnd, h, hp, b, hb => by
    simp only [look] at h
    simp only [ownS] at hnd
    simp only [List.filter_cons]
    split at h
    · rename_i hk; subst hk
      simp at h; subst h
      rw [hp e0]
      simp only [Bool.false_eq_true, if_false]
      exact fun hc => nodup_apart hnd hb ((filter_own p r).subset hc)
    · have ih := own_split (nodup_append_right hnd) h hp b hb
      split
      · simp only [ownS, List.mem_append]
        rintro (hc | hc)
        · exact nodup_apart hnd hc (look_own h b hb)
        · exact ih hc
      · exact ih
theorem fr_keep (h : Good Z S a w) (ks : List Nat) : Fr S w (keepH ks S) w where
  os := rfl
  tape := rfl
  output := rfl
  size := Nat.le_refl _
  block _ _ _ := rfl
  vir d t' hl := by
    obtain ⟨_, e0, h0, h1⟩ := look_keepH hl
    cases e0 with
    | vir t => simp only [Ent.poi, Ent.vir.injEq] at h1; exact ⟨t, h0, .inr (by rw [h1])⟩
    | tmp v => simp [Ent.poi] at h1
    | box g cs => simp [Ent.poi] at h1
  own b hb := .inl ((keep_own ks S).subset hb)
  box d g cs A cells e hl hg hc := by
    refine ⟨⟨cells, hc, rfl, fun _ _ => rfl⟩, ?_⟩
    by_cases hk : ks.contains d = true
    · left
      exact ⟨poiL (keepB ks) cs, by rw [keepH, look_poi, look_filter, if_pos hk, hl]; rfl, by rw [poiL_map]; simp⟩
    · right
      rw [keepH, ownS_poi]
      exact own_split h.nd hl (fun e' => by simpa using hk) _ (by simp [ownE, blk, hg])
end Go.HT
end
section
namespace Go.HT
open Go
section
variable {P : Program} {md : Modes} {Z : Zone} {S0 : St Hd} {w0 : World} {n : Nat} {pn : Nat → Option Value}
/-- What else holds of an activation: nothing is put off; pinned slots hold what they held. -/
def Rest (pn : Nat → Option Value) (a : Act) : Prop := a.defers = [] ∧ ∀ d v, pn d = some v → a.tmps.getD d undef = v
/-- A real state that an interpreted one tells of, reached from the function's start. -/
def Now (Z : Zone) (S0 : St Hd) (w0 : World) (n : Nat) (pn : Nat → Option Value) (K : W → Prop) (a : Act) (w : World) : Prop :=
  ∃ S, Good Z S a w ∧ K ⟨erS S⟩ ∧ Fr S0 w0 S w ∧ a.tmps.size = n ∧ Rest pn a
def Sem (Z : Zone) (S0 : St Hd) (w0 : World) (n : Nat) (pn : Nat → Option Value) (Q : Out → W → Prop) : Exit → Act → World → Prop
  | .normal, a, w => Now Z S0 w0 n pn (Q .normal) a w
  | .exit i, a, w => Now Z S0 w0 n pn (Q (.exit i)) a w
  | .ret, a, w => Now Z S0 w0 n pn (Q .ret) a w
  | .outgrown, _, _ => False
  | _, _, _ => False
/-- Regions are sound: to be shown for those that the code holds. -/
def RegOk (P : Program) (md : Modes) (Z : Zone) (S0 : St Hd) (w0 : World) (n : Nat) (pn : Nat → Option Value) (c : Code) : Prop := ∀ (Q : Out → W → Prop) (a : Act) (w : World), Now Z S0 w0 n pn (fun S => vc P md c S Q) a w → c.wp P (Sem Z S0 w0 n pn Q) a w
def AllReg (P : Program) (md : Modes) (Z : Zone) (S0 : St Hd) (w0 : World) (n : Nat) (pn : Nat → Option Value) : Code → Prop
  | .region i ops d => RegOk P md Z S0 w0 n pn (.region i ops d)
  | .seq a b => AllReg P md Z S0 w0 n pn a ∧ AllReg P md Z S0 w0 n pn b
  | .cond _ a b => AllReg P md Z S0 w0 n pn a ∧ AllReg P md Z S0 w0 n pn b
  | .block _ a => AllReg P md Z S0 w0 n pn a
  | .loop a => AllReg P md Z S0 w0 n pn a
  | _ => True
theorem now_keep {ks : List Nat} {K : W → Prop} {a : Act} {w : World} (h : Now Z S0 w0 n pn (fun S => K ⟨keep ks S.s⟩) a w) : Now Z S0 w0 n pn K a w := by
  obtain ⟨S, hG, hK, hf, hs, hd⟩ := h
  exact ⟨keepH ks S, hG.keep ks, by rw [keep_er]; exact hK, hf.trans (fr_keep hG ks), hs, hd⟩
theorem loop_ok {ks : List Nat} {c : Code} {Q : Out → W → Prop} (ih : RegOk P md Z S0 w0 n pn c) : ∀ (k : Nat) (a : Act) (w : World), Now Z S0 w0 n pn (fun S => loopN ks (vc P md c) k S Q) a w → Code.rounds P c (Sem Z S0 w0 n pn Q) k a w
  | 0, a, w, ⟨S, _, h, _⟩ => h.elim
  | k + 1, a, w, h => by
    rw [rounds_succ]
    refine wp_mono (ih _ a w h) fun e a' w' he => ?_
    cases e with
    | normal => exact loop_ok ih k a' w' (now_keep (K := fun S => loopN ks (vc P md c) k S Q) he)
    | exit i => exact he
    | ret => exact he
    | outgrown => exact he
    | goto l => exact he
    | panic c => exact he
theorem vc_ok : ∀ (c : Code), AllReg P md Z S0 w0 n pn c → RegOk P md Z S0 w0 n pn c
  | .skip, _ => fun Q a w h => wp_skip h
  | .region i ops d, h => h
  | .seq x y, ⟨h1, h2⟩ => fun Q a w h => by
    refine wp_seq (wp_mono (vc_ok x h1 _ a w h) fun e a' w' he => ?_)
    cases e with
    | normal => exact vc_ok y h2 Q a' w' he
    | exit i => exact he
    | ret => exact he
    | outgrown => exact he
    | goto l => exact he
    | panic c => exact he
  | .cond c x y, ⟨h1, h2⟩ => fun Q a w ⟨S, hG, hv, hf, hs, hd⟩ => by
    simp only [vc] at hv
    split at hv
    · rename_i t hc
      exact wp_cond_split (ev_bool hG hc) (fun ht => vc_ok x h1 Q a w ⟨S, hG, hv.1 ht, hf, hs, hd⟩) (fun ht => vc_ok y h2 Q a w ⟨S, hG, hv.2 ht, hf, hs, hd⟩)
    · exact hv.elim
  | .block id x, h1 => fun Q a w h => by
    refine wp_block (wp_mono (vc_ok x h1 _ a w h) fun e a' w' he => ?_)
    cases e with
    | normal => exact he
    | exit i =>
      obtain ⟨S1, g1, g2, g3⟩ := he
      simp only [Exit.inBlock]
      by_cases hi : i = id
      · rw [if_pos hi]
        refine ⟨S1, g1, ?_, g3⟩
        simpa [blockK, hi] using g2
      · rw [if_neg hi]
        refine ⟨S1, g1, ?_, g3⟩
        simpa [blockK, hi] using g2
    | ret => exact he
    | outgrown => exact he
    | goto l => exact he
    | panic c => exact he
  | .loop x, h1 => fun Q a w ⟨S, hG, ⟨ks, k, hk⟩, hf, hs, hd⟩ => wp_loop_rounds k (loop_ok (vc_ok x h1) k a w (now_keep (ks := ks) (K := fun S => loopN ks (vc P md x) k S Q) ⟨S, hG, hk, hf, hs, hd⟩))
  | .exit id, _ => fun Q a w h => wp_exit h
  | .ret, _ => fun Q a w h => wp_ret h
  | .rangeFunc .., _ => fun Q a w ⟨S, _, h, _⟩ => h.elim
  | .scope .., _ => fun Q a w ⟨S, _, h, _⟩ => h.elim
  | .label .., _ => fun Q a w ⟨S, _, h, _⟩ => h.elim
  | .goto .., _ => fun Q a w ⟨S, _, h, _⟩ => h.elim
  | .refuse .., _ => fun Q a w ⟨S, _, h, _⟩ => h.elim
end
end Go.HT
end
section
namespace Go.HT
open Go
section
variable {P : Program} {ops : Array Oper} {Q : Exit → Act → World → Prop} {md : Region.Mode} {S : World → Prop} {A : Nat → Prop}

/-- Whatever order is picked from here on; behind every operation of the first phase S holds. -/
def wpAnyF (P : Program) (md : Region.Mode) (ops : Array Oper) (Q : Exit → Act → World → Prop) (A : Nat → Prop) (S : World → Prop) : Nat → Array Bool → Act → World → Prop
  | 0, listed, a, w => Region.ready md ops listed = [] ∧ Q .normal a w
  | fuel + 1, listed, a, w =>
    (Region.ready md ops listed = [] → Q .normal a w) ∧
    ∀ i ∈ Region.ready md ops listed, wpOp P ops Q i (fun a' w' => (A i → S w') ∧ wpAnyF P md ops Q A S fuel (listed.setIfInBounds i true) a' w') a w
theorem wpAny_of_F : ∀ (fuel : Nat) (listed : Array Bool) (a : Act) (w : World), wpAnyF P md ops Q A S fuel listed a w → wpAny P md ops Q fuel listed a w
  | 0, _, _, _, h => h
  | fuel + 1, _, _, _, h => ⟨h.1, fun i hi => wpOp_mono (fun a' w' h' => wpAny_of_F fuel _ a' w' h'.2) (h.2 i hi)⟩
/-- 'bf i j': i comes before j. -/
def BfOk (md : Region.Mode) (ops : Array Oper) (bf : Nat → Nat → Bool) : Prop :=
  ∀ i j oj, ops[j]? = some oj → bf i j = true → ∃ e ∈ oj.after, Region.binds md e = true ∧ (e.on = i ∨ bf i e.on = true)
def Shut (bf : Nat → Nat → Bool) (listed : Array Bool) : Prop := ∀ i j, listed.getD j false = true → bf i j = true → listed.getD i false = true
theorem not_bf {bf : Nat → Nat → Bool} (hb : BfOk md ops bf) {listed : Array Bool} (hs : Shut bf listed) {i j : Nat} (hj : j ∈ Region.ready md ops listed) (h : bf i j = true) : listed.getD i false = true := by
  obtain ⟨_, oj, hoj, hall⟩ := mem_ready.1 hj
  obtain ⟨e, he, hbind, hh⟩ := hb i j oj hoj h
  have := hall e he hbind
  rcases hh with rfl | hh
  · exact this
  · exact hs i e.on this hh
theorem Shut.step {bf : Nat → Nat → Bool} (hb : BfOk md ops bf) {listed : Array Bool} (hs : Shut bf listed) {j : Nat} (hj : j ∈ Region.ready md ops listed) : Shut bf (listed.setIfInBounds j true) := by
  intro i k hk hbf
  by_cases hjk : j = k
  · subst hjk
    exact getD_set_true (not_bf hb hs hj hbf)
  · rw [getD_set_ne false hjk] at hk
    exact getD_set_true (hs i k hk hbf)
theorem wpAnyF_first {bf : Nat → Nat → Bool} (hb : BfOk md ops bf) {i : Nat} {oi : Oper} {v : Value} (hi : ops[i]? = some oi) (hsel : ∀ (j : Nat) (o : Oper) cs b, ops[j]? = some o → o.op ≠ .select cs b)
    (hQ : ∀ c a w, Q (.panic c) (a.put oi.dst v) w → Q (.panic c) a w) :
    ∀ (fuel : Nat) (listed : Array Bool) (a : Act) (w : World), Shut bf listed →
      (∀ j oj, ops[j]? = some oj → j ≠ i → listed.getD j true = false → bf i j = false → oi.apart ops oj = true ∧ A j) →
      i ∈ Region.ready md ops listed → YieldsIf P ops S oi v a → S w →
      wpAnyF P md ops Q A S fuel (listed.setIfInBounds i true) (a.put oi.dst v) w → wpAnyF P md ops Q A S (fuel + 1) listed a w := by
  intro fuel
  induction fuel with
  | zero =>
    intro listed a w hsh _ hr hy hS H
    refine ⟨fun h => (by rw [h] at hr; cases hr), fun j hj => ?_⟩
    by_cases hji : j = i
    · subst hji; exact hy.wpOp hi hS ⟨fun _ => hS, H⟩
    · have := ready_mono hj hji
      rw [H.1] at this
      cases this
  | succ fuel ih =>
    intro listed a w hsh hfree hr hy hS H
    refine ⟨fun h => (by rw [h] at hr; cases hr), fun j hj => ?_⟩
    by_cases hji : j = i
    · subst hji; exact hy.wpOp hi hS ⟨fun _ => hS, H⟩
    · have h1 := H.2 j (ready_mono hj hji)
      obtain ⟨hjun, oj, hoj, hall⟩ := mem_ready.1 hj
      have hun : ¬ (listed.getD i false = true) := by
        intro h
        have h0 := (mem_ready.1 hr).1
        rcases Nat.lt_or_ge i listed.size with h' | h'
        · simp [h'] at h0 h; rw [h0] at h; cases h
        · simp [Array.getElem?_eq_none h'] at h
      have hbf : bf i j = false := by
        cases hh : bf i j with
        | false => rfl
        | true => exact absurd (not_bf hb hsh hj hh) hun
      obtain ⟨hap, hAj⟩ := hfree j oj hoj hji hjun hbf
      have h2 := wpOp_putIf hoj hap (fun cs b => hsel i oi cs b hi) (fun cs b => hsel j oj cs b hoj) hQ hy h1
      have hfree' : ∀ k ok, ops[k]? = some ok → k ≠ i → (listed.setIfInBounds j true).getD k true = false → bf i k = false → oi.apart ops ok = true ∧ A k := fun k ok hk hki hun hno => by
        refine hfree k ok hk hki ?_ hno
        by_cases hjk : j = k
        · subst hjk; exact hjun
        · rw [getD_set_ne true hjk] at hun; exact hun
      refine wpOp_mono (fun a' w' h3 => ⟨fun _ => h3.2.1 hAj, ih (listed.setIfInBounds j true) a' w' (hsh.step hb hj) hfree' (ready_mono hr (Ne.symm hji)) h3.1 (h3.2.1 hAj) ?_⟩) h2
      rw [Array.setIfInBounds_comm _ _ hji]
      exact h3.2.2
theorem wp_region_F {id : Nat} {a : Act} {w : World} (hm : P.follows .mixedOrders = true)
    (h : wpAnyF P .any ops Q A S ops.size (Array.replicate ops.size false) a { w with drawn := w.drawn + 1 }) : (Code.region id ops true).wp P Q a w :=
  wp_region_any hm (wpAny_of_F _ _ _ _ h)
end
end Go.HT
end
section
namespace Go.HT
open Go
section
variable {P : Program} {md : Modes} {Z : Zone} {S0 : St Hd} {w0 : World} {n : Nat} {pn : Nat → Option Value}
theorem put_size (a : Act) (d : Option Nat) (v : Value) : (a.put d v).tmps.size = a.tmps.size := by cases d <;> simp [Act.put]
theorem put_defers (a : Act) (d : Option Nat) (v : Value) : (a.put d v).defers = a.defers := by cases d <;> rfl
theorem rest_put {a : Act} {d : Option Nat} (h : Rest pn a) (hd : ∀ x, d = some x → pn x = none) (v : Value) : Rest pn (a.put d v) := by
  refine ⟨by rw [put_defers]; exact h.1, fun x u hx => ?_⟩
  cases d with
  | none => exact h.2 x u hx
  | some d =>
    have hne : x ≠ d := by rintro rfl; rw [hd x rfl] at hx; simp at hx
    rw [put_tmp_ne a d x v hne]; exact h.2 x u hx
/-- Nothing that was there has turned. -/
def Ext (w w' : World) : Prop := ∀ b, b < w.heap.size → w'.heap[b]? = w.heap[b]?
/-- A call that is handed nothing to change. -/
def quietC (md : Modes) (o : Oper) : Bool := match o.op with
  | .call c => (match c.callee with
    | .value (.func f) => (List.range c.args.size).all fun i => md.call f i == 0
    | _ => false)
  | _ => false
/-- A call operation is sound. -/
def CallOk (P : Program) (md : Modes) (Z : Zone) (S0 : St Hd) (w0 : World) (n : Nat) (pn : Nat → Option Value) : Prop := ∀ (o : Oper) (f : Operand) (as : List (Operand × TypeId)) (fid : FuncId) (caps : List UV) (K : W → Prop) (Q : Exit → Act → World → Prop) (a : Act) (w : World) (S : St Hd),
  callOf o = some (f, as) → (∀ d, o.dst = some d → d < n ∧ pn d = none) → ev P (erS S) 0 f = some (.fn fid caps) → vcCall P md (erS S) fid caps as o.dst K → Good Z S a w → Fr S0 w0 S w → a.tmps.size = n → Rest pn a → o.wp P a w (fun a' w' => Now Z S0 w0 n pn K a' w' ∧ (quietC md o = true → Ext w w')) Q
theorem vcO_ok (hcall : CallOk P md Z S0 w0 n pn) {o : Oper} {K : W → Prop} {Q : Exit → Act → World → Prop} {a : Act} {w : World} (hd : ∀ d, o.dst = some d → d < n ∧ pn d = none) (h : Now Z S0 w0 n pn (fun S => vcO P md o S K) a w) : o.wp P a w (Now Z S0 w0 n pn K) Q := by
  obtain ⟨S, hG, hv, hf, hs, hdef⟩ := h
  unfold vcO at hv
  split at hv
  · rename_i f as hc
    split at hv
    · rename_i fid caps he
      exact Oper.wp_mono (fun _ _ h => h.1) (hcall o f as fid caps K Q a w S hc hd he hv hG hf hs hdef)
    · exact hv.elim
  · split at hv
    · rename_i p S1 hx
      obtain ⟨hp, hK⟩ := hv
      obtain ⟨S', v, w', hrun, g1, g2, g3, _, _⟩ := exec1_ok hG (fun d h => by rw [hs]; exact (hd d h).1) (U := S1.s) hx hp
      have hnow : Now Z S0 w0 n pn K (a.put o.dst v) w' := ⟨S', g1, by rw [g2]; exact hK, hf.trans g3, by rw [put_size]; exact hs, rest_put hdef (fun x hx => (hd x hx).2) _⟩
      unfold Oper.wp
      rcases hrun with hrun | ⟨hrun, rfl⟩
      · rw [hrun]; exact hnow
      · rw [hrun]; exact hnow
    · exact hv.elim
/-- An operation that is not wanted leaves nothing. -/
theorem skip_ok {o : Oper} {K : W → Prop} {a : Act} {w : World} (hd : ∀ d, o.dst = some d → d < n ∧ pn d = none) (h : Now Z S0 w0 n pn (fun S => K ⟨putO S.s o.dst (.tup [])⟩) a w) : Now Z S0 w0 n pn K (a.put o.dst undef) w := by
  obtain ⟨S, hG, hK, hf, hs, hdef⟩ := h
  cases hdst : o.dst with
  | none =>
    rw [hdst] at hK
    exact ⟨S, hG, hK, hf, hs, hdef⟩
  | some d =>
    rw [hdst] at hK
    obtain ⟨g1, g2, g3⟩ := put_lands (Z := Z) (S := S) (a := a) (d := d) (e := .tmp (.tup [])) (val := undef) hG (.refl S) (fun _ _ => rfl) rfl rfl rfl (Nat.le_refl _) ⟨⟨#[], (by simp only [Act.put, Array.getD_eq_getD_getElem?, Array.getElem?_setIfInBounds]; split <;> simp_all [undef] : (a.put (some d) undef).tmps.getD d undef = Value.tuple #[]), by simp [IsL]⟩, trivial⟩ (by simp [ownE, ownA, ownAL, ownT]) (by simp [ownE, ownA, ownAL, ownT]) (by simp [ownE, ownA, ownAL, ownT]) (by simp [ownE, ownA, ownAL, ownT]) trivial
    exact ⟨_, g1, by rw [g2]; exact hK, hf.trans g3, by rw [put_size]; exact hs, rest_put hdef (fun x hx => (hd x (by rw [hdst]; exact hx)).2) _⟩
/-- What was not wanted says nothing. -/
theorem tup_yields {ops : Array Oper} {S : St Hd} {a : Act} {w : World} (hG : Good Z S a w) {j d : Nat} {oj : Oper} {vs : List UV} (hj : ops.toList[j]? = some oj) (hdj : oj.dst = some d) (hb : look (erS S) d = some (.tmp (.tup vs))) : yielded ops a.tmps j = none := by
  have hval : ∃ x, a.tmps.getD d undef = .tuple x := by
    rw [look_er] at hb
    cases hl : look S d with
    | none => simp [hl] at hb
    | some e =>
      simp only [hl, Option.map_some, Option.some.injEq] at hb
      have hent := hG.ent _ _ hl
      cases e with
      | tmp v =>
        simp only [erE, Ent.tmp.injEq] at hb
        cases v with
        | tup cs => obtain ⟨x, hx, _⟩ := hent.1; exact ⟨x, hx⟩
        | _ => simp [erA] at hb
      | box => simp [erE] at hb
      | vir => simp [erE] at hb
  obtain ⟨x, hx⟩ := hval
  have hj' : ops[j]? = some oj := by simpa using hj
  rw [Array.getD_eq_getD_getElem?] at hx
  cases hy : a.tmps[d]? with
  | none => simp [yielded, hj', hdj, hy]
  | some y => rw [hy] at hx; simp at hx; subst hx; simp [yielded, hj', hdj, hy]
theorem ops_ok (hcall : CallOk P md Z S0 w0 n pn) {ops : Array Oper} {Q : Exit → Act → World → Prop} {K : W → Prop} (hK : ∀ a w, Now Z S0 w0 n pn K a w → Q .normal a w) (hd : ∀ o ∈ ops.toList, ∀ d, o.dst = some d → d < n ∧ pn d = none) :
    ∀ (l : List Oper) (i : Nat), ops.toList.drop i = l → ∀ a w, Now Z S0 w0 n pn (fun S => vcOps P md ops.toList l S K) a w → wpOps P ops Q ((List.range ops.size).drop i) a w := by
  intro l
  induction l with
  | nil =>
    intro i hi a w h
    have hle : ops.size ≤ i := by
      have := List.drop_eq_nil_iff.1 hi
      simpa using this
    have : (List.range ops.size).drop i = [] := List.drop_eq_nil_iff.2 (by simpa using hle)
    rw [this]
    exact hK a w h
  | cons o r ih =>
    intro i hi a w h
    have hlt : i < ops.size := by
      rcases Nat.lt_or_ge i ops.size with h' | h'
      · exact h'
      · have : ops.toList.drop i = [] := List.drop_eq_nil_iff.2 (by simpa using h')
        rw [this] at hi; simp at hi
    have hrange : (List.range ops.size).drop i = i :: (List.range ops.size).drop (i + 1) := by
      rw [List.drop_eq_getElem_cons (by simpa using hlt)]
      simp
    have hcons : ops.toList.drop i = ops.toList[i]'(by simpa using hlt) :: ops.toList.drop (i + 1) := List.drop_eq_getElem_cons (by simpa using hlt)
    rw [hi] at hcons
    simp only [List.cons.injEq] at hcons
    obtain ⟨ho, hr⟩ := hcons
    have hoi : ops[i]? = some o := by rw [ho]; simp [hlt]
    have hmem : o ∈ ops.toList := by rw [ho]; exact List.getElem_mem _
    have ih' := ih (i + 1) hr.symm
    rw [hrange]
    simp only [wpOps, hoi]
    obtain ⟨S, hG, hv, hf, hs, hdef⟩ := h
    simp only [vcOps] at hv
    have run : vcO P md o ⟨erS S⟩ (fun S1 => vcOps P md ops.toList r S1 K) → o.wp P a w (wpOps P ops Q ((List.range ops.size).drop (i + 1))) Q := fun hv =>
      Oper.wp_mono (fun a' w' h' => ih' a' w' h') (vcO_ok hcall (hd o hmem) ⟨S, hG, hv, hf, hs, hdef⟩)
    split at hv
    · rename_i hg
      have : Region.wanted o (yielded ops a.tmps) = true := by simp [Region.wanted, hg]
      rw [if_pos this]
      exact .inl (run hv)
    · rename_i j want hg
      split at hv
      · rename_i oj hj
        split at hv
        · rename_i d hdj
          split at hv
          · rename_i b hb
            have hval : a.tmps.getD d undef = .bool b := by
              rw [look_er] at hb
              cases hl : look S d with
              | none => simp [hl] at hb
              | some e =>
                simp only [hl, Option.map_some, Option.some.injEq] at hb
                have hent := hG.ent _ _ hl
                cases e with
                | tmp v =>
                  simp only [erE, Ent.tmp.injEq] at hb
                  obtain ⟨t, rfl, ht⟩ := erA_tr hb
                  have := erT_bool ht
                  subst this
                  exact hent.1
                | box => simp [erE] at hb
                | vir => simp [erE] at hb
            have hy : yielded ops a.tmps j = some b := by
              have hj' : ops[j]? = some oj := by simpa using hj
              have hd2 : ∃ x, a.tmps[d]? = some x ∧ x = .bool b := by
                rw [Array.getD_eq_getD_getElem?] at hval
                cases hx : a.tmps[d]? with
                | none => rw [hx] at hval; simp [undef] at hval
                | some x => rw [hx] at hval; exact ⟨x, rfl, by simpa using hval⟩
              obtain ⟨x, hx, rfl⟩ := hd2
              simp [yielded, hj', hdj, hx]
            have hw : Region.wanted o (yielded ops a.tmps) = decide (b = want) := by simp [Region.wanted, hg, hy, beq_dec]
            by_cases hbw : b = want
            · rw [hw, if_pos (by simp [hbw])]
              exact .inl (run (hv.1 hbw))
            · rw [hw, if_neg (by simp [hbw])]
              refine ih' _ _ (skip_ok (hd o hmem) ⟨S, hG, hv.2 ?_, hf, hs, hdef⟩)
              cases b <;> cases want <;> simp_all
          · rename_i vs hb
            have hy := tup_yields (ops := ops) hG hj hdj hb
            have hw : Region.wanted o (yielded ops a.tmps) = false := by simp [Region.wanted, hg, hy]
            rw [hw, if_neg (by simp)]
            exact ih' _ _ (skip_ok (hd o hmem) ⟨S, hG, hv, hf, hs, hdef⟩)
          · exact hv.elim
        · exact hv.elim
      · exact hv.elim
/-- A region in the order of the text. -/
theorem region_text (hcall : CallOk P md Z S0 w0 n pn) {i : Nat} {ops : Array Oper} (hd : ∀ o ∈ ops.toList, ∀ d, o.dst = some d → d < n ∧ pn d = none) : RegOk P md Z S0 w0 n pn (.region i ops false) := by
  intro Q a w h
  exact wp_region (ops_ok hcall (fun _ _ h => h) hd ops.toList 0 rfl a w h)
end
end Go.HT
end
section
namespace Go.HT
open Go
variable {P : Program} {Z : Zone} {S : St Hd} {a : Act} {w : World}
/-- One value, used up for good: trees. -/
theorem usedV_ok (hG : Good Z S a w) {t : TypeId} {x : Operand} {ts : List UT} {U : US} (h : cellsUsed P (erS S) t x = some (ts, U)) :
    ∃ (v : UV) (ts' : List (Tr Hd)) (S' : St Hd), ev P (erS S) t x = some v ∧ erRow ts' = ts ∧ erS S' = U ∧ Good Z S' a w ∧ Less S S' ∧ (∀ t ∈ ts', memT w Z true t) ∧ (ownRow ts').Nodup ∧ (∀ b ∈ ownRow ts', b ∈ ownS S ∧ b ∉ ownS S') ∧
      (∀ cs, v = .agg cs → ∃ us, a.eval x = .agg us ∧ IsL (ts'.map .tr) us.toList) ∧ ((∀ cs, v ≠ .agg cs) → IsL (ts'.map .tr) [a.eval x]) := by
  unfold cellsUsed at h
  split at h
  · rename_i v S1 bad hu
    have hev : ∃ v0, ev P (erS S) t x = some v0 ∧ ((∃ cs, v0 = .agg cs) ↔ ∃ cs, v = .agg cs) := by
      unfold evU at hu
      split at hu
      · rename_i v0 hv0
        refine ⟨v0, hv0, ?_⟩
        split at hu
        · split at hu
          · simp at hu
            obtain ⟨rfl, _⟩ := hu
            cases v0 with
            | agg cs => simp [poiA]
            | ref => simp only [poiA]; split <;> simp
            | ptr => simp only [poiA]; split <;> simp
            | _ => simp [poiA]
          · simp at hu
            obtain ⟨rfl, _⟩ := hu
            exact Iff.rfl
        · simp at hu
          obtain ⟨rfl, _⟩ := hu
          exact Iff.rfl
      · simp at hu
    obtain ⟨v0, hv0, hagg⟩ := hev
    obtain ⟨v3, S3, k1, k2, k3, k4, k5, k6, k7, k8, k9, k10, k11⟩ := evU_ok hG hu
    subst k1 k2
    have gen : ∀ cs : List (AV Hd), cellsOf (erA v3) = erL cs → memL w Z cs → ownAL cs = ownA v3 → refOkL S3 cs → ∃ (ts' : List (Tr Hd)) (S' : St Hd), erRow ts' = ts ∧ erS S' = U ∧ Good Z S' a w ∧ Less S S' ∧ (∀ t ∈ ts', memT w Z true t) ∧ (ownRow ts').Nodup ∧ (∀ b ∈ ownRow ts', b ∈ ownS S ∧ b ∉ ownS S') ∧ (∀ vs, IsL cs vs → IsL (ts'.map .tr) vs) := by
      intro cs hcs hm ho hr
      rw [hcs] at h
      obtain ⟨ts', S4, f1, f2, f3, f4, f5, f6, f7, f8⟩ := resolve_ok k3 h hm (by rw [ho]; exact k7) (fun b hb => (k8 b (by rwa [← ho])).2) (fun c hc => RefW_of (refOkL_iff.1 hr c hc))
      refine ⟨ts', S4, f1, f2, f3, k9.trans f4, f5, f6, fun b hb => ⟨?_, (f7 b hb).2⟩, f8.1⟩
      rcases (f7 b hb).1 with hb | hb
      · exact (k8 b (by rwa [← ho])).1
      · exact k9.own b hb
    by_cases hA : ∃ cs, v3 = .agg cs
    · obtain ⟨cs, rfl⟩ := hA
      obtain ⟨ts', S', g1, g2, g3, g4, g5, g6, g7, g8⟩ := gen cs rfl k5 rfl k6
      obtain ⟨us, hus, hus2⟩ := k4
      exact ⟨v0, ts', S', hv0, g1, g2, g3, g4, g5, g6, g7, fun _ _ => ⟨us, hus, g8 _ hus2⟩, fun hn => absurd (hagg.2 ⟨_, rfl⟩) (fun ⟨c, hc⟩ => hn c hc)⟩
    · have hc : cellsOf (erA v3) = erL [v3] := by
        cases v3 with
        | agg cs => exact absurd ⟨cs, rfl⟩ hA
        | _ => rfl
      obtain ⟨ts', S', g1, g2, g3, g4, g5, g6, g7, g8⟩ := gen [v3] hc ⟨k5, trivial⟩ (by simp [ownAL]) ⟨k6, trivial⟩
      refine ⟨v0, ts', S', hv0, g1, g2, g3, g4, g5, g6, g7, fun cs hcs => ?_, fun _ => g8 _ ⟨_, [], rfl, k4, rfl⟩⟩
      obtain ⟨c, hc2⟩ := hagg.1 ⟨cs, hcs⟩
      obtain ⟨c', rfl, _⟩ := erA_agg hc2
      exact absurd ⟨c', rfl⟩ hA
  · simp at h
theorem ownAL_tr (l : List (Tr Hd)) : ownAL (l.map .tr) = ownRow l := by
  induction l with
  | nil => rfl
  | cons t r ih => simp [ownAL, ownRow, ownA, ih]
/-- What stands in a result's place. -/
def resVal (tmps : Array Value) : ResultVar → Go.Sem Value
  | .tmp t => pure (tmps.getD t undef)
  | .cell a t => do loadVar t (← asAddr (tmps.getD a undef))
theorem memL_append {l m : List (AV Hd)} (h1 : memL w Z l) (h2 : memL w Z m) : memL w Z (l ++ m) := memL_iff.2 fun v hv => (List.mem_append.1 hv).elim (memL_iff.1 h1 v) (memL_iff.1 h2 v)
/-- What comes out for one result. -/
theorem one_res {ts' : List (Tr Hd)} {v : AV Hd} (h5 : ∀ t ∈ ts', memT w Z true t) (h6 : (ownRow ts').Nodup) (hv : v = .agg (ts'.map .tr) ∨ ∃ c, ts' = [c] ∧ v = .tr c) : memA w Z v ∧ ownA v = ownRow ts' ∧ (ownA v).Nodup := by
  rcases hv with rfl | ⟨c, rfl, rfl⟩
  · exact ⟨memL_tr h5, ownAL_tr ts', by simp only [ownA, ownAL_tr]; exact h6⟩
  · exact ⟨h5 c (by simp), by simp [ownA, ownRow], by simpa [ownA, ownRow] using h6⟩
/-- A box is given up; its cells hang free. -/
theorem dropBox_ok (hG : Good Z S a w) {d : Nat} {g : Hd} {cs : List (AV Hd)} (hl : look S d = some (.box g cs)) :
    ∃ S1, erS S1 = putP (erS S) d (.tmp (.tr .undef)) ∧ Good Z S1 a w ∧ Fr S w S1 w ∧ refOkL S1 (poiL (badRoot d) cs) ∧ (ownAL cs).Nodup ∧ (∀ b ∈ ownAL cs, b ∈ ownS S ∧ b ∉ ownS S1) := by
  obtain ⟨g1, g2, g3⟩ := put_lands (Z := Z) (S := S) (a := a) (d := d) (e := .tmp (.tr .undef)) (val := a.tmps.getD d undef) hG (.refl S) (fun _ _ => rfl) rfl rfl rfl (Nat.le_refl _)
    ⟨trivial, trivial⟩ (by simp [ownE, ownA, ownT]) (by simp [ownE, ownA, ownT]) (by simp [ownE, ownA, ownT]) (by simp [ownE, ownA, ownT]) trivial
  have hact : ∀ d', (a.put (some d) (a.tmps.getD d undef)).tmps.getD d' undef = a.tmps.getD d' undef := by
    intro d'
    by_cases hd : d' = d
    · subst hd
      by_cases hlt : d' < a.tmps.size
      · rw [put_tmp_eq a d' _ hlt]
      · simp [Act.put, Array.getD, hlt]
    · exact put_tmp_ne a d d' _ hd
  obtain ⟨rest, p1, p2⟩ := put_perm S d hG.sorted
  simp only [oldE, hl] at p1
  have pe : (ownS (put (poi (badRoot d) S) d ((Ent.tmp (.tr .undef)).poi (badRoot d)))).Perm rest := by
    rw [ownS_put_poi]; exact (p2 _).trans (by simp [Ent.poi, poiA, ownE, ownA, ownT])
  have hkeep : Keeps S (put (poi (badRoot d) S) d ((Ent.tmp (.tr .undef)).poi (badRoot d))) (badRoot d) := (keeps_poi S (badRoot d) (badRoot d)).trans (keeps_put _ _ _)
  have hnd := p1.nodup_iff.1 hG.nd
  refine ⟨_, g2, g1.frame (fun _ _ => rfl) (Nat.le_refl _) (fun d' e' _ => (hact d').symm), g3, refOkL_keeps hkeep cs (hG.refs _ _ hl), ?_, fun b hb => ⟨p1.mem_iff.2 (by simp [ownE, hb]), fun hc => ?_⟩⟩
  · exact nodup_append_right (nodup_append_left hnd)
  · exact nodup_apart hnd (by simp [ownE, hb]) (pe.mem_iff.1 hc)
end Go.HT
end
section
namespace Go.HT
open Go
variable {P : Program} {Z : Zone} {S : St Hd} {a : Act} {w : World}
theorem retVals_ok : ∀ {rs : List ResultVar} {S : St Hd} {vs : List UV} {U : US}, Good Z S a w → retVals P (erS S) rs = some (vs, U) →
    ∃ (vs' : List (AV Hd)) (S' : St Hd) (vals : List Value), erL vs' = vs ∧ erS S' = U ∧ Good Z S' a w ∧ Fr S w S' w ∧ (rs.mapM (resVal a.tmps)).run P w = .ok vals w ∧ IsL vs' vals ∧ memL w Z vs' ∧ (ownAL vs').Nodup ∧ (∀ b ∈ ownAL vs', b ∈ ownS S ∧ b ∉ ownS S')
  | [], S, vs, U, hG, h => by
    simp only [retVals, Option.some.injEq, Prod.mk.injEq] at h
    obtain ⟨rfl, rfl⟩ := h
    exact ⟨[], S, [], rfl, rfl, hG, fr_of_less (.refl S), by simp, rfl, trivial, by simp [ownAL], by simp [ownAL]⟩
  | .tmp d :: r, S, vs, U, hG, h => by
    simp only [retVals] at h
    split at h
    · rename_i cs U1 hu
      split at h
      · rename_i vs2 U2 hr
        obtain ⟨v0, ts', S1, e0, e1, e2, e3, e4, e5, e6, e7, e8, e9⟩ := usedV_ok hG hu
        subst e1 e2
        obtain ⟨vs', S2, vals, f1, f2, f3, f4, f5, f6, f7, f8, f9⟩ := retVals_ok e3 hr
        subst f1 f2
        have fin : ∀ v : AV Hd, (v = .agg (ts'.map .tr) ∨ ∃ c, ts' = [c] ∧ v = .tr c) → IsA v (a.eval (.tmp d)) → ∃ (vs'' : List (AV Hd)) (S' : St Hd) (vals : List Value), erL vs'' = erA v :: erL vs' ∧ erS S' = erS S2 ∧ Good Z S' a w ∧ Fr S w S' w ∧ ((.tmp d :: r : List ResultVar).mapM (resVal a.tmps)).run P w = .ok vals w ∧ IsL vs'' vals ∧ memL w Z vs'' ∧ (ownAL vs'').Nodup ∧ (∀ b ∈ ownAL vs'', b ∈ ownS S ∧ b ∉ ownS S') := by
          intro v hv hi
          obtain ⟨m1, m2, m3⟩ := one_res e5 e6 hv
          refine ⟨v :: vs', S2, a.eval (.tmp d) :: vals, rfl, rfl, f3, (fr_of_less e4).trans f4, ?_, ⟨_, _, rfl, hi, f6⟩, ⟨m1, f7⟩, ?_, fun b hb => ?_⟩
          · simp only [List.mapM_cons, Sem.run_bind, resVal, Sem.run_pure, Result.andThen_ok, f5]
            rfl
          · simp only [ownAL]
            refine List.nodup_append.2 ⟨m3, f8, fun x hx y hy hxy => ?_⟩
            subst hxy
            rw [m2] at hx
            exact (e7 x hx).2 (f9 x hy).1
          · simp only [ownAL, List.mem_append, m2] at hb
            rcases hb with hb | hb
            · refine ⟨(e7 b hb).1, fun hc => ?_⟩
              rcases f4.own b hc with hc | hc
              · exact (e7 b hb).2 hc
              · exact absurd (hG.zn b (e7 b hb).1).2 (by omega)
            · exact ⟨e4.own b (f9 b hb).1, (f9 b hb).2⟩
        simp only [ev] at e0
        split at h
        · rename_i acs hl
          rw [hl] at e0
          simp at e0; subst e0
          simp only [Option.some.injEq, Prod.mk.injEq] at h
          obtain ⟨rfl, rfl⟩ := h
          obtain ⟨us, u1, u2⟩ := e8 _ rfl
          have := fin (.agg (ts'.map .tr)) (.inl rfl) ⟨us, u1, u2⟩
          simpa [erA, erRow_tr] using this
        · rename_i hno
          split at h
          · rename_i c heq
            simp only [Option.some.injEq, Prod.mk.injEq] at h
            obtain ⟨rfl, rfl⟩ := h
            have hn : ∀ cs, v0 ≠ .agg cs := by
              rintro cs rfl
              split at e0
              · rename_i v hl; simp at e0; subst e0; exact hno _ hl
              · simp at e0
              · simp at e0
            have hi := e9 hn
            have hlen : ts'.length = 1 := by rw [← erRow_length, heq]; rfl
            obtain ⟨c', rfl⟩ := List.length_eq_one_iff.1 hlen
            simp only [erRow, List.cons.injEq, and_true] at heq
            obtain ⟨u, us, hu1, hu2, _⟩ := hi
            simp at hu1
            obtain ⟨rfl, _⟩ := hu1
            have := fin (.tr c') (.inr ⟨c', rfl, rfl⟩) (by simpa using hu2)
            simpa [erA, heq] using this
          · simp at h
      · simp at h
    · simp at h
  | .cell d t :: r, S, vs, U, hG, h => by
    simp only [retVals, look_er] at h
    cases hl : look S d with
    | none => simp [hl] at h
    | some e =>
      simp only [hl, Option.map_some] at h
      cases e with
      | tmp v => simp [erE] at h
      | vir t => simp [erE] at h
      | box g cs0 =>
        simp only [erE] at h
        split at h
        · rename_i hty
          obtain ⟨hty, hlen0⟩ := hty
          rw [erL_length] at hlen0
          split at h
          · rename_i cs U1 hres
            split at h
            · rename_i vs2 U2 hr
              obtain ⟨S1, d1, d2, d3, d4, d5, d6⟩ := dropBox_ok hG hl
              rw [← d1, ← poiL_er] at hres
              obtain ⟨h1, A, h2, h3, cells, e, b4, b5, b6⟩ := hG.ent _ _ hl
              have hm0 : memL w Z cs0 := memL_iff.2 fun x hx => by obtain ⟨j, hj⟩ := List.getElem?_of_mem hx; exact (b6 j x hj).2
              obtain ⟨ts', S2, g1, g2, g3, g4, g5, g6, g7, g8⟩ := resolve_ok d2 hres (memL_poi _ _ hm0) (by rw [ownAL_poi]; exact d5) (fun b hb => by rw [ownAL_poi] at hb; exact (d6 b hb).2) (fun c hc => RefW_of (refOkL_iff.1 d4 c hc))
              subst g1 g2
              obtain ⟨vs', S3, vals, f1, f2, f3, f4, f5, f6, f7, f8, f9⟩ := retVals_ok g3 hr
              subst f1 f2
              obtain ⟨us, u1, u2, u3, u4⟩ := cells_read (P := P) (w := w) (off := A.off) (row := cs0) (n := szOf P t) b4 hlen0 (fun j c hj => (b6 j c hj).1)
              have hts := g8.1 _ (IsL_poi _ _ _ u2)
              have hA : A = ⟨A.block, A.off, none⟩ := by obtain ⟨b, off, sp⟩ := A; simp at h3; subst h3; rfl
              have hown : ∀ b ∈ ownRow ts', b ∈ ownS S ∧ b ∉ ownS S2 := fun b hb => ⟨by
                rcases (g7 b hb).1 with hb | hb
                · rw [ownAL_poi] at hb; exact (d6 b hb).1
                · rcases d3.own b hb with hb | hb
                  · exact hb
                  · exact absurd (d2.zn b (by assumption)).2 (by omega), (g7 b hb).2⟩
              have hsub : ∀ b ∈ ownS S2, b ∈ ownS S := fun b hb => by
                have hb1 := g4.own b hb
                rcases d3.own b hb1 with h | h
                · exact h
                · exact absurd (d2.zn b hb1).2 (by omega)
              have fin : ∀ (v : AV Hd) (val : Value), (v = .agg (ts'.map .tr) ∨ ∃ c, ts' = [c] ∧ v = .tr c) → IsA v val → (resVal a.tmps (.cell d t)).run P w = .ok val w → ∃ (vs'' : List (AV Hd)) (S' : St Hd) (vals : List Value), erL vs'' = erA v :: erL vs' ∧ erS S' = erS S3 ∧ Good Z S' a w ∧ Fr S w S' w ∧ ((.cell d t :: r : List ResultVar).mapM (resVal a.tmps)).run P w = .ok vals w ∧ IsL vs'' vals ∧ memL w Z vs'' ∧ (ownAL vs'').Nodup ∧ (∀ b ∈ ownAL vs'', b ∈ ownS S ∧ b ∉ ownS S') := by
                intro v val hv hi hrun
                obtain ⟨m1, m2, m3⟩ := one_res g5 g6 hv
                refine ⟨v :: vs', S3, val :: vals, rfl, rfl, f3, (d3.trans (fr_of_less g4)).trans f4, ?_, ⟨_, _, rfl, hi, f6⟩, ⟨m1, f7⟩, ?_, fun b hb => ?_⟩
                · simp only [List.mapM_cons, Sem.run_bind, hrun, Sem.run_pure, Result.andThen_ok, f5]
                · simp only [ownAL]
                  refine List.nodup_append.2 ⟨m3, f8, fun x hx y hy hxy => ?_⟩
                  subst hxy
                  rw [m2] at hx
                  exact (hown x hx).2 (f9 x hy).1
                · simp only [ownAL, List.mem_append, m2] at hb
                  rcases hb with hb | hb
                  · refine ⟨(hown b hb).1, fun hc => ?_⟩
                    rcases f4.own b hc with hc | hc
                    · exact (hown b hb).2 hc
                    · exact absurd (hG.zn b (hown b hb).1).2 (by omega)
                  · exact ⟨hsub b (f9 b hb).1, (f9 b hb).2⟩
              split at h
              · rename_i hagg
                simp only [Option.some.injEq, Prod.mk.injEq] at h
                obtain ⟨rfl, rfl⟩ := h
                have := fin (.agg (ts'.map .tr)) (.agg us.toArray) (.inl rfl) ⟨us.toArray, rfl, hts⟩ (by
                  rw [hA] at h2
                  simp only [resVal, h1, h2, asAddr, loadVar, Sem.run_bind, Sem.run_pure, Result.andThen_ok, run_isAgg' hty, hagg, if_true, run_sizeOf' hty, u3])
                simpa [erA, erRow_tr] using this
              · rename_i hagg
                split at h
                · rename_i c heq
                  simp only [Option.some.injEq, Prod.mk.injEq] at h
                  obtain ⟨rfl, rfl⟩ := h
                  have hlen : ts'.length = 1 := by rw [← erRow_length, heq]; rfl
                  obtain ⟨c', rfl⟩ := List.length_eq_one_iff.1 hlen
                  simp only [erRow, List.cons.injEq, and_true] at heq
                  obtain ⟨u, us2, hu1, hu2, hu3⟩ := hts
                  simp [IsL] at hu3
                  subst hu1 hu3
                  have hcell : w.cell? ⟨A.block, A.off, none⟩ = some u := by
                    have := u4 0 u rfl
                    rw [cell_eq b4]; simpa using this
                  have := fin (.tr c') u (.inr ⟨c', rfl, rfl⟩) hu2 (by
                    rw [hA] at h2
                    simp only [resVal, h1, h2, asAddr, loadVar, Sem.run_bind, Sem.run_pure, Result.andThen_ok, run_isAgg' hty, hagg, Bool.false_eq_true, if_false, run_load, hcell])
                  simpa [erA, heq] using this
                · simp at h
            · simp at h
          · simp at h
        · simp at h
end Go.HT
end
section
namespace Go.HT
open Go
variable {P : Program} {Z Z' : Zone} {S : St Hd} {a : Act} {w : World}

/-! ### Lending, annotated -/
mutual
theorem erT_boT : ∀ t : Tr Hd, erT (boT t) = boT (erT t)
  | .undef => rfl
  | .int _ _ => rfl
  | .bool _ => rfl
  | .str _ => rfl
  | .sl κ g w rows => by simp only [boT, erT, erRows_boRows rows]
theorem erRow_boRow : ∀ l : List (Tr Hd), erRow (boRow l) = boRow (erRow l)
  | [] => rfl
  | t :: r => by simp only [boRow, erRow, erT_boT t, erRow_boRow r]
theorem erRows_boRows : ∀ l : List (List (Tr Hd)), erRows (boRows l) = boRows (erRows l)
  | [] => rfl
  | t :: r => by simp only [boRows, erRows, erRow_boRow t, erRows_boRows r]
end
theorem boRow_map {G : Type} (l : List (Tr G)) : boRow l = l.map boT := by induction l with | nil => rfl | cons t r ih => simp [boRow, ih]
theorem boRows_map {G : Type} (l : List (List (Tr G))) : boRows l = l.map boRow := by induction l with | nil => rfl | cons t r ih => simp [boRows, ih]
theorem ownT_boT (t : Tr Hd) : ownT (boT t) = [] := by
  cases t with
  | sl κ g w rows => cases κ <;> simp [boT, ownT]
  | _ => rfl
theorem IsT_boT {t : Tr Hd} {v : Value} (h : IsT t v) : IsT (boT t) v := by
  cases t with
  | sl κ g w rows => simp only [boT, IsT, boRows_map, List.length_map] at *; exact h
  | _ => exact h
mutual
theorem memT_boT (hs : ∀ k, Z.s k → Z'.s k) (hb : ∀ k, Z.b k → Z'.b k) : ∀ (al al' : Bool) (t : Tr Hd), memT w Z al t → (al = true → ∀ b ∈ ownT t, Z'.b b) → memT w Z' al' (boT t)
  | _, _, .undef, _, _ => trivial
  | _, _, .int _ _, _, _ => trivial
  | _, _, .bool _, _, _ => trivial
  | _, _, .str _, _, _ => trivial
  | al, al', .sl κ g wd rows, ⟨h1, h2, h3⟩, ho => by
    simp only [boT]
    have hk : (if κ = .own then Knd.bo else κ) ≠ .own := by cases κ <;> simp
    refine ⟨⟨fun hg => ?_, fun A hA => ?_⟩, fun hc => absurd hc hk, ?_⟩
    · obtain ⟨r1, r2⟩ := h1.1 hg
      exact ⟨by rw [boRows_map, r1]; rfl, r2⟩
    · obtain ⟨a1, a2, a3, cs, e, fr, a4, a5, a6⟩ := h1.2 A hA
      refine ⟨a1, by rw [boRows_map, List.length_map]; exact a2, ?_, cs, e, fr, a4, fun hc => absurd hc hk, fun i row hi => ?_⟩
      · cases κ with
        | own =>
          simp only [if_true]
          exact ho (h2 rfl) _ (by simp [ownT, hA])
        | sh => exact hs _ a3
        | bo => exact hb _ a3
      · rw [boRows_map, List.getElem?_map] at hi
        cases hr : rows[i]? with
        | none => simp [hr] at hi
        | some r0 =>
          simp [hr] at hi; subst hi
          obtain ⟨b1, b2⟩ := a6 i r0 hr
          refine ⟨by rw [boRow_map, List.length_map]; exact b1, fun j c hj => ?_⟩
          rw [boRow_map, List.getElem?_map] at hj
          cases hc : r0[j]? with
          | none => simp [hc] at hj
          | some c0 =>
            simp [hc] at hj; subst hj
            obtain ⟨v, v1, v2⟩ := b2 j c0 hc
            exact ⟨v, v1, IsT_boT v2⟩
    · refine memRows_boT hs hb (al && decide (κ = .own)) _ rows h3 (fun hal b hb' => ?_)
      have := (Bool.and_eq_true_iff.1 hal)
      have hκ : κ = .own := by simpa using this.2
      subst hκ
      exact ho this.1 b (by simp [ownT, hb'])
theorem memRow_boT (hs : ∀ k, Z.s k → Z'.s k) (hb : ∀ k, Z.b k → Z'.b k) : ∀ (al al' : Bool) (l : List (Tr Hd)), memRow w Z al l → (al = true → ∀ b ∈ ownRow l, Z'.b b) → memRow w Z' al' (boRow l)
  | _, _, [], _, _ => trivial
  | al, al', t :: r, ⟨h1, h2⟩, ho => ⟨memT_boT hs hb al al' t h1 (fun h b hb' => ho h b (by simp [ownRow, hb'])), memRow_boT hs hb al al' r h2 (fun h b hb' => ho h b (by simp [ownRow, hb']))⟩
theorem memRows_boT (hs : ∀ k, Z.s k → Z'.s k) (hb : ∀ k, Z.b k → Z'.b k) : ∀ (al al' : Bool) (l : List (List (Tr Hd))), memRows w Z al l → (al = true → ∀ b ∈ ownRows l, Z'.b b) → memRows w Z' al' (boRows l)
  | _, _, [], _, _ => trivial
  | al, al', t :: r, ⟨h1, h2⟩, ho => ⟨memRow_boT hs hb al al' t h1 (fun h b hb' => ho h b (by simp [ownRows, hb'])), memRows_boT hs hb al al' r h2 (fun h b hb' => ho h b (by simp [ownRows, hb']))⟩
end
/-! ### Another zone -/
mutual
theorem memT_zone (hs : ∀ k, Z'.s k → Z.s k) (hb : ∀ k, Z.b k → Z'.b k) : ∀ (al : Bool) (t : Tr Hd), memT w Z' al t → noBoT (erT t) = true → memT w Z al t
  | _, .undef, _, _ => trivial
  | _, .int _ _, _, _ => trivial
  | _, .bool _, _, _ => trivial
  | _, .str _, _, _ => trivial
  | al, .sl κ g wd rows, ⟨h1, h2, h3⟩, hn => by
    simp only [erT, noBoT, Bool.and_eq_true] at hn
    refine ⟨⟨h1.1, fun A hA => ?_⟩, h2, memRows_zone hs hb _ rows h3 hn.2⟩
    obtain ⟨a1, a2, a3, a4⟩ := h1.2 A hA
    refine ⟨a1, a2, ?_, a4⟩
    cases κ with
    | own => exact fun hc => a3 (hb _ hc)
    | sh => exact hs _ a3
    | bo => simp at hn
theorem memRow_zone (hs : ∀ k, Z'.s k → Z.s k) (hb : ∀ k, Z.b k → Z'.b k) : ∀ (al : Bool) (l : List (Tr Hd)), memRow w Z' al l → noBoRow (erRow l) = true → memRow w Z al l
  | _, [], _, _ => trivial
  | al, t :: r, ⟨h1, h2⟩, hn => by
    simp only [erRow, noBoRow, Bool.and_eq_true] at hn
    exact ⟨memT_zone hs hb al t h1 hn.1, memRow_zone hs hb al r h2 hn.2⟩
theorem memRows_zone (hs : ∀ k, Z'.s k → Z.s k) (hb : ∀ k, Z.b k → Z'.b k) : ∀ (al : Bool) (l : List (List (Tr Hd))), memRows w Z' al l → noBoRows (erRows l) = true → memRows w Z al l
  | _, [], _, _ => trivial
  | al, t :: r, ⟨h1, h2⟩, hn => by
    simp only [erRows, noBoRows, Bool.and_eq_true] at hn
    exact ⟨memRow_zone hs hb al t h1 hn.1, memRows_zone hs hb al r h2 hn.2⟩
end
theorem noBoL_tr : ∀ {cs : List (AV Hd)}, noBoL (erL cs) = true → ∃ ts : List (Tr Hd), cs = ts.map .tr ∧ ∀ t ∈ ts, noBoT (erT t) = true
  | [], _ => ⟨[], rfl, by simp⟩
  | c :: r, h => by
    cases c with
    | tr t =>
      simp only [erL, erA, noBoL, Bool.and_eq_true] at h
      obtain ⟨ts, h1, h2⟩ := noBoL_tr h.2
      exact ⟨t :: ts, by simp [h1], by simp; exact ⟨h.1, h2⟩⟩
    | _ => simp [erL, erA, noBoL] at h
theorem memL_zone (hs : ∀ k, Z'.s k → Z.s k) (hb : ∀ k, Z.b k → Z'.b k) {cs : List (AV Hd)} (h : memL w Z' cs) (hn : noBoL (erL cs) = true) : memL w Z cs := by
  obtain ⟨ts, rfl, h2⟩ := noBoL_tr hn
  refine memL_tr fun t ht => memT_zone hs hb true t ?_ (h2 t ht)
  exact memL_iff.1 h (.tr t) (List.mem_map.2 ⟨t, ht, rfl⟩)
theorem refOkL_noBo {S : St Hd} {cs : List (AV Hd)} (hn : noBoL (erL cs) = true) : refOkL S cs := by
  obtain ⟨ts, rfl, _⟩ := noBoL_tr hn
  exact refOkL_tr ts
theorem memA_zone (hs : ∀ k, Z'.s k → Z.s k) (hb : ∀ k, Z.b k → Z'.b k) {v : AV Hd} (h : memA w Z' v) (hn : noBoV (erA v) = true) : memA w Z v ∧ ∀ S : St Hd, refOk S v := by
  cases v with
  | tr t => exact ⟨memT_zone hs hb true t h (by simpa [erA, noBoV] using hn), fun _ => trivial⟩
  | agg cs => exact ⟨memL_zone hs hb h (by simpa [erA, noBoV] using hn), fun S => refOkL_noBo (by simpa [erA, noBoV] using hn)⟩
  | _ => simp [erA, noBoV] at hn
/-- What comes back from a call may be kept. -/
theorem entOk_zone (hs : ∀ k, Z'.s k → Z.s k) (hb : ∀ k, Z.b k → Z'.b k) {d : Nat} {e : Ent Hd} (h : entOk a w Z' d e) (hn : noBoR (erE e) = true) : entOk a w Z d e ∧ ∀ S : St Hd, refOkE S e := by
  cases e with
  | vir t => simp [erE, noBoR] at hn
  | box g cs =>
    have hn' : noBoL (erL cs) = true := by simpa [erE, noBoR] using hn
    obtain ⟨h1, A, h2, h3, cells, e0, h4, h5, h6⟩ := h
    have hm : memL w Z' cs := memL_iff.2 fun x hx => by obtain ⟨j, hj⟩ := List.getElem?_of_mem hx; exact (h6 j x hj).2
    have hm' := memL_zone hs hb hm hn'
    exact ⟨⟨h1, A, h2, h3, cells, e0, h4, h5, fun j c hj => ⟨(h6 j c hj).1, memL_iff.1 hm' c (List.mem_of_getElem? hj)⟩⟩, fun S => refOkL_noBo hn'⟩
  | tmp v =>
    cases v with
    | tup vs =>
      have hn' : ((erL vs).all noBoV) = true := by simpa [erE, erA, noBoR] using hn
      have key : ∀ v ∈ vs, memA w Z v ∧ ∀ S : St Hd, refOk S v := fun v hv => memA_zone hs hb (memL_iff.1 h.2 v hv) (List.all_eq_true.1 hn' (erA v) (by rw [erL_map]; exact List.mem_map.2 ⟨v, hv, rfl⟩))
      exact ⟨⟨h.1, memL_iff.2 fun v hv => (key v hv).1⟩, fun S => refOkL_iff.2 fun v hv => (key v hv).2 S⟩
    | _ =>
      have hn' := hn
      simp only [erE, erA, noBoR] at hn'
      first
        | (obtain ⟨k1, k2⟩ := memA_zone hs hb h.2 (by simpa [erA] using hn'); exact ⟨⟨h.1, k1⟩, fun S => k2 S⟩)
        | (simp [noBoV] at hn')
end Go.HT
end
section
namespace Go.HT
open Go
variable {P : Program} {Z Z' : Zone} {S : St Hd} {a : Act} {w : World}

mutual
theorem memT_up (hs : ∀ k, Z.s k → Z'.s k) (hb : ∀ k, Z.b k → Z'.b k) : ∀ (t : Tr Hd), memT w Z false t → memT w Z' false t
  | .undef, _ => trivial
  | .int _ _, _ => trivial
  | .bool _, _ => trivial
  | .str _, _ => trivial
  | .sl κ g wd rows, ⟨h1, h2, h3⟩ => by
    refine ⟨⟨h1.1, fun A hA => ?_⟩, h2, memRows_up hs hb rows h3⟩
    obtain ⟨a1, a2, a3, a4⟩ := h1.2 A hA
    refine ⟨a1, a2, ?_, a4⟩
    cases κ with
    | own => exact absurd (h2 rfl) (by simp)
    | sh => exact hs _ a3
    | bo => exact hb _ a3
theorem memRow_up (hs : ∀ k, Z.s k → Z'.s k) (hb : ∀ k, Z.b k → Z'.b k) : ∀ (l : List (Tr Hd)), memRow w Z false l → memRow w Z' false l
  | [], _ => trivial
  | t :: r, ⟨h1, h2⟩ => ⟨memT_up hs hb t h1, memRow_up hs hb r h2⟩
theorem memRows_up (hs : ∀ k, Z.s k → Z'.s k) (hb : ∀ k, Z.b k → Z'.b k) : ∀ (l : List (List (Tr Hd))), memRows w Z false l → memRows w Z' false l
  | [], _ => trivial
  | t :: r, ⟨h1, h2⟩ => ⟨memRow_up hs hb t h1, memRows_up hs hb r h2⟩
end
def slotC (S : St Hd) (r : Nat) : List Nat := match look S r with
  | some e => ownAL e.cells
  | none => []
theorem slotC_slot {r b : Nat} (h : b ∈ slotC S r) : b ∈ slotB S r := by
  simp only [slotC, slotB] at *
  cases hl : look S r with
  | none => simp [hl] at h
  | some e => simp only [hl] at *; rw [ownE_cells]; exact List.mem_append.2 (.inr h)
theorem getC_slotC {q : Place} {c : AV Hd} {b : Nat} (h : getC S q = some c) (hb : b ∈ ownA c) : b ∈ slotC S q.root := by
  simp only [getC, rowOf] at h
  cases hl : look S q.root with
  | none => simp [hl] at h
  | some e =>
    simp only [hl] at h
    split at h
    · rename_i row hr
      simp only [slotC, hl]
      exact stepRow_own hr (List.mem_of_getElem? h) hb
    · simp at h
/-- What a box's cells and what other slots own lies outside the box itself. -/
theorem slotC_not_blk (hG : Good Z S a w) {r r' b : Nat} {g : Hd} {cs : List (AV Hd)} (h : b ∈ slotC S r) (hl : look S r' = some (.box g cs)) : b ∉ blk g := by
  intro hb
  simp only [slotC] at h
  cases hr : look S r with
  | none => simp [hr] at h
  | some e =>
    simp only [hr] at h
    by_cases hrr : r = r'
    · subst hrr
      rw [hl] at hr; simp at hr; subst hr
      have := hG.ownE_nodup hl
      exact nodup_apart this hb h
    · exact look_ne hG.nd hr hl hrr b (by rw [ownE_cells]; exact List.mem_append.2 (.inr h)) (by simp [ownE, hb])
theorem slotB_ne (hG : Good Z S a w) {r r' b : Nat} (h : b ∈ slotB S r) (h' : b ∈ slotB S r') : r = r' := by
  simp only [slotB] at h h'
  cases hr : look S r with
  | none => simp [hr] at h
  | some e =>
    cases hr' : look S r' with
    | none => simp [hr'] at h'
    | some e' =>
      simp only [hr, hr'] at h h'
      by_cases hrr : r = r'
      · exact hrr
      · exact absurd h' (look_ne hG.nd hr hr' hrr b h)

/-- A cell is lent. -/
theorem lend_ok (hG : Good Z S a w) (hs : ∀ k, Z.s k → Z'.s k) (hb : ∀ k, Z.b k → Z'.b k) {c : AV Hd} {u : UV} (h : lend (erS S) (erA c) = some u) (hm : memA w Z c) (hr : refOk S c)
    (ho : ∀ b, (b ∈ ownA c ∨ ∃ r ∈ rootsV c, b ∈ slotC S r) → Z'.b b) : ∃ c', erA c' = u ∧ memA w Z' c' ∧ ownA c' = [] ∧ (∀ v, IsA c v → IsA c' v) ∧ ∀ S, refOk S c' := by
  cases c with
  | tr t =>
    simp only [erA, lend, Option.some.injEq] at h
    subst h
    exact ⟨.tr (boT t), by simp [erA, erT_boT], memT_boT hs hb true true t hm (fun _ b hb' => ho b (.inl hb')), by simp [ownA, ownT_boT], fun v hv => IsT_boT hv, fun _ => trivial⟩
  | ref q lo n cp g =>
    obtain ⟨g0, w0, rows, hc, s1, s2, s3, s4, s5, s6, s7⟩ := hr
    simp only [erA, lend, getC_er, hc, Option.map_some, erT, Option.some.injEq] at h
    subst h
    obtain ⟨m1, m2, m3⟩ := hG.getMem hc
    have hlen : ((rows.drop lo).take n).length = n := by simp; omega
    have hblk : ∀ A0, g0.a = some A0 → Z'.b A0.block := fun A0 h0 => ho _ (.inr ⟨q.root, by simp [rootsV], getC_slotC hc (by simp [ownA, ownT, h0])⟩)
    refine ⟨.tr (.sl .bo g w0 (boRows ((rows.drop lo).take n))), ?_, ⟨⟨fun hg => ?_, fun A hA => ?_⟩, by simp, ?_⟩, by simp [ownA, ownT], fun v hv => ?_, fun _ => trivial⟩
    · simp only [erA, erT, erRows_boRows]
      congr 4
      rw [erRows_map, erRows_map, List.map_take, List.map_drop]
    · have hn : n = 0 := by have := s7 hg; omega
      exact ⟨by subst hn; simp [boRows], s7 hg⟩
    · obtain ⟨k1, A0, k2, k3⟩ := s6 A hA
      obtain ⟨q1, q2, q3, cs, e, fr, q4, q5, q6⟩ := m1.2 A0 k2
      refine ⟨k1, by rw [boRows_map, List.length_map, hlen]; exact s3, by simp only [Zone.of]; rw [k3]; exact hblk A0 k2, cs, e, fr, by rw [k3]; exact q4, by simp, fun i row hi => ?_⟩
      rw [boRows_map, List.getElem?_map] at hi
      cases hri : ((rows.drop lo).take n)[i]? with
      | none => simp [hri] at hi
      | some r0 =>
        simp [hri] at hi; subst hi
        have hi' := hri
        rw [List.getElem?_take] at hi'
        split at hi'
        · rename_i hin
          rw [List.getElem?_drop] at hi'
          obtain ⟨A1, b1, b2⟩ := s2 (by omega)
          rw [k2] at b1; simp at b1; subst b1
          rw [hA] at b2; simp at b2
          obtain ⟨r1, r2⟩ := q6 _ r0 hi'
          refine ⟨by rw [boRow_map, List.length_map]; exact r1, fun j c hj => ?_⟩
          rw [boRow_map, List.getElem?_map] at hj
          cases hcj : r0[j]? with
          | none => simp [hcj] at hj
          | some c0 =>
            simp [hcj] at hj; subst hj
            obtain ⟨v, v1, v2⟩ := r2 j c0 hcj
            refine ⟨v, ?_, IsT_boT v2⟩
            rw [← v1, b2]
            simp only
            congr 1
            rw [Nat.add_mul]; omega
        · simp at hi'
    · refine memRows_boT hs hb true _ _ (memRows_iff.2 fun r hr => ?_) (fun _ b hb' => ho b (.inr ⟨q.root, by simp [rootsV], getC_slotC hc ?_⟩))
      · have := memRows_iff.1 m3 r (List.mem_of_mem_drop (List.mem_of_mem_take hr))
        simpa using this
      · simp only [ownA, ownT, List.mem_append]
        right
        obtain ⟨r, hr, hb2⟩ := mem_ownRows.1 hb'
        exact mem_ownRows.2 ⟨r, List.mem_of_mem_drop (List.mem_of_mem_take hr), hb2⟩
    · simp only [IsA, IsT] at hv ⊢
      rw [boRows_map, List.length_map, hlen]; exact hv
  | psh row o g =>
    simp only [erA, lend, Option.some.injEq] at h
    subst h
    obtain ⟨B, h1, h2, h3⟩ := hm
    exact ⟨.psh row o g, by simp [erA], ⟨B, h1, hb _ h2, fun j c hj => ⟨(h3 j c hj).1, memT_up hs hb c (h3 j c hj).2⟩⟩, rfl, fun v hv => hv, fun _ => trivial⟩
  | _ => simp [erA, lend] at h
theorem lendL_ok (hG : Good Z S a w) (hs : ∀ k, Z.s k → Z'.s k) (hb : ∀ k, Z.b k → Z'.b k) : ∀ {cs : List (AV Hd)} {us : List UV}, lendL (erS S) (erL cs) = some us → memL w Z cs → refOkL S cs →
    (∀ b, (b ∈ ownAL cs ∨ ∃ r ∈ rootsL cs, b ∈ slotC S r) → Z'.b b) → ∃ cs', erL cs' = us ∧ memL w Z' cs' ∧ ownAL cs' = [] ∧ (∀ vs, IsL cs vs → IsL cs' vs) ∧ ∀ S, refOkL S cs'
  | [], us, h, _, _, _ => by
    simp only [erL, lendL, Option.some.injEq] at h
    subst h
    exact ⟨[], rfl, trivial, rfl, fun _ h => h, fun _ => trivial⟩
  | c :: r, us, h, ⟨m1, m2⟩, ⟨r1, r2⟩, ho => by
    simp only [erL, lendL] at h
    split at h
    · rename_i u us' e1 e2
      simp only [Option.some.injEq] at h
      subst h
      obtain ⟨c', c1, c2, c3, c4, c5⟩ := lend_ok hG hs hb e1 m1 r1 (fun b hb' => ho b (hb'.imp (fun h => by simp [ownAL, h]) (fun ⟨r, hr, h⟩ => ⟨r, by simp [rootsL, hr], h⟩)))
      obtain ⟨cs', d1, d2, d3, d4, d5⟩ := lendL_ok hG hs hb e2 m2 r2 (fun b hb' => ho b (hb'.imp (fun h => by simp [ownAL, h]) (fun ⟨r, hr, h⟩ => ⟨r, by simp [rootsL, hr], h⟩)))
      exact ⟨c' :: cs', by simp [erL, c1, d1], ⟨c2, d2⟩, by simp [ownAL, c3, d3], fun vs ⟨v, us, e, h1, h2⟩ => ⟨v, us, e, c4 v h1, d4 us h2⟩, fun S => ⟨c5 S, d5 S⟩⟩
    · simp at h
theorem lendV_ok (hG : Good Z S a w) (hs : ∀ k, Z.s k → Z'.s k) (hb : ∀ k, Z.b k → Z'.b k) {c : AV Hd} {u : UV} (h : lendV (erS S) (erA c) = some u) (hm : memA w Z c) (hr : refOk S c)
    (ho : ∀ b, (b ∈ ownA c ∨ ∃ r ∈ rootsV c, b ∈ slotC S r) → Z'.b b) : ∃ c', erA c' = u ∧ memA w Z' c' ∧ ownA c' = [] ∧ (∀ v, IsA c v → IsA c' v) ∧ ∀ S, refOk S c' := by
  by_cases hA : ∃ cs, c = .agg cs
  · obtain ⟨cs, rfl⟩ := hA
    simp only [erA, lendV] at h
    split at h
    · rename_i us hl
      simp at h; subst h
      obtain ⟨cs', d1, d2, d3, d4, d5⟩ := lendL_ok hG hs hb hl hm hr ho
      exact ⟨.agg cs', by simp [erA, d1], d2, d3, fun v ⟨vs, e, h⟩ => ⟨vs, e, d4 _ h⟩, d5⟩
    · simp at h
  · have : lendV (erS S) (erA c) = lend (erS S) (erA c) := by
      cases c with
      | agg cs => exact absurd ⟨cs, rfl⟩ hA
      | _ => rfl
    rw [this] at h
    exact lend_ok hG hs hb h hm hr ho

/-! ### Taking over -/
def ownO : Option (Ent Hd) → List Nat
  | some e => ownE e
  | none => []
def ownOs : List (Option (Ent Hd)) → List Nat
  | [] => []
  | o :: r => ownO o ++ ownOs r
def erO (o : Option (Ent Hd)) : Option UE := o.map erE
theorem passTake_ok {md : Nat → Nat} : ∀ {args : List (Operand × TypeId)} {i : Nat} {S : St Hd} {es : List (Option UE)} {U : US}, Good Z S a w → passTake P md i (erS S) args = some (es, U) →
    ∃ (E : List (Option (Ent Hd))) (S' : St Hd), E.map erO = es ∧ erS S' = U ∧ Good Z S' a w ∧ Less S S' ∧
      (∀ (j : Nat) e, E[j]? = some (some e) → ∃ v xt, args[j]? = some xt ∧ e = .tmp v ∧ IsA v (a.eval xt.1) ∧ memA w Z v ∧ ∀ S, refOk S v) ∧ (ownOs E).Nodup ∧ ∀ b ∈ ownOs E, b ∈ ownS S ∧ b ∉ ownS S'
  | [], i, S, es, U, hG, h => by
    simp only [passTake, Option.some.injEq, Prod.mk.injEq] at h
    obtain ⟨rfl, rfl⟩ := h
    exact ⟨[], S, rfl, rfl, hG, .refl S, by simp, by simp [ownOs], by simp [ownOs]⟩
  | (x, t) :: r, i, S, es, U, hG, h => by
    simp only [passTake] at h
    split at h
    · split at h
      · rename_i cs U1 hu
        split at h
        · rename_i es2 U2 hr
          obtain ⟨v0, ts', S1, e0, e1, e2, e3, e4, e5, e6, e7, e8, e9⟩ := usedV_ok hG hu
          subst e1 e2
          obtain ⟨E, S2, f1, f2, f3, f4, f5, f6, f7⟩ := passTake_ok e3 hr
          subst f1 f2
          have fin : ∀ v : AV Hd, (v = .agg (ts'.map .tr) ∨ ∃ c, ts' = [c] ∧ v = .tr c) → IsA v (a.eval x) → ∃ (E' : List (Option (Ent Hd))) (S' : St Hd), E'.map erO = some (.tmp (erA v)) :: E.map erO ∧ erS S' = erS S2 ∧ Good Z S' a w ∧ Less S S' ∧
              (∀ (j : Nat) e, E'[j]? = some (some e) → ∃ v xt, ((x, t) :: r)[j]? = some xt ∧ e = .tmp v ∧ IsA v (a.eval xt.1) ∧ memA w Z v ∧ ∀ S, refOk S v) ∧ (ownOs E').Nodup ∧ ∀ b ∈ ownOs E', b ∈ ownS S ∧ b ∉ ownS S' := by
            intro v hv hi
            obtain ⟨m1, m2, m3⟩ := one_res e5 e6 hv
            refine ⟨some (.tmp v) :: E, S2, rfl, rfl, f3, e4.trans f4, fun j e he => ?_, ?_, fun b hb => ?_⟩
            · cases j with
              | zero =>
                simp at he; subst he
                refine ⟨v, (x, t), rfl, rfl, hi, m1, fun S => ?_⟩
                rcases hv with rfl | ⟨c, _, rfl⟩
                · exact refOkL_tr ts'
                · trivial
              | succ j => exact f5 j e (by simpa using he)
            · simp only [ownOs, ownO, ownE]
              refine List.nodup_append.2 ⟨m3, f6, fun y hy z hz hyz => ?_⟩
              subst hyz
              rw [m2] at hy
              exact (e7 y hy).2 (f7 y hz).1
            · simp only [ownOs, ownO, ownE, List.mem_append, m2] at hb
              rcases hb with hb | hb
              · exact ⟨(e7 b hb).1, fun hc => (e7 b hb).2 (f4.own b hc)⟩
              · exact ⟨e4.own b (f7 b hb).1, (f7 b hb).2⟩
          split at h
          · rename_i acs hev
            rw [e0] at hev; simp at hev; subst hev
            simp only [Option.some.injEq, Prod.mk.injEq] at h
            obtain ⟨rfl, rfl⟩ := h
            obtain ⟨us, u1, u2⟩ := e8 _ rfl
            have := fin (.agg (ts'.map .tr)) (.inl rfl) ⟨us, u1, u2⟩
            simpa [erA, erRow_tr] using this
          · rename_i hno
            split at h
            · rename_i c heq
              simp only [Option.some.injEq, Prod.mk.injEq] at h
              obtain ⟨rfl, rfl⟩ := h
              have hi := e9 (by rintro cs rfl; exact hno _ e0)
              have hlen : ts'.length = 1 := by rw [← erRow_length, heq]; rfl
              obtain ⟨c', rfl⟩ := List.length_eq_one_iff.1 hlen
              simp only [erRow, List.cons.injEq, and_true] at heq
              obtain ⟨u, us, hu1, hu2, _⟩ := hi
              simp at hu1
              obtain ⟨rfl, _⟩ := hu1
              have := fin (.tr c') (.inr ⟨c', rfl, rfl⟩) (by simpa using hu2)
              simpa [erA, heq] using this
            · simp at h
        · simp at h
      · simp at h
    · split at h
      · rename_i es2 U2 hr
        simp only [Option.some.injEq, Prod.mk.injEq] at h
        obtain ⟨rfl, rfl⟩ := h
        obtain ⟨E, S2, f1, f2, f3, f4, f5, f6, f7⟩ := passTake_ok hG hr
        refine ⟨none :: E, S2, by simp [f1, erO], f2, f3, f4, fun j e he => ?_, by simpa [ownOs, ownO] using f6, by simpa [ownOs, ownO] using f7⟩
        cases j with
        | zero => simp at he
        | succ j => exact f5 j e (by simpa using he)
      · simp at h
end Go.HT
end
