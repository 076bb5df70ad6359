/- A part of the proof of: The law FnExactCtlJobAsks returns true, and its arguments read as before, for all arguments whose reading is together of bulk at most 1048576 (values and letters). -/
import Derived.Test.YtifbcpifgajdeaaGreatPc
import Derived.ChangeShapes
import Derived.Below
import Derived.ChangeSame
import Derived.KernelRfl
import Derived.Test.YtifbcpifgajdeaaGreatProg
set_option linter.all false
set_option linter.unusedSimpArgs false
set_option linter.unusedVariables false
section
namespace Go.HT
open Go Go.ChangeShapes
/-- What a type's cells are, for reading what came in. -/
inductive Shp where
  | int (k : IntKind)
  | bool
  | str
  | sl (cells : List Shp)
def Shp.isSl : Shp → Bool
  | .sl _ => true
  | _ => false
mutual
def shpT : Shp → Tr Hd → Prop
  | .int k, t => ∃ n, t = .int k n ∧ k.min ≤ n ∧ n ≤ k.max
  | .bool, t => ∃ b, t = .bool b
  | .str, t => ∃ s, t = .str s
  | .sl cells, t => ∃ g rows, t = .sl .sh g cells.length rows ∧ ∀ row ∈ rows, shpRow cells row
def shpRow : List Shp → List (Tr Hd) → Prop
  | [], row => row = []
  | s :: r, row => ∃ t row', row = t :: row' ∧ shpT s t ∧ shpRow r row'
end
def shpF (f : TypeId → Option (List Shp)) (sz : TypeId → Nat) : Nat → List Field → Option (List Shp)
  | _, [] => some []
  | off, x :: r => if x.offset = off then (f x.type).bind fun a => if a.length = sz x.type then (shpF f sz (off + a.length) r).map (a ++ ·) else none else none
def shpOf (P : Program) : Nat → TypeId → Option (List Shp)
  | 0, _ => none
  | d + 1, t => match P.underlying t with
    | some .bool => some [.bool]
    | some (.int k) => some [.int k]
    | some .string => some [.str]
    | some (.slice e) => (shpOf P d e).bind fun l => if l.length = P.cellsOf e ∧ 0 < l.length ∧ l.any Shp.isSl = false then some [.sl l] else none
    | some (.struct fs) => (shpF (shpOf P d) P.cellsOf 0 fs.toList).bind fun l => if l.length = P.cellsOf t then some l else none
    | _ => none
mutual
def wtT : UT → Nat
  | .str s => s.length
  | .sl _ _ _ rows => wtRows rows
  | _ => 0
def wtRow : List UT → Nat
  | [] => 0
  | t :: r => wtT t + wtRow r
def wtRows : List (List UT) → Nat
  | [] => 0
  | r :: rs => wtRow r + 1 + wtRows rs
end
theorem wtRow_append : ∀ (a b : List UT), wtRow (a ++ b) = wtRow a + wtRow b
  | [], b => by simp [wtRow]
  | t :: a, b => by simp only [List.cons_append, wtRow, wtRow_append a b]; omega
theorem shpRow_append : ∀ {a b : List Shp} {r s : List (Tr Hd)}, shpRow a r → shpRow b s → shpRow (a ++ b) (r ++ s)
  | [], b, r, s, h, h' => by simp only [shpRow] at h; subst h; exact h'
  | x :: a, b, r, s, h, h' => by
    simp only [shpRow] at h
    obtain ⟨t, r', rfl, h1, h2⟩ := h
    simp only [List.cons_append, shpRow]
    exact ⟨t, r' ++ s, rfl, h1, shpRow_append h2 h'⟩
/-- These cells are read as these trees. -/
def RdL (W : World) (Z : Zone) : List Value → List (Tr Hd) → Prop
  | [], row => row = []
  | v :: cs, row => ∃ t row', row = t :: row' ∧ IsT t v ∧ memT W Z false t ∧ RdL W Z cs row'
theorem RdL.append {W : World} {Z : Zone} : ∀ {a b : List Value} {r s : List (Tr Hd)}, RdL W Z a r → RdL W Z b s → RdL W Z (a ++ b) (r ++ s)
  | [], b, r, s, h, h' => by simp only [RdL] at h; subst h; exact h'
  | x :: a, b, r, s, h, h' => by
    simp only [RdL] at h
    obtain ⟨t, r', rfl, h1, h2, h3⟩ := h
    simp only [List.cons_append, RdL]
    exact ⟨t, r' ++ s, rfl, h1, h2, RdL.append h3 h'⟩
theorem RdL.length {W : World} {Z : Zone} : ∀ {a : List Value} {r : List (Tr Hd)}, RdL W Z a r → r.length = a.length
  | [], r, h => by simp only [RdL] at h; subst h; rfl
  | x :: a, r, h => by
    simp only [RdL] at h
    obtain ⟨t, r', rfl, h1, h2, h3⟩ := h
    simp [RdL.length h3]
theorem RdL.get {W : World} {Z : Zone} : ∀ {a : List Value} {r : List (Tr Hd)}, RdL W Z a r → ∀ (j : Nat) (c : Tr Hd), r[j]? = some c → ∃ v, a[j]? = some v ∧ IsT c v ∧ memT W Z false c
  | [], r, h, j, c, hj => by simp only [RdL] at h; subst h; simp at hj
  | x :: a, r, h, j, c, hj => by
    simp only [RdL] at h
    obtain ⟨t, r', rfl, h1, h2, h3⟩ := h
    cases j with
    | zero => simp at hj; subst hj; exact ⟨x, by simp, h1, h2⟩
    | succ j => simpa using RdL.get h3 j c (by simpa using hj)
theorem RdL.mem {W : World} {Z : Zone} {a : List Value} {r : List (Tr Hd)} (h : RdL W Z a r) : memRow W Z false r := by
  rw [memRow_iff]
  intro t ht
  obtain ⟨j, hj⟩ := List.mem_iff_getElem?.1 ht
  obtain ⟨_, _, _, h3⟩ := h.get j t hj
  exact h3
theorem rdL_one {W : World} {Z : Zone} {v : Value} {t : Tr Hd} (h1 : IsT t v) (h2 : memT W Z false t) : RdL W Z [v] [t] := ⟨_, _, rfl, h1, h2, rfl⟩
/-- A measure of readings. -/
structure Bulk {H : Type} (f : DataW H → Nat) : Prop where
  one : ∀ d, 1 ≤ f d
  str : ∀ s : List UInt8, s.length + 1 ≤ f (.lit (.string s))
  slice : ∀ elems spare, (elems.map f).sum + 1 ≤ f (.slice elems spare)
  agg : ∀ parts, (parts.map f).sum + 1 ≤ f (.agg parts)
def emptyOk (W : World) (v : Value) : Prop := ∀ A cap, v = .slice (some A) 0 cap → A.spot = none ∧ ∃ c e fr, W.heap[A.block]? = some (.cells c e fr)
section
variable {H : Type} {enc : TypeId × Value → H} {P : Program} {W : World} {Z : Zone} {f : DataW H → Nat}
theorem cell_block {a : Addr} {v : Value} (h : W.cell? a = some v) : a.spot = none ∧ ∃ c e fr, W.heap[a.block]? = some (.cells c e fr) := by
  unfold World.cell? at h
  split at h
  · rename_i c e fr hh
    split at h
    · simp at h
    · rename_i hs
      exact ⟨by simpa using hs, c, e, fr, hh⟩
  · simp at h
theorem read_fields {d : Nat}
    (ih : ∀ t shs, shpOf P d t = some shs → ∀ n cs x, DataW.trod enc P W 0 (fun _ => true) true n t cs = some x → (shs.any Shp.isSl = true → ∀ v ∈ cs, emptyOk W v) →
      ∃ row, RdL W Z cs row ∧ shpRow shs row ∧ wtRow (erRow row) + 1 ≤ f x.1) {n : Nat} {cs : List Value} :
    ∀ (fs : List Field) (off : Nat) (shs : List Shp) (xs : List (DataW H × List MemPlace)), shpF (shpOf P d) P.cellsOf off fs = some shs → xs.length = fs.length →
      (∀ (i : Nat) (x : Field), fs[i]? = some x → DataW.trod enc P W 0 (fun _ => true) true n x.type ((cs.drop x.offset).take (P.cellsOf x.type)) = xs[i]?) →
      (shs.any Shp.isSl = true → ∀ v ∈ cs, emptyOk W v) →
      ∃ row, RdL W Z ((cs.drop off).take shs.length) row ∧ shpRow shs row ∧ wtRow (erRow row) ≤ ((xs.map (·.1)).map f).sum := by
  intro fs
  induction fs with
  | nil =>
    intro off shs xs h hl _ _
    simp only [shpF, Option.some.injEq] at h
    subst h
    have : xs = [] := List.eq_nil_of_length_eq_zero (by simpa using hl)
    subst this
    exact ⟨[], by simp [RdL], by simp [shpRow], by simp [erRow, wtRow]⟩
  | cons g r ihr =>
    intro off shs xs h hl hx hE
    simp only [shpF] at h
    split at h
    · rename_i hoff
      simp only [Option.bind_eq_some_iff] at h
      obtain ⟨a, ha, h⟩ := h
      split at h
      · rename_i hal
        simp only [Option.map_eq_some_iff] at h
        obtain ⟨b, hb, rfl⟩ := h
        cases xs with
        | nil => simp at hl
        | cons x xs =>
          have h0 := hx 0 g rfl
          simp only [List.getElem?_cons_zero] at h0
          obtain ⟨row, r1, r2, r3⟩ := ih g.type a ha n _ x h0 (fun hs v hv => hE (by simp only [List.any_append, hs, Bool.true_or]) v (List.mem_of_mem_drop (List.mem_of_mem_take hv)))
          obtain ⟨row', s1, s2, s3⟩ := ihr (off + a.length) b xs hb (by simpa using hl) (fun i y hy => by simpa using hx (i + 1) y (by simpa using hy)) (fun hs => hE (by simp only [List.any_append, hs, Bool.or_true]))
          refine ⟨row ++ row', ?_, shpRow_append r2 s2, ?_⟩
          · rw [List.length_append, List.take_add, List.drop_drop]
            rw [hoff, ← hal] at r1
            exact r1.append s1
          · rw [erRow_map, List.map_append, ← erRow_map, ← erRow_map, wtRow_append]
            simp only [List.map_cons, List.sum_cons]
            omega
      · simp at h
    · simp at h
theorem read_elems {e : TypeId} {shs : List Shp} {n : Nat} {a : Addr} {w : Nat} (hflat : shs.any Shp.isSl = false)
    (ih : ∀ cs x, DataW.trod enc P W 0 (fun _ => true) true n e cs = some x → (shs.any Shp.isSl = true → ∀ v ∈ cs, emptyOk W v) →
      ∃ row, RdL W Z cs row ∧ shpRow shs row ∧ wtRow (erRow row) + 1 ≤ f x.1) :
    ∀ (l : List (DataW H × List MemPlace)) (i0 : Nat), (∀ j y, l[j]? = some y → ∃ cs, W.cells? 0 (a.add ((i0 + j) * w)) w = some cs ∧ DataW.trod enc P W 0 (fun _ => true) true n e cs = some y) →
      ∃ rows, rows.length = l.length ∧ (∀ (j : Nat) (row : List (Tr Hd)), rows[j]? = some row → ∃ cs, W.cells? 0 (a.add ((i0 + j) * w)) w = some cs ∧ RdL W Z cs row ∧ shpRow shs row) ∧
        wtRows (erRows rows) ≤ ((l.map (·.1)).map f).sum
  | [], i0, _ => ⟨[], rfl, by simp, by simp [erRows, wtRows]⟩
  | y :: l, i0, h => by
    obtain ⟨cs, h1, h2⟩ := h 0 y rfl
    obtain ⟨row, r1, r2, r3⟩ := ih cs y h2 (fun hs => by rw [hflat] at hs; simp at hs)
    obtain ⟨rows, s1, s2, s3⟩ := read_elems hflat ih l (i0 + 1) (fun j y hy => by
      have := h (j + 1) y (by simpa using hy)
      rwa [show i0 + (j + 1) = i0 + 1 + j by omega] at this)
    refine ⟨row :: rows, by simp [s1], fun j row' hj => ?_, ?_⟩
    · cases j with
      | zero => simp at hj; subst hj; exact ⟨cs, h1, r1, r2⟩
      | succ j =>
        have := s2 j row' (by simpa using hj)
        rwa [show i0 + 1 + j = i0 + (j + 1) by omega] at this
    · simp only [erRows, wtRows, List.map_cons, List.sum_cons]
      omega
theorem read_ok (hf : Bulk f) (hZ : ∀ b, b < W.heap.size → Z.s b) :
    ∀ (d : Nat) (t : TypeId) (shs : List Shp), shpOf P d t = some shs → ∀ (n : Nat) (cs : List Value) (x : DataW H × List MemPlace), DataW.trod enc P W 0 (fun _ => true) true n t cs = some x →
      (shs.any Shp.isSl = true → ∀ v ∈ cs, emptyOk W v) → ∃ row, RdL W Z cs row ∧ shpRow shs row ∧ wtRow (erRow row) + 1 ≤ f x.1 := by
  intro d
  induction d with
  | zero => intro t shs h; simp [shpOf] at h
  | succ d ih =>
    intro t shs h n cs x hx hE
    simp only [shpOf] at h
    split at h
    · rename_i ht
      simp only [Option.some.injEq] at h; subst h
      obtain ⟨b, rfl, rfl⟩ := DataW.trod_bool ht hx
      exact ⟨[.bool b], rdL_one rfl trivial, by simp [shpRow, shpT], by simpa [erRow, erT, wtRow, wtT] using hf.one _⟩
    · rename_i k ht
      simp only [Option.some.injEq] at h; subst h
      obtain ⟨z, rfl, rfl, hw⟩ := DataW.trod_int ht hx
      refine ⟨[.int k z], rdL_one rfl trivial, ?_, by simpa [erRow, erT, wtRow, wtT] using hf.one _⟩
      simp only [Lit.wf, Bool.and_eq_true, decide_eq_true_eq] at hw
      simp only [shpRow, shpT]
      exact ⟨_, _, rfl, ⟨z, rfl, hw.1, hw.2⟩, rfl⟩
    · rename_i ht
      simp only [Option.some.injEq] at h; subst h
      obtain ⟨s, rfl, rfl, hw⟩ := DataW.trod_string ht hx
      refine ⟨[.str s.data.toList], rdL_one (by cases s; rfl) trivial, by simp [shpRow, shpT], ?_⟩
      have := hf.str s.data.toList
      simpa [erRow, erT, wtRow, wtT] using this
    · rename_i e ht
      simp only [Option.bind_eq_some_iff] at h
      obtain ⟨l, hl, h⟩ := h
      split at h
      · rename_i hc
        obtain ⟨hlen, hpos, hflat⟩ := hc
        simp only [Option.some.injEq] at h; subst h
        rcases DataW.trod_slice ht hx with ⟨rfl, rfl⟩ | ⟨a, len, cap, elems, rest, m, _, rfl, rfl, _, hlc, _, hel, hcells, _, _⟩
        · refine ⟨[.sl .sh ⟨none, 0⟩ l.length []], rdL_one rfl (by simp [memT, memRows, hdrOk]), ⟨_, _, rfl, ⟨_, _, rfl, by simp⟩, rfl⟩, by simpa [erRow, erT, erRows, wtRow, wtT, wtRows] using hf.one _⟩
        · obtain ⟨rows, s1, s2, s3⟩ := read_elems (W := W) (Z := Z) (f := f) (a := a) (w := P.cellsOf e) hflat (fun cs x hx => ih e l hl m cs x hx) elems 0 (fun j y hy => by
            have hj : j < len := by rw [← hel]; exact (List.getElem?_eq_some_iff.1 hy).1
            have := hcells j hj
            rw [hy] at this
            simpa [Option.bind_eq_some_iff] using this)
          have hblk : a.spot = none ∧ ∃ c e fr, W.heap[a.block]? = some (.cells c e fr) := by
            cases elems with
            | nil =>
              simp at hel; subst hel
              exact hE (by simp [Shp.isSl]) _ (by simp) a cap rfl
            | cons y ys =>
              obtain ⟨cs, c1, _, _⟩ := s2 0 (rows[0]'(by simp at s1; omega)) (by simp)
              obtain ⟨_, c2, c3⟩ := World.cells?_some c1
              have := c3 0 (by omega)
              have hh : ∃ v, cs[0]? = some v := ⟨cs[0]'(by omega), by simp⟩
              obtain ⟨v, hv⟩ := hh
              rw [hv] at this
              simpa [Addr.add] using cell_block this
          obtain ⟨hspot, c, e', fr, hheap⟩ := hblk
          have hae : a = ⟨a.block, a.off, none⟩ := by cases a; simp at hspot; simp [hspot]
          refine ⟨[.sl .sh ⟨some a, cap⟩ l.length rows], ?_, ?_, ?_⟩
          · simp only [RdL]
            refine ⟨_, _, rfl, by simp [IsT, s1, hel], ?_, rfl⟩
            simp only [memT]
            refine ⟨⟨by simp, fun A hA => ?_⟩, by simp, ?_⟩
            · simp only [Option.some.injEq] at hA; subst hA
              refine ⟨hspot, by simp only; omega, hZ _ (Array.getElem?_eq_some_iff.1 hheap).1, c, e', fr, hheap, by simp, fun i row hi => ?_⟩
              obtain ⟨cs, c1, c2, _⟩ := s2 i row hi
              obtain ⟨_, c4, c5⟩ := World.cells?_some c1
              refine ⟨by rw [c2.length, c4, hlen], fun j cc hj => ?_⟩
              obtain ⟨v, v1, v2, _⟩ := c2.get j cc hj
              refine ⟨v, ?_, v2⟩
              have hjl : j < P.cellsOf e := by rw [← c4]; exact (List.getElem?_eq_some_iff.1 v1).1
              have := c5 j hjl
              rw [v1] at this
              rw [hae, WideShapes.add_plain, WideShapes.add_plain] at this
              simp only [World.cell?, hheap] at this
              rw [hlen]
              simpa using this
            · rw [memRows_iff]
              intro row hr
              obtain ⟨i, hi⟩ := List.mem_iff_getElem?.1 hr
              obtain ⟨cs, _, c2, _⟩ := s2 i row hi
              simpa using c2.mem
          · simp only [shpRow, shpT]
            refine ⟨_, _, rfl, ⟨_, _, rfl, fun row hr => ?_⟩, rfl⟩
            obtain ⟨i, hi⟩ := List.mem_iff_getElem?.1 hr
            obtain ⟨cs, _, _, c3⟩ := s2 i row hi
            exact c3
          · have := hf.slice (elems.map (·.1)) (rest.map (·.1))
            simp only [erRow, erT, wtRow, wtT]
            omega
      · simp at h
    · rename_i fs ht
      simp only [Option.bind_eq_some_iff] at h
      obtain ⟨l, hl, h⟩ := h
      split at h
      · rename_i hc
        simp only [Option.some.injEq] at h; subst h
        obtain ⟨xs, m, _, rfl, hcs, hxl, hfs⟩ := DataW.trod_struct ht hx
        obtain ⟨row, r1, r2, r3⟩ := read_fields (Z := Z) ih (n := m) (cs := cs) fs.toList 0 l xs hl (by simpa using hxl) (fun i x hi => hfs i x (by simpa using hi)) hE
        refine ⟨row, ?_, r2, ?_⟩
        · rw [hc, ← hcs] at r1
          simpa using r1
        · have := hf.agg (xs.map (·.1))
          simp only at this ⊢
          omega
      · simp at h
    · simp at h
end
end Go.HT
end
section
namespace Go.HT
open Go Go.RowKit
section
variable {P : Program} {W : World} {Z : Zone}
/-- An argument that came in, as a tree. -/
def ArgOk (W : World) (Z : Zone) (x : AV Hd) (v : Value) : Prop := IsA x v ∧ memA W Z x ∧ ownA x = [] ∧ ∀ S, refOk S x
theorem memT_lift {t : Tr Hd} (h : memT W Z false t) : memT W Z true t ∧ ownT t = [] := by
  cases t with
  | sl κ g wd rows =>
    simp only [memT] at h ⊢
    obtain ⟨h1, h2, h3⟩ := h
    cases κ with
    | own => simp at h2
    | sh => exact ⟨⟨h1, by simp, by simpa using h3⟩, by simp [ownT]⟩
    | bo => exact ⟨⟨h1, by simp, by simpa using h3⟩, by simp [ownT]⟩
  | _ => exact ⟨trivial, by simp [ownT]⟩
theorem rdL_isL : ∀ {cs : List Value} {row : List (Tr Hd)}, RdL W Z cs row → IsL (row.map .tr) cs ∧ memL W Z (row.map .tr) ∧ ownAL (row.map .tr) = [] ∧ ∀ S, refOkL S (row.map .tr)
  | [], row, h => by simp only [RdL] at h; subst h; simp [IsL, memL, ownAL, refOkL]
  | v :: cs, row, h => by
    simp only [RdL] at h
    obtain ⟨t, r', rfl, h1, h2, h3⟩ := h
    obtain ⟨k1, k2, k3, k4⟩ := rdL_isL h3
    obtain ⟨m1, m2⟩ := memT_lift h2
    refine ⟨⟨v, cs, rfl, h1, k1⟩, ⟨m1, k2⟩, ?_, fun S => ⟨trivial, k4 S⟩⟩
    simp [ownAL, ownA, m2, k3]
theorem argOk_agg {cs : Array Value} {row : List (Tr Hd)} (h : RdL W Z cs.toList row) : ArgOk W Z (.agg (row.map .tr)) (.agg cs) := by
  obtain ⟨k1, k2, k3, k4⟩ := rdL_isL h
  exact ⟨⟨cs, rfl, k1⟩, k2, k3, k4⟩
theorem argOk_one {v : Value} {t : Tr Hd} (h : RdL W Z [v] [t]) : ArgOk W Z (.tr t) v := by
  simp only [RdL] at h
  obtain ⟨t', r', he, h1, h2, h3⟩ := h
  simp only [List.cons.injEq] at he
  obtain ⟨rfl, rfl⟩ := he
  obtain ⟨m1, m2⟩ := memT_lift h2
  exact ⟨h1, m1, m2, fun _ => trivial⟩
theorem erL_tr (row : List (Tr Hd)) : erL (row.map .tr) = (erRow row).map .tr := by
  induction row with
  | nil => rfl
  | cons t r ih => simp [erL, erA, erRow, ih]
theorem erA_aggT (row : List (Tr Hd)) : erA (.agg (row.map .tr)) = .agg ((erRow row).map .tr) := by simp [erA, erL_tr]
theorem emptyOk_cell {r : Reach} {base : Nat} {u : TypeId} {v : Value} (h : Cell.okWide P W r base u v) : emptyOk W v := by
  rintro A cap rfl
  unfold Cell.okWide at h
  split at h
  all_goals try (rename_i h1 h2; simp at h2; done)
  rename_i h1
  unfold Cell.ok at h
  split at h
  all_goals try (rename_i h1 h2; simp at h2; done)
  · rename_i e a len cap' _ hv
    simp only [Value.slice.injEq, Option.some.injEq] at hv
    obtain ⟨rfl, rfl, rfl⟩ := hv
    obtain ⟨_, _, _, hs, row, cells, hsh, _⟩ := h
    refine ⟨hs, ?_⟩
    unfold World.shape? at hsh
    split at hsh
    · exact ⟨_, _, _, by assumption⟩
    · simp at hsh
  · exact h.elim
theorem emptyOk_agg {r : Reach} {base : Nat} {t : TypeId} {fs : Array Field} {v : Value} (ht : P.underlying t = some (.struct fs)) (h : Value.okWide P W r base t v) : ∃ cs, v = .agg cs ∧ ∀ x ∈ cs.toList, emptyOk W x := by
  unfold Value.okWide at h
  rw [ht] at h
  obtain ⟨cs, rfl, _, ts, _, _, h3⟩ := h
  refine ⟨cs, rfl, fun x hx => ?_⟩
  obtain ⟨i, hi⟩ := List.mem_iff_getElem?.1 hx
  obtain ⟨u, _, h4⟩ := h3 i x (by simpa using hi)
  exact emptyOk_cell h4
/-- Rows, decoded. -/
theorem dec_list {α : Type} {cells : List Shp} {c : α → List UT} (h : ∀ row, shpRow cells row → ∃ x, erRow row = c x) : ∀ rows : List (List (Tr Hd)), (∀ row ∈ rows, shpRow cells row) → ∃ l : List α, erRows rows = l.map c
  | [], _ => ⟨[], rfl⟩
  | r :: rs, hr => by
    obtain ⟨x, hx⟩ := h r (hr r (by simp))
    obtain ⟨l, hl⟩ := dec_list h rs (fun row hrow => hr row (by simp [hrow]))
    exact ⟨x :: l, by simp [erRows, hx, hl]⟩
theorem dec_sl {α : Type} {cells : List Shp} {c : α → List UT} (h : ∀ row, shpRow cells row → ∃ x, erRow row = c x) {t : Tr Hd} (ht : shpT (.sl cells) t) : ∃ l : List α, erT t = .sl .sh () cells.length (l.map c) := by
  simp only [shpT] at ht
  obtain ⟨g, rows, rfl, hr⟩ := ht
  obtain ⟨l, hl⟩ := dec_list h rows hr
  exact ⟨l, by simp [erT, hl]⟩
theorem dec_str {t : Tr Hd} (h : shpT .str t) : ∃ s, erT t = .str s := by
  simp only [shpT] at h
  obtain ⟨s, rfl⟩ := h
  exact ⟨s, rfl⟩
theorem dec_bool {t : Tr Hd} (h : shpT .bool t) : ∃ s, erT t = .bool s := by
  simp only [shpT] at h
  obtain ⟨s, rfl⟩ := h
  exact ⟨s, rfl⟩
theorem dec_int {k : IntKind} {t : Tr Hd} (h : shpT (.int k) t) : ∃ n, erT t = .int k n ∧ k.min ≤ n ∧ n ≤ k.max := by
  simp only [shpT] at h
  obtain ⟨s, rfl, h⟩ := h
  exact ⟨s, rfl, h⟩
theorem dec_cons {s : Shp} {r : List Shp} {row : List (Tr Hd)} (h : shpRow (s :: r) row) : ∃ t row', erRow row = erT t :: erRow row' ∧ shpT s t ∧ shpRow r row' := by
  simp only [shpRow] at h
  obtain ⟨t, row', rfl, h1, h2⟩ := h
  exact ⟨t, row', rfl, h1, h2⟩
theorem dec_nil {row : List (Tr Hd)} (h : shpRow [] row) : erRow row = [] := by
  simp only [shpRow] at h
  subst h; rfl
/-- A function that answers true: from trees to worlds. -/
theorem calls_true {f : FuncId} {xs : List (AV Hd)} {vals : Array Value} (h : ACall P f (xs.map fun x => .tmp (erA x)) [] (.tmp (.tr (.bool true))) [] []) (hx : vals.size = xs.length)
    (hv : ∀ i x, xs[i]? = some x → ArgOk W Z x (vals.getD i undef)) (hzb : ∀ b, Z.b b → b < W.heap.size) :
    Calls P f vals W fun e w' => e = .returned (.bool true) ∧ Below W.heap.size W w' := by
  obtain ⟨⟨_, _, _, _, _, _, hlen⟩, hc⟩ := h
  have hlen' : (xs.map Ent.tmp).length < 999 := by simpa using hlen
  have hown : (xs.map Ent.tmp).flatMap ownE = [] := by
    rw [List.flatMap_eq_nil_iff]
    intro e he
    obtain ⟨x, hx', rfl⟩ := List.mem_map.1 he
    obtain ⟨i, hi⟩ := List.mem_iff_getElem?.1 hx'
    exact (hv i x hi).2.2.1
  have hG : Good Z (start (xs.map Ent.tmp) []) ⟨vals, []⟩ W := by
    refine good_start hlen' (fun d e he => ?_) (by simp) (by rw [hown]; simp) (by rw [hown]; simp) hzb (fun e he => ?_)
    · rw [List.getElem?_map, Option.map_eq_some_iff] at he
      obtain ⟨x, hx', rfl⟩ := he
      obtain ⟨h1, h2, _, _⟩ := hv d x hx'
      exact ⟨h1, h2⟩
    · obtain ⟨x, hx', rfl⟩ := List.mem_map.1 he
      obtain ⟨i, hi⟩ := List.mem_iff_getElem?.1 hx'
      exact (hv i x hi).2.2.2 _
  have hnone : ∀ (i : Nat) (l : List (AV Hd)), outU i (l.map fun x => Ent.tmp (erA x)) [] = [] := by
    intro i l
    induction l generalizing i with
    | nil => rfl
    | cons x r ih => simpa [outU] using ih (i + 1)
  have hS0 : ownS (start (xs.map Ent.tmp) []) = [] := by
    rw [start, ownS_append, ownS_initH, hown, ownS_initVH]; simp
  refine (hc Z W vals _ (by rw [start_er, List.map_map]; rfl) (by simpa using hx) hG).mono fun e w' he => ?_
  cases e with
  | panicked c => exact he.elim
  | outgrown => exact he.elim
  | returned v =>
    obtain ⟨S', a', g1, g2, rfl, g4, g5⟩ := he
    rw [hnone] at g2
    simp only [List.nil_append, initV] at g2
    refine ⟨?_, ⟨g5.os, g5.tape, g5.output, g5.size, fun b hb => g5.block b hb (by rw [hS0]; simp)⟩⟩
    cases S' with
    | nil => simp [erS] at g2
    | cons x r =>
      obtain ⟨k, e⟩ := x
      simp only [erS, List.map_cons, List.cons.injEq, Prod.mk.injEq] at g2
      obtain ⟨⟨rfl, he⟩, _⟩ := g2
      have hent := g1.ent 999 e (by simp [look])
      cases e with
      | tmp u =>
        simp only [erE, Ent.tmp.injEq] at he
        cases u with
        | tr t =>
          simp only [erA, AV.tr.injEq] at he
          cases t with
          | bool b =>
            simp only [erT, Tr.bool.injEq] at he
            subst he
            have := hent.1
            simp only [IsA, IsT] at this
            rw [this]
          | _ => simp [erT] at he
        | _ => simp [erA] at he
      | box => simp [erE] at he
      | vir => simp [erE] at he
/-- What was there below is as it was: the row's 'post' (as 'post_of_same', but of the blocks there were). -/
theorem post_below {H : Type} {enc : TypeId × Value → H} {f : Func} {s : ChangeSpec} {apart fresh handsOn again : Bool} {W' : World} {args : Array Value} {v : Value} {ds gs : List (DataW H)} {before pa pv : List MemPlace}
    (hW : DataW.Whole enc P f.params.toList s.vars apart W args.toList ds gs before)
    (hres : ∀ (b : Nat) (sp : Nat → Bool) (hd : Bool), DataW.TrodAll enc P W' b sp hd f.resultTypes.toList (v.resultList f.resultTypes.size) (s.fn H (ds ++ gs)).results [])
    (hargs : ∀ sp : Nat → Bool, (∀ p ∈ before, sp p.block = true) → DataW.TrodAll enc P W' 0 sp true f.params.toList args.toList (s.fn H (ds ++ gs)).args pa)
    (hvars : ∀ sp : Nat → Bool, (∀ p ∈ before, sp p.block = true) → DataW.TrodVars enc P W' sp s.vars (s.fn H (ds ++ gs)).vars pv)
    (hps : before = pa ++ pv) (hg : Below W.heap.size W W')
    (hok : ∀ (j : Nat) (t : TypeId) (r : Value), f.resultTypes[j]? = some t → (v.resultList f.resultTypes.size)[j]? = some r → Value.okWide P W' .any 0 t r) :
    s.post enc P f apart fresh handsOn again W args v W' := by
  have hold : ∀ p ∈ before, (fun b => decide (b < W.heap.size)) p.block = true := fun p hp => by simpa using hW.lt p hp
  refine ⟨ds, gs, before, [], pa, pv, hW, hres _ _ _, hargs _ hold, hvars _ hold, World.keptBut_mono (fun p hp => ⟨hp, ?_⟩) (hg.frame _), fun _ => ?_⟩
  · rw [hps, List.mem_append] at hp
    exact Or.inr hp
  · obtain ⟨_, _, _, _, _, hz, hn⟩ := id hW
    refine ⟨hok, _, _, ([] ++ pa) ++ pv, ⟨[] ++ pa, pv, ChangeShapes.trodAll_append (hargs _ (fun _ _ => rfl)) (hres _ _ _), hvars _ (fun _ _ => rfl), rfl, ?_, ?_⟩, ?_⟩
    · intro b off hp
      have hp' : MemPlace.cell b off ∈ before := by rw [hps]; simpa using hp
      rw [hg.frozen (hW.lt _ hp')]
      exact hz b off hp'
    · intro ha
      have := hn ha
      rw [hps] at this
      simpa using this
    · intro p hp _
      rw [hps]
      simpa using hp
end
end Go.HT
end
section
namespace Go.HT
open Go
attribute [simp] vc_seq vc_region vc_regionD vcPlan_fin vcPlan_take vcPlan_any vcPlan_non vcG_none vc_block vc_skip vc_exit vc_ret thenK_n thenK_e thenK_r blockK_n blockK_e blockK_r vcOps_nil vcOps_cons callOf
  exec1 xMove xAssign selfB xPick xAlloc xBox xLoad xStore xNil xBin xUn xField xIndexAddr xIndex xExtract xBuild xBuildSlice xMakeSlice xMakeFunc xIface xSlice widthIs xLen xAppend xMin xMax xBuiltin xConvert u8s
  init initV ev evC isZ allZ look ret1 retIf putO putP put evU ownL bor asRefs lenOf rowsUsed rowOf stepRow getC Ent.cells Ent.set setC setRowA setRowT
  thru same poiA poiL Ent.poi poi badAt badRoot Place.chain cellsUsed cellsOf resolve take takeRows setCs noBad storable binI binS bin rowsOf fillAt fill chunk optNat evO placeOf
  lend lendL lendV defd giveBox badBox giveVs passTake passBox cellsAt passVir finish passCaps prep backTo vbackTo vcCall vcSort sortArgs putR retE retVals tupOf outsOf voutsOf stillE stillV bodyQ keep boT
section
variable {κ : Knd} {w n lo : Nat} {rows : List (List UT)} {k : IntKind} {i : Int} {b c : Bool} {s : List UInt8} {q q' : Place} {vs : List UV} {row : List UT} {f : FuncId} {t : TypeId} {v : UV}
@[simp] theorem ownV_sl : ownV (.tr (.sl κ () w rows)) = decide (κ = .own) := by cases κ <;> rfl
@[simp] theorem ownV_int : ownV (.tr (.int k i)) = false := rfl
@[simp] theorem ownV_bool : ownV (.tr (.bool b)) = false := rfl
@[simp] theorem ownV_str : ownV (.tr (.str s)) = false := rfl
@[simp] theorem ownV_undef : ownV (.tr .undef) = false := rfl
@[simp] theorem ownV_agg : ownV (.agg vs) = ownL vs := rfl
@[simp] theorem ownV_tup : ownV (.tup vs) = true := rfl
@[simp] theorem ownV_ref : ownV (.ref q lo n c ()) = false := rfl
@[simp] theorem ownV_ptr : ownV (.ptr q ()) = false := rfl
@[simp] theorem ownV_psh : ownV (.psh row n ()) = false := rfl
@[simp] theorem ownV_fn : ownV (.fn f vs) = false := rfl
@[simp] theorem ownV_ifc : ownV (.ifc t v) = false := rfl
@[simp] theorem scalarE_none : scalarE none = true := rfl
@[simp] theorem scalarE_sl : scalarE (some (.tmp (.tr (.sl κ () w rows)))) = !decide (κ = .own) := by cases κ <;> rfl
@[simp] theorem scalarE_int : scalarE (some (.tmp (.tr (.int k i)))) = true := rfl
@[simp] theorem scalarE_bool : scalarE (some (.tmp (.tr (.bool b)))) = true := rfl
@[simp] theorem scalarE_str : scalarE (some (.tmp (.tr (.str s)))) = true := rfl
@[simp] theorem scalarE_undef : scalarE (some (.tmp (.tr .undef))) = true := rfl
@[simp] theorem scalarE_agg : scalarE (some (.tmp (.agg vs))) = false := rfl
@[simp] theorem scalarE_tup : scalarE (some (.tmp (.tup vs))) = true := rfl
@[simp] theorem scalarE_ref : scalarE (some (.tmp (.ref q lo n c ()))) = true := rfl
@[simp] theorem scalarE_ptr : scalarE (some (.tmp (.ptr q ()))) = true := rfl
@[simp] theorem scalarE_psh : scalarE (some (.tmp (.psh row n ()))) = true := rfl
@[simp] theorem scalarE_fn : scalarE (some (.tmp (.fn f vs))) = true := rfl
@[simp] theorem scalarE_ifc : scalarE (some (.tmp (.ifc t v))) = true := rfl
@[simp] theorem scalarE_box : scalarE (some (.box () vs)) = false := rfl
@[simp] theorem scalarE_vir {t : UT} : scalarE (some (.vir t)) = false := rfl
@[simp] theorem asRef_sO : asRef q (.tr (.sl .own () w rows)) = (.ref q 0 rows.length false () : UV) := rfl
@[simp] theorem asRef_sh : asRef q (.tr (.sl .sh () w rows)) = (.tr (.sl .sh () w rows) : UV) := rfl
@[simp] theorem asRef_bo : asRef q (.tr (.sl .bo () w rows)) = (.tr (.sl .bo () w rows) : UV) := rfl
@[simp] theorem asRef_sl (h : κ ≠ .own) : asRef q (.tr (.sl κ () w rows)) = (.tr (.sl κ () w rows) : UV) := by cases κ <;> first | rfl | exact absurd rfl h
@[simp] theorem asRef_int : asRef q (.tr (.int k i)) = (.tr (.int k i) : UV) := rfl
@[simp] theorem asRef_bool : asRef q (.tr (.bool b)) = (.tr (.bool b) : UV) := rfl
@[simp] theorem asRef_str : asRef q (.tr (.str s)) = (.tr (.str s) : UV) := rfl
@[simp] theorem asRef_undef : asRef q (.tr .undef) = (.tr .undef : UV) := rfl
@[simp] theorem asRef_agg : asRef q (.agg vs) = (.tr .undef : UV) := rfl
@[simp] theorem asRef_tup : asRef q (.tup vs) = (.tr .undef : UV) := rfl
@[simp] theorem asRef_ref : asRef q (.ref q' lo n c ()) = (.ref q' lo n c () : UV) := rfl
@[simp] theorem asRef_ptr : asRef q (.ptr q' ()) = (.ptr q' () : UV) := rfl
@[simp] theorem asRef_psh : asRef q (.psh row n ()) = (.psh row n () : UV) := rfl
@[simp] theorem asRef_fn : asRef q (.fn f vs) = (.fn f vs : UV) := rfl
@[simp] theorem asRef_ifc : asRef q (.ifc t v) = (.ifc t v : UV) := rfl
end
end Go.HT
end
section
namespace Go.HT
open Go Go.Proofs
set_option maxRecDepth 100000
set_option maxHeartbeats 1000000

noncomputable abbrev PP := Tryz.prog
abbrev Str := List UInt8
abbrev A2 := Str × Str
def bk : Knd → Knd
  | .own => .bo
  | .sh => .sh
  | .bo => .bo
@[simp] theorem bk_own : bk .own = .bo := rfl
@[simp] theorem bk_sh : bk .sh = .sh := rfl
@[simp] theorem bk_bo : bk .bo = .bo := rfl
@[simp] theorem bk_ne (κ : Knd) : (bk κ = .own) = False := by cases κ <;> simp [bk]
@[simp] theorem bk_bk (κ : Knd) : bk (bk κ) = bk κ := by cases κ <;> rfl
/-- Rows of values. -/
def enc {α : Type} (c : α → List UT) (l : List α) : List (List UT) := l.map c
section
variable {α : Type} (c : α → List UT) (l : List α)
@[simp] theorem enc_length : (enc c l).length = l.length := by simp [enc]
@[simp] theorem enc_get (i : Nat) : (enc c l)[i]? = (l[i]?).map c := by simp [enc]
@[simp] theorem enc_getD (i : Nat) (h : i < l.length) : (enc c l).getD i [] = c l[i] := by simp [List.getD, h, enc]
@[simp] theorem enc_getE (i : Nat) (h : i < (enc c l).length) : (enc c l)[i] = c (l[i]'(by simpa using h)) := by simp [enc]
@[simp] theorem enc_take (n : Nat) : (enc c l).take n = enc c (l.take n) := by simp [enc]
@[simp] theorem enc_drop (n : Nat) : (enc c l).drop n = enc c (l.drop n) := by simp [enc]
@[simp] theorem enc_append (m : List α) : enc c l ++ enc c m = enc c (l ++ m) := by simp [enc]
@[simp] theorem enc_nil : enc c [] = [] := rfl
theorem enc_cons (x : α) : enc c (x :: l) = c x :: enc c l := rfl
theorem enc_nil' : ([] : List (List UT)) = enc c [] := rfl
theorem enc_eq_nil : (enc c l = []) = (l = []) := by simp [enc]
end
theorem boRows_enc {α : Type} {c c' : α → List UT} (h : ∀ x, boRow (c x) = c' x) (l : List α) : boRows (enc c l) = enc c' l := by
  induction l with
  | nil => rfl
  | cons s r ih => rw [enc_cons, enc_cons, ← ih, ← h]; rfl
theorem noBo_enc {α : Type} {c : α → List UT} (h : ∀ x, noBoRow (c x) = true) (l : List α) : noBoRows (enc c l) = true := by
  induction l with
  | nil => rfl
  | cons s r ih => rw [enc_cons]; simp [noBoRows, h, ih]
theorem flat_enc {α : Type} {c : α → List UT} (h : ∀ x, (c x).all Tr.flat = true) (l : List α) : flatRows (enc c l) = true := by
  simp only [flatRows, enc, List.all_map, List.all_eq_true]
  intro x _; exact h x
theorem def_enc {α : Type} {c : α → List UT} (h : ∀ x, (c x).all (fun t => match t with | .undef => false | _ => true) = true) (l : List α) : defRows (enc c l) = true := by
  simp only [defRows, enc, List.all_map, List.all_eq_true]
  intro x _; exact h x
@[simp] def cS (x : Str) : List UT := [.str x]
@[simp] theorem encA_S (a : Str) (l : List Str) : enc cS l ++ [[.str a]] = enc cS (l ++ [a]) := by simp [enc]
@[simp] theorem encS_S (a : Str) (l : List Str) (i : Nat) : (enc cS l).set i [.str a] = enc cS (l.set i a) := by simp [enc]
@[simp] theorem encZ_S (n : Nat) : List.replicate n [.str []] = enc cS (List.replicate n []) := by simp [enc]
@[simp] theorem encB_S (l : List Str) : boRows (enc cS l) = enc cS l := by
  apply boRows_enc; intro x; simp [boRow, boT]
@[simp] theorem encN_S (l : List Str) : noBoRows (enc cS l) = true := by
  apply noBo_enc; intro x; simp [noBoRow, noBoT]
@[simp] theorem encF_S (l : List Str) : flatRows (enc cS l) = true := by
  apply flat_enc; intro x; simp [Tr.flat]
@[simp] theorem encD_S (l : List Str) : defRows (enc cS l) = true := by
  apply def_enc; intro x; simp
@[simp] def cA2 (x : A2) : List UT := [.str x.1, .str x.2]
@[simp] theorem encA_A2 (a b : Str) (l : List A2) : enc cA2 l ++ [[.str a, .str b]] = enc cA2 (l ++ [(a, b)]) := by simp [enc]
@[simp] theorem encB_A2 (l : List A2) : boRows (enc cA2 l) = enc cA2 l := by
  apply boRows_enc; intro x; simp [boRow, boT]
@[simp] theorem encN_A2 (l : List A2) : noBoRows (enc cA2 l) = true := by
  apply noBo_enc; intro x; simp [noBoRow, noBoT]
@[simp] theorem encF_A2 (l : List A2) : flatRows (enc cA2 l) = true := by
  apply flat_enc; intro x; simp [Tr.flat]
@[simp] theorem encD_A2 (l : List A2) : defRows (enc cA2 l) = true := by
  apply def_enc; intro x; simp
structure GPlantFoe where
  A : Str
  B : Str
  deriving DecidableEq
@[simp] def cPlantFoe (x : GPlantFoe) : List UT := [.str x.A, .str x.B]
@[simp] theorem eta_PlantFoe (x : GPlantFoe) : (⟨x.A, x.B⟩ : GPlantFoe) = x := rfl
@[simp] theorem encA_PlantFoe (v_A : Str) (v_B : Str) (l : List GPlantFoe) : enc cPlantFoe l ++ [[.str v_A, .str v_B]] = enc cPlantFoe (l ++ [⟨v_A, v_B⟩]) := by simp [enc]
@[simp] theorem encS_PlantFoe (v_A : Str) (v_B : Str) (l : List GPlantFoe) (i : Nat) : (enc cPlantFoe l).set i [.str v_A, .str v_B] = enc cPlantFoe (l.set i ⟨v_A, v_B⟩) := by simp [enc]
@[simp] theorem encZ_PlantFoe (n : Nat) : List.replicate n [.str [], .str []] = enc cPlantFoe (List.replicate n ⟨[], []⟩) := by simp [enc]
@[simp] theorem encB_PlantFoe (l : List GPlantFoe) : boRows (enc cPlantFoe l) = enc cPlantFoe l := by
  apply boRows_enc; intro x; simp [boRow, boT]
@[simp] theorem encN_PlantFoe (l : List GPlantFoe) : noBoRows (enc cPlantFoe l) = true := by
  apply noBo_enc; intro x; simp [noBoRow, noBoT]
@[simp] theorem encF_PlantFoe (l : List GPlantFoe) : flatRows (enc cPlantFoe l) = true := by
  apply flat_enc; intro x; simp [Tr.flat]
@[simp] theorem encD_PlantFoe (l : List GPlantFoe) : defRows (enc cPlantFoe l) = true := by
  apply def_enc; intro x; simp
structure GPlantPlace where
  Name : Str
  Cap : Int
  Station : Str
  deriving DecidableEq
@[simp] def cPlantPlace (x : GPlantPlace) : List UT := [.str x.Name, .int .i64 x.Cap, .str x.Station]
@[simp] theorem eta_PlantPlace (x : GPlantPlace) : (⟨x.Name, x.Cap, x.Station⟩ : GPlantPlace) = x := rfl
@[simp] theorem encA_PlantPlace (v_Name : Str) (v_Cap : Int) (v_Station : Str) (l : List GPlantPlace) : enc cPlantPlace l ++ [[.str v_Name, .int .i64 v_Cap, .str v_Station]] = enc cPlantPlace (l ++ [⟨v_Name, v_Cap, v_Station⟩]) := by simp [enc]
@[simp] theorem encS_PlantPlace (v_Name : Str) (v_Cap : Int) (v_Station : Str) (l : List GPlantPlace) (i : Nat) : (enc cPlantPlace l).set i [.str v_Name, .int .i64 v_Cap, .str v_Station] = enc cPlantPlace (l.set i ⟨v_Name, v_Cap, v_Station⟩) := by simp [enc]
@[simp] theorem encZ_PlantPlace (n : Nat) : List.replicate n [.str [], .int .i64 0, .str []] = enc cPlantPlace (List.replicate n ⟨[], 0, []⟩) := by simp [enc]
@[simp] theorem encB_PlantPlace (l : List GPlantPlace) : boRows (enc cPlantPlace l) = enc cPlantPlace l := by
  apply boRows_enc; intro x; simp [boRow, boT]
@[simp] theorem encN_PlantPlace (l : List GPlantPlace) : noBoRows (enc cPlantPlace l) = true := by
  apply noBo_enc; intro x; simp [noBoRow, noBoT]
@[simp] theorem encF_PlantPlace (l : List GPlantPlace) : flatRows (enc cPlantPlace l) = true := by
  apply flat_enc; intro x; simp [Tr.flat]
@[simp] theorem encD_PlantPlace (l : List GPlantPlace) : defRows (enc cPlantPlace l) = true := by
  apply def_enc; intro x; simp
structure GPlantValve where
  Name : Str
  A : Str
  B : Str
  Station : Str
  deriving DecidableEq
@[simp] def cPlantValve (x : GPlantValve) : List UT := [.str x.Name, .str x.A, .str x.B, .str x.Station]
@[simp] theorem eta_PlantValve (x : GPlantValve) : (⟨x.Name, x.A, x.B, x.Station⟩ : GPlantValve) = x := rfl
@[simp] theorem encA_PlantValve (v_Name : Str) (v_A : Str) (v_B : Str) (v_Station : Str) (l : List GPlantValve) : enc cPlantValve l ++ [[.str v_Name, .str v_A, .str v_B, .str v_Station]] = enc cPlantValve (l ++ [⟨v_Name, v_A, v_B, v_Station⟩]) := by simp [enc]
@[simp] theorem encS_PlantValve (v_Name : Str) (v_A : Str) (v_B : Str) (v_Station : Str) (l : List GPlantValve) (i : Nat) : (enc cPlantValve l).set i [.str v_Name, .str v_A, .str v_B, .str v_Station] = enc cPlantValve (l.set i ⟨v_Name, v_A, v_B, v_Station⟩) := by simp [enc]
@[simp] theorem encZ_PlantValve (n : Nat) : List.replicate n [.str [], .str [], .str [], .str []] = enc cPlantValve (List.replicate n ⟨[], [], [], []⟩) := by simp [enc]
@[simp] theorem encB_PlantValve (l : List GPlantValve) : boRows (enc cPlantValve l) = enc cPlantValve l := by
  apply boRows_enc; intro x; simp [boRow, boT]
@[simp] theorem encN_PlantValve (l : List GPlantValve) : noBoRows (enc cPlantValve l) = true := by
  apply noBo_enc; intro x; simp [noBoRow, noBoT]
@[simp] theorem encF_PlantValve (l : List GPlantValve) : flatRows (enc cPlantValve l) = true := by
  apply flat_enc; intro x; simp [Tr.flat]
@[simp] theorem encD_PlantValve (l : List GPlantValve) : defRows (enc cPlantValve l) = true := by
  apply def_enc; intro x; simp
structure GPlant where
  Stuffs : List Str
  Foes : List GPlantFoe
  Places : List GPlantPlace
  Valves : List GPlantValve
  deriving DecidableEq
@[simp] def cPlant (κ : Knd) (x : GPlant) : List UT := [.sl κ () 1 (enc cS x.Stuffs), .sl κ () 2 (enc cPlantFoe x.Foes), .sl κ () 3 (enc cPlantPlace x.Places), .sl κ () 4 (enc cPlantValve x.Valves)]
@[simp] theorem eta_Plant (x : GPlant) : (⟨x.Stuffs, x.Foes, x.Places, x.Valves⟩ : GPlant) = x := rfl
@[simp] theorem encA_Plant (κ : Knd) (v_Stuffs : List Str) (v_Foes : List GPlantFoe) (v_Places : List GPlantPlace) (v_Valves : List GPlantValve) (l : List GPlant) : enc (cPlant κ) l ++ [[.sl κ () 1 (enc cS v_Stuffs), .sl κ () 2 (enc cPlantFoe v_Foes), .sl κ () 3 (enc cPlantPlace v_Places), .sl κ () 4 (enc cPlantValve v_Valves)]] = enc (cPlant κ) (l ++ [⟨v_Stuffs, v_Foes, v_Places, v_Valves⟩]) := by simp [enc]
@[simp] theorem encS_Plant (κ : Knd) (v_Stuffs : List Str) (v_Foes : List GPlantFoe) (v_Places : List GPlantPlace) (v_Valves : List GPlantValve) (l : List GPlant) (i : Nat) : (enc (cPlant κ) l).set i [.sl κ () 1 (enc cS v_Stuffs), .sl κ () 2 (enc cPlantFoe v_Foes), .sl κ () 3 (enc cPlantPlace v_Places), .sl κ () 4 (enc cPlantValve v_Valves)] = enc (cPlant κ) (l.set i ⟨v_Stuffs, v_Foes, v_Places, v_Valves⟩) := by simp [enc]
@[simp] theorem encZ_Plant (n : Nat) : List.replicate n [.sl .own () 1 [], .sl .own () 2 [], .sl .own () 3 [], .sl .own () 4 []] = enc (cPlant .own) (List.replicate n ⟨[], [], [], []⟩) := by simp [enc]
@[simp] theorem encB_Plant (κ : Knd) (l : List GPlant) : boRows (enc (cPlant κ) l) = enc (cPlant (bk κ)) l := by
  apply boRows_enc; intro x; cases κ <;> simp [boRow, boT, bk]
@[simp] theorem encN_Plant (κ : Knd) (l : List GPlant) (h : κ ≠ .bo) : noBoRows (enc (cPlant κ) l) = true := by
  apply noBo_enc; intro x; cases κ <;> simp_all [noBoRow, noBoT]
@[simp] theorem encD_Plant (κ : Knd) (l : List GPlant) : defRows (enc (cPlant κ) l) = true := by
  apply def_enc; intro x; simp
structure GPlantRoute where
  Places : List Str
  Valves : List Str
  deriving DecidableEq
@[simp] def cPlantRoute (κ : Knd) (x : GPlantRoute) : List UT := [.sl κ () 1 (enc cS x.Places), .sl κ () 1 (enc cS x.Valves)]
@[simp] theorem eta_PlantRoute (x : GPlantRoute) : (⟨x.Places, x.Valves⟩ : GPlantRoute) = x := rfl
@[simp] theorem encA_PlantRoute (κ : Knd) (v_Places : List Str) (v_Valves : List Str) (l : List GPlantRoute) : enc (cPlantRoute κ) l ++ [[.sl κ () 1 (enc cS v_Places), .sl κ () 1 (enc cS v_Valves)]] = enc (cPlantRoute κ) (l ++ [⟨v_Places, v_Valves⟩]) := by simp [enc]
@[simp] theorem encS_PlantRoute (κ : Knd) (v_Places : List Str) (v_Valves : List Str) (l : List GPlantRoute) (i : Nat) : (enc (cPlantRoute κ) l).set i [.sl κ () 1 (enc cS v_Places), .sl κ () 1 (enc cS v_Valves)] = enc (cPlantRoute κ) (l.set i ⟨v_Places, v_Valves⟩) := by simp [enc]
@[simp] theorem encZ_PlantRoute (n : Nat) : List.replicate n [.sl .own () 1 [], .sl .own () 1 []] = enc (cPlantRoute .own) (List.replicate n ⟨[], []⟩) := by simp [enc]
@[simp] theorem encB_PlantRoute (κ : Knd) (l : List GPlantRoute) : boRows (enc (cPlantRoute κ) l) = enc (cPlantRoute (bk κ)) l := by
  apply boRows_enc; intro x; cases κ <;> simp [boRow, boT, bk]
@[simp] theorem encN_PlantRoute (κ : Knd) (l : List GPlantRoute) (h : κ ≠ .bo) : noBoRows (enc (cPlantRoute κ) l) = true := by
  apply noBo_enc; intro x; cases κ <;> simp_all [noBoRow, noBoT]
@[simp] theorem encD_PlantRoute (κ : Knd) (l : List GPlantRoute) : defRows (enc (cPlantRoute κ) l) = true := by
  apply def_enc; intro x; simp
structure GCtlJob where
  Number : Int
  Kind : Int
  Route : GPlantRoute
  Places : List Str
  Stuffs : List Str
  Amount : Int
  State : Int
  Heard : List Str
  Moved : Int
  Done : Bool
  deriving DecidableEq
@[simp] def cCtlJob (κ : Knd) (x : GCtlJob) : List UT := [.int .i64 x.Number, .int .i64 x.Kind, .sl κ () 1 (enc cS x.Route.Places), .sl κ () 1 (enc cS x.Route.Valves), .sl κ () 1 (enc cS x.Places), .sl κ () 1 (enc cS x.Stuffs), .int .i64 x.Amount, .int .i64 x.State, .sl κ () 1 (enc cS x.Heard), .int .i64 x.Moved, .bool x.Done]
@[simp] theorem eta_CtlJob (x : GCtlJob) : (⟨x.Number, x.Kind, x.Route, x.Places, x.Stuffs, x.Amount, x.State, x.Heard, x.Moved, x.Done⟩ : GCtlJob) = x := rfl
@[simp] theorem encA_CtlJob (κ : Knd) (v_Number : Int) (v_Kind : Int) (v_Route_Places : List Str) (v_Route_Valves : List Str) (v_Places : List Str) (v_Stuffs : List Str) (v_Amount : Int) (v_State : Int) (v_Heard : List Str) (v_Moved : Int) (v_Done : Bool) (l : List GCtlJob) : enc (cCtlJob κ) l ++ [[.int .i64 v_Number, .int .i64 v_Kind, .sl κ () 1 (enc cS v_Route_Places), .sl κ () 1 (enc cS v_Route_Valves), .sl κ () 1 (enc cS v_Places), .sl κ () 1 (enc cS v_Stuffs), .int .i64 v_Amount, .int .i64 v_State, .sl κ () 1 (enc cS v_Heard), .int .i64 v_Moved, .bool v_Done]] = enc (cCtlJob κ) (l ++ [⟨v_Number, v_Kind, ⟨v_Route_Places, v_Route_Valves⟩, v_Places, v_Stuffs, v_Amount, v_State, v_Heard, v_Moved, v_Done⟩]) := by simp [enc]
@[simp] theorem encS_CtlJob (κ : Knd) (v_Number : Int) (v_Kind : Int) (v_Route_Places : List Str) (v_Route_Valves : List Str) (v_Places : List Str) (v_Stuffs : List Str) (v_Amount : Int) (v_State : Int) (v_Heard : List Str) (v_Moved : Int) (v_Done : Bool) (l : List GCtlJob) (i : Nat) : (enc (cCtlJob κ) l).set i [.int .i64 v_Number, .int .i64 v_Kind, .sl κ () 1 (enc cS v_Route_Places), .sl κ () 1 (enc cS v_Route_Valves), .sl κ () 1 (enc cS v_Places), .sl κ () 1 (enc cS v_Stuffs), .int .i64 v_Amount, .int .i64 v_State, .sl κ () 1 (enc cS v_Heard), .int .i64 v_Moved, .bool v_Done] = enc (cCtlJob κ) (l.set i ⟨v_Number, v_Kind, ⟨v_Route_Places, v_Route_Valves⟩, v_Places, v_Stuffs, v_Amount, v_State, v_Heard, v_Moved, v_Done⟩) := by simp [enc]
@[simp] theorem encZ_CtlJob (n : Nat) : List.replicate n [.int .i64 0, .int .i64 0, .sl .own () 1 [], .sl .own () 1 [], .sl .own () 1 [], .sl .own () 1 [], .int .i64 0, .int .i64 0, .sl .own () 1 [], .int .i64 0, .bool false] = enc (cCtlJob .own) (List.replicate n ⟨0, 0, ⟨[], []⟩, [], [], 0, 0, [], 0, false⟩) := by simp [enc]
@[simp] theorem encB_CtlJob (κ : Knd) (l : List GCtlJob) : boRows (enc (cCtlJob κ) l) = enc (cCtlJob (bk κ)) l := by
  apply boRows_enc; intro x; cases κ <;> simp [boRow, boT, bk]
@[simp] theorem encN_CtlJob (κ : Knd) (l : List GCtlJob) (h : κ ≠ .bo) : noBoRows (enc (cCtlJob κ) l) = true := by
  apply noBo_enc; intro x; cases κ <;> simp_all [noBoRow, noBoT]
@[simp] theorem encD_CtlJob (κ : Knd) (l : List GCtlJob) : defRows (enc (cCtlJob κ) l) = true := by
  apply def_enc; intro x; simp
structure GClaimUse where
  Name : Str
  Role : Int
  Amount : Int
  deriving DecidableEq
@[simp] def cClaimUse (x : GClaimUse) : List UT := [.str x.Name, .int .i64 x.Role, .int .i64 x.Amount]
@[simp] theorem eta_ClaimUse (x : GClaimUse) : (⟨x.Name, x.Role, x.Amount⟩ : GClaimUse) = x := rfl
@[simp] theorem encA_ClaimUse (v_Name : Str) (v_Role : Int) (v_Amount : Int) (l : List GClaimUse) : enc cClaimUse l ++ [[.str v_Name, .int .i64 v_Role, .int .i64 v_Amount]] = enc cClaimUse (l ++ [⟨v_Name, v_Role, v_Amount⟩]) := by simp [enc]
@[simp] theorem encS_ClaimUse (v_Name : Str) (v_Role : Int) (v_Amount : Int) (l : List GClaimUse) (i : Nat) : (enc cClaimUse l).set i [.str v_Name, .int .i64 v_Role, .int .i64 v_Amount] = enc cClaimUse (l.set i ⟨v_Name, v_Role, v_Amount⟩) := by simp [enc]
@[simp] theorem encZ_ClaimUse (n : Nat) : List.replicate n [.str [], .int .i64 0, .int .i64 0] = enc cClaimUse (List.replicate n ⟨[], 0, 0⟩) := by simp [enc]
@[simp] theorem encB_ClaimUse (l : List GClaimUse) : boRows (enc cClaimUse l) = enc cClaimUse l := by
  apply boRows_enc; intro x; simp [boRow, boT]
@[simp] theorem encN_ClaimUse (l : List GClaimUse) : noBoRows (enc cClaimUse l) = true := by
  apply noBo_enc; intro x; simp [noBoRow, noBoT]
@[simp] theorem encF_ClaimUse (l : List GClaimUse) : flatRows (enc cClaimUse l) = true := by
  apply flat_enc; intro x; simp [Tr.flat]
@[simp] theorem encD_ClaimUse (l : List GClaimUse) : defRows (enc cClaimUse l) = true := by
  apply def_enc; intro x; simp
structure GClaimWant where
  Number : Int
  Kind : Int
  Stuffs : List Str
  Uses : List GClaimUse
  Opens : List Str
  Shuts : List Str
  deriving DecidableEq
@[simp] def cClaimWant (κ : Knd) (x : GClaimWant) : List UT := [.int .i64 x.Number, .int .i64 x.Kind, .sl κ () 1 (enc cS x.Stuffs), .sl κ () 3 (enc cClaimUse x.Uses), .sl κ () 1 (enc cS x.Opens), .sl κ () 1 (enc cS x.Shuts)]
@[simp] theorem eta_ClaimWant (x : GClaimWant) : (⟨x.Number, x.Kind, x.Stuffs, x.Uses, x.Opens, x.Shuts⟩ : GClaimWant) = x := rfl
@[simp] theorem encA_ClaimWant (κ : Knd) (v_Number : Int) (v_Kind : Int) (v_Stuffs : List Str) (v_Uses : List GClaimUse) (v_Opens : List Str) (v_Shuts : List Str) (l : List GClaimWant) : enc (cClaimWant κ) l ++ [[.int .i64 v_Number, .int .i64 v_Kind, .sl κ () 1 (enc cS v_Stuffs), .sl κ () 3 (enc cClaimUse v_Uses), .sl κ () 1 (enc cS v_Opens), .sl κ () 1 (enc cS v_Shuts)]] = enc (cClaimWant κ) (l ++ [⟨v_Number, v_Kind, v_Stuffs, v_Uses, v_Opens, v_Shuts⟩]) := by simp [enc]
@[simp] theorem encS_ClaimWant (κ : Knd) (v_Number : Int) (v_Kind : Int) (v_Stuffs : List Str) (v_Uses : List GClaimUse) (v_Opens : List Str) (v_Shuts : List Str) (l : List GClaimWant) (i : Nat) : (enc (cClaimWant κ) l).set i [.int .i64 v_Number, .int .i64 v_Kind, .sl κ () 1 (enc cS v_Stuffs), .sl κ () 3 (enc cClaimUse v_Uses), .sl κ () 1 (enc cS v_Opens), .sl κ () 1 (enc cS v_Shuts)] = enc (cClaimWant κ) (l.set i ⟨v_Number, v_Kind, v_Stuffs, v_Uses, v_Opens, v_Shuts⟩) := by simp [enc]
@[simp] theorem encZ_ClaimWant (n : Nat) : List.replicate n [.int .i64 0, .int .i64 0, .sl .own () 1 [], .sl .own () 3 [], .sl .own () 1 [], .sl .own () 1 []] = enc (cClaimWant .own) (List.replicate n ⟨0, 0, [], [], [], []⟩) := by simp [enc]
@[simp] theorem encB_ClaimWant (κ : Knd) (l : List GClaimWant) : boRows (enc (cClaimWant κ) l) = enc (cClaimWant (bk κ)) l := by
  apply boRows_enc; intro x; cases κ <;> simp [boRow, boT, bk]
@[simp] theorem encN_ClaimWant (κ : Knd) (l : List GClaimWant) (h : κ ≠ .bo) : noBoRows (enc (cClaimWant κ) l) = true := by
  apply noBo_enc; intro x; cases κ <;> simp_all [noBoRow, noBoT]
@[simp] theorem encD_ClaimWant (κ : Knd) (l : List GClaimWant) : defRows (enc (cClaimWant κ) l) = true := by
  apply def_enc; intro x; simp
structure GCtlAsk where
  Station : Str
  Want : GClaimWant
  deriving DecidableEq
@[simp] def cCtlAsk (κ : Knd) (x : GCtlAsk) : List UT := [.str x.Station, .int .i64 x.Want.Number, .int .i64 x.Want.Kind, .sl κ () 1 (enc cS x.Want.Stuffs), .sl κ () 3 (enc cClaimUse x.Want.Uses), .sl κ () 1 (enc cS x.Want.Opens), .sl κ () 1 (enc cS x.Want.Shuts)]
@[simp] theorem eta_CtlAsk (x : GCtlAsk) : (⟨x.Station, x.Want⟩ : GCtlAsk) = x := rfl
@[simp] theorem encA_CtlAsk (κ : Knd) (v_Station : Str) (v_Want_Number : Int) (v_Want_Kind : Int) (v_Want_Stuffs : List Str) (v_Want_Uses : List GClaimUse) (v_Want_Opens : List Str) (v_Want_Shuts : List Str) (l : List GCtlAsk) : enc (cCtlAsk κ) l ++ [[.str v_Station, .int .i64 v_Want_Number, .int .i64 v_Want_Kind, .sl κ () 1 (enc cS v_Want_Stuffs), .sl κ () 3 (enc cClaimUse v_Want_Uses), .sl κ () 1 (enc cS v_Want_Opens), .sl κ () 1 (enc cS v_Want_Shuts)]] = enc (cCtlAsk κ) (l ++ [⟨v_Station, ⟨v_Want_Number, v_Want_Kind, v_Want_Stuffs, v_Want_Uses, v_Want_Opens, v_Want_Shuts⟩⟩]) := by simp [enc]
@[simp] theorem encS_CtlAsk (κ : Knd) (v_Station : Str) (v_Want_Number : Int) (v_Want_Kind : Int) (v_Want_Stuffs : List Str) (v_Want_Uses : List GClaimUse) (v_Want_Opens : List Str) (v_Want_Shuts : List Str) (l : List GCtlAsk) (i : Nat) : (enc (cCtlAsk κ) l).set i [.str v_Station, .int .i64 v_Want_Number, .int .i64 v_Want_Kind, .sl κ () 1 (enc cS v_Want_Stuffs), .sl κ () 3 (enc cClaimUse v_Want_Uses), .sl κ () 1 (enc cS v_Want_Opens), .sl κ () 1 (enc cS v_Want_Shuts)] = enc (cCtlAsk κ) (l.set i ⟨v_Station, ⟨v_Want_Number, v_Want_Kind, v_Want_Stuffs, v_Want_Uses, v_Want_Opens, v_Want_Shuts⟩⟩) := by simp [enc]
@[simp] theorem encZ_CtlAsk (n : Nat) : List.replicate n [.str [], .int .i64 0, .int .i64 0, .sl .own () 1 [], .sl .own () 3 [], .sl .own () 1 [], .sl .own () 1 []] = enc (cCtlAsk .own) (List.replicate n ⟨[], ⟨0, 0, [], [], [], []⟩⟩) := by simp [enc]
@[simp] theorem encB_CtlAsk (κ : Knd) (l : List GCtlAsk) : boRows (enc (cCtlAsk κ) l) = enc (cCtlAsk (bk κ)) l := by
  apply boRows_enc; intro x; cases κ <;> simp [boRow, boT, bk]
@[simp] theorem encN_CtlAsk (κ : Knd) (l : List GCtlAsk) (h : κ ≠ .bo) : noBoRows (enc (cCtlAsk κ) l) = true := by
  apply noBo_enc; intro x; cases κ <;> simp_all [noBoRow, noBoT]
@[simp] theorem encD_CtlAsk (κ : Knd) (l : List GCtlAsk) : defRows (enc (cCtlAsk κ) l) = true := by
  apply def_enc; intro x; simp
@[simp] theorem szOf_3 : szOf PP 3 = 1 := by decide +kernel
@[simp] theorem aggB_3 : aggB PP 3 = false := by decide +kernel
@[simp] theorem arrB_3 : arrB PP 3 = false := by decide +kernel
@[simp] theorem bytesOf_3 : bytesOf PP 3 = 8 := by decide +kernel
@[simp] theorem flatB_3 : flatB PP 3 = true := by decide +kernel
@[simp] theorem zeroOf_3 : zeroOf PP 3 = [.int .i64 0] := by kernel_rfl
@[simp] theorem tyOk_3 : tyOk PP 3 = true := by decide +kernel
@[simp] theorem intTy_3 : intTy PP 3 = some .i64 := by decide +kernel
@[simp] theorem isu_3 : (PP.underlying 3).isSome = true := by decide +kernel
@[simp] theorem szOf_4 : szOf PP 4 = 1 := by decide +kernel
@[simp] theorem aggB_4 : aggB PP 4 = false := by decide +kernel
@[simp] theorem arrB_4 : arrB PP 4 = false := by decide +kernel
@[simp] theorem bytesOf_4 : bytesOf PP 4 = 1 := by decide +kernel
@[simp] theorem flatB_4 : flatB PP 4 = true := by decide +kernel
@[simp] theorem zeroOf_4 : zeroOf PP 4 = [.bool false] := by kernel_rfl
@[simp] theorem tyOk_4 : tyOk PP 4 = true := by decide +kernel
@[simp] theorem boolOk_4 : boolOk PP 4 = true := by decide +kernel
@[simp] theorem intTy_4 : intTy PP 4 = none := by decide +kernel
@[simp] theorem isu_4 : (PP.underlying 4).isSome = true := by decide +kernel
@[simp] theorem szOf_5 : szOf PP 5 = 1 := by decide +kernel
@[simp] theorem aggB_5 : aggB PP 5 = false := by decide +kernel
@[simp] theorem arrB_5 : arrB PP 5 = false := by decide +kernel
@[simp] theorem bytesOf_5 : bytesOf PP 5 = 1 := by decide +kernel
@[simp] theorem flatB_5 : flatB PP 5 = true := by decide +kernel
@[simp] theorem zeroOf_5 : zeroOf PP 5 = [.int .u8 0] := by kernel_rfl
@[simp] theorem tyOk_5 : tyOk PP 5 = true := by decide +kernel
@[simp] theorem intTy_5 : intTy PP 5 = some .u8 := by decide +kernel
@[simp] theorem isu_5 : (PP.underlying 5).isSome = true := by decide +kernel
@[simp] theorem szOf_9 : szOf PP 9 = 1 := by decide +kernel
@[simp] theorem aggB_9 : aggB PP 9 = false := by decide +kernel
@[simp] theorem arrB_9 : arrB PP 9 = false := by decide +kernel
@[simp] theorem bytesOf_9 : bytesOf PP 9 = 16 := by decide +kernel
@[simp] theorem flatB_9 : flatB PP 9 = true := by decide +kernel
@[simp] theorem zeroOf_9 : zeroOf PP 9 = [.str []] := by kernel_rfl
@[simp] theorem tyOk_9 : tyOk PP 9 = true := by decide +kernel
@[simp] theorem strOk_9 : strOk PP 9 = true := by decide +kernel
@[simp] theorem intTy_9 : intTy PP 9 = none := by decide +kernel
@[simp] theorem isu_9 : (PP.underlying 9).isSome = true := by decide +kernel
@[simp] theorem szOf_22 : szOf PP 22 = 1 := by decide +kernel
@[simp] theorem aggB_22 : aggB PP 22 = false := by decide +kernel
@[simp] theorem elemOf_22 : elemOf PP 22 = 9 := by decide +kernel
@[simp] theorem arrB_22 : arrB PP 22 = false := by decide +kernel
@[simp] theorem bytesOf_22 : bytesOf PP 22 = 24 := by decide +kernel
@[simp] theorem flatB_22 : flatB PP 22 = false := by decide +kernel
@[simp] theorem zeroOf_22 : zeroOf PP 22 = [.sl .own () 1 []] := by kernel_rfl
@[simp] theorem tyOk_22 : tyOk PP 22 = true := by decide +kernel
@[simp] theorem slOk_22 : slOk PP 22 = true := by decide +kernel
@[simp] theorem intTy_22 : intTy PP 22 = none := by decide +kernel
@[simp] theorem isu_22 : (PP.underlying 22).isSome = true := by decide +kernel
@[simp] theorem bytesTy_22 : bytesTy PP 22 = false := by decide +kernel
@[simp] theorem szOf_23 : szOf PP 23 = 1 := by decide +kernel
@[simp] theorem aggB_23 : aggB PP 23 = false := by decide +kernel
@[simp] theorem elemOf_23 : elemOf PP 23 = 85 := by decide +kernel
@[simp] theorem arrB_23 : arrB PP 23 = false := by decide +kernel
@[simp] theorem bytesOf_23 : bytesOf PP 23 = 24 := by decide +kernel
@[simp] theorem flatB_23 : flatB PP 23 = false := by decide +kernel
@[simp] theorem zeroOf_23 : zeroOf PP 23 = [.sl .own () 2 []] := by kernel_rfl
@[simp] theorem tyOk_23 : tyOk PP 23 = true := by decide +kernel
@[simp] theorem slOk_23 : slOk PP 23 = true := by decide +kernel
@[simp] theorem intTy_23 : intTy PP 23 = none := by decide +kernel
@[simp] theorem isu_23 : (PP.underlying 23).isSome = true := by decide +kernel
@[simp] theorem bytesTy_23 : bytesTy PP 23 = false := by decide +kernel
@[simp] theorem szOf_24 : szOf PP 24 = 1 := by decide +kernel
@[simp] theorem aggB_24 : aggB PP 24 = false := by decide +kernel
@[simp] theorem elemOf_24 : elemOf PP 24 = 88 := by decide +kernel
@[simp] theorem arrB_24 : arrB PP 24 = false := by decide +kernel
@[simp] theorem bytesOf_24 : bytesOf PP 24 = 24 := by decide +kernel
@[simp] theorem flatB_24 : flatB PP 24 = false := by decide +kernel
@[simp] theorem zeroOf_24 : zeroOf PP 24 = [.sl .own () 3 []] := by kernel_rfl
@[simp] theorem tyOk_24 : tyOk PP 24 = true := by decide +kernel
@[simp] theorem slOk_24 : slOk PP 24 = true := by decide +kernel
@[simp] theorem intTy_24 : intTy PP 24 = none := by decide +kernel
@[simp] theorem isu_24 : (PP.underlying 24).isSome = true := by decide +kernel
@[simp] theorem bytesTy_24 : bytesTy PP 24 = false := by decide +kernel
@[simp] theorem szOf_25 : szOf PP 25 = 1 := by decide +kernel
@[simp] theorem aggB_25 : aggB PP 25 = false := by decide +kernel
@[simp] theorem elemOf_25 : elemOf PP 25 = 91 := by decide +kernel
@[simp] theorem arrB_25 : arrB PP 25 = false := by decide +kernel
@[simp] theorem bytesOf_25 : bytesOf PP 25 = 24 := by decide +kernel
@[simp] theorem flatB_25 : flatB PP 25 = false := by decide +kernel
@[simp] theorem zeroOf_25 : zeroOf PP 25 = [.sl .own () 4 []] := by kernel_rfl
@[simp] theorem tyOk_25 : tyOk PP 25 = true := by decide +kernel
@[simp] theorem slOk_25 : slOk PP 25 = true := by decide +kernel
@[simp] theorem intTy_25 : intTy PP 25 = none := by decide +kernel
@[simp] theorem isu_25 : (PP.underlying 25).isSome = true := by decide +kernel
@[simp] theorem bytesTy_25 : bytesTy PP 25 = false := by decide +kernel
@[simp] theorem szOf_27 : szOf PP 27 = 4 := by decide +kernel
@[simp] theorem aggB_27 : aggB PP 27 = true := by decide +kernel
@[simp] theorem arrB_27 : arrB PP 27 = false := by decide +kernel
@[simp] theorem bytesOf_27 : bytesOf PP 27 = 96 := by decide +kernel
@[simp] theorem flatB_27 : flatB PP 27 = false := by decide +kernel
@[simp] theorem zeroOf_27 : zeroOf PP 27 = [.sl .own () 1 [], .sl .own () 2 [], .sl .own () 3 [], .sl .own () 4 []] := by kernel_rfl
@[simp] theorem tyOk_27 : tyOk PP 27 = true := by decide +kernel
@[simp] theorem partsOk_27 : partsOk PP 27 = true := by decide +kernel
@[simp] theorem fieldOf_27_0 : fieldOf PP 27 0 = some (0, 22) := by decide +kernel
@[simp] theorem fieldOf_27_1 : fieldOf PP 27 1 = some (1, 23) := by decide +kernel
@[simp] theorem fieldOf_27_2 : fieldOf PP 27 2 = some (2, 24) := by decide +kernel
@[simp] theorem fieldOf_27_3 : fieldOf PP 27 3 = some (3, 25) := by decide +kernel
@[simp] theorem intTy_27 : intTy PP 27 = none := by decide +kernel
@[simp] theorem isu_27 : (PP.underlying 27).isSome = true := by decide +kernel
@[simp] theorem szOf_29 : szOf PP 29 = 2 := by decide +kernel
@[simp] theorem aggB_29 : aggB PP 29 = true := by decide +kernel
@[simp] theorem arrB_29 : arrB PP 29 = false := by decide +kernel
@[simp] theorem bytesOf_29 : bytesOf PP 29 = 48 := by decide +kernel
@[simp] theorem flatB_29 : flatB PP 29 = false := by decide +kernel
@[simp] theorem zeroOf_29 : zeroOf PP 29 = [.sl .own () 1 [], .sl .own () 1 []] := by kernel_rfl
@[simp] theorem tyOk_29 : tyOk PP 29 = true := by decide +kernel
@[simp] theorem partsOk_29 : partsOk PP 29 = true := by decide +kernel
@[simp] theorem fieldOf_29_0 : fieldOf PP 29 0 = some (0, 22) := by decide +kernel
@[simp] theorem fieldOf_29_1 : fieldOf PP 29 1 = some (1, 22) := by decide +kernel
@[simp] theorem intTy_29 : intTy PP 29 = none := by decide +kernel
@[simp] theorem isu_29 : (PP.underlying 29).isSome = true := by decide +kernel
@[simp] theorem szOf_31 : szOf PP 31 = 11 := by decide +kernel
@[simp] theorem aggB_31 : aggB PP 31 = true := by decide +kernel
@[simp] theorem arrB_31 : arrB PP 31 = false := by decide +kernel
@[simp] theorem bytesOf_31 : bytesOf PP 31 = 168 := by decide +kernel
@[simp] theorem flatB_31 : flatB PP 31 = false := by decide +kernel
@[simp] theorem zeroOf_31 : zeroOf PP 31 = [.int .i64 0, .int .i64 0, .sl .own () 1 [], .sl .own () 1 [], .sl .own () 1 [], .sl .own () 1 [], .int .i64 0, .int .i64 0, .sl .own () 1 [], .int .i64 0, .bool false] := by kernel_rfl
@[simp] theorem tyOk_31 : tyOk PP 31 = true := by decide +kernel
@[simp] theorem partsOk_31 : partsOk PP 31 = true := by decide +kernel
@[simp] theorem fieldOf_31_0 : fieldOf PP 31 0 = some (0, 3) := by decide +kernel
@[simp] theorem fieldOf_31_1 : fieldOf PP 31 1 = some (1, 3) := by decide +kernel
@[simp] theorem fieldOf_31_2 : fieldOf PP 31 2 = some (2, 29) := by decide +kernel
@[simp] theorem fieldOf_31_3 : fieldOf PP 31 3 = some (4, 22) := by decide +kernel
@[simp] theorem fieldOf_31_4 : fieldOf PP 31 4 = some (5, 22) := by decide +kernel
@[simp] theorem fieldOf_31_5 : fieldOf PP 31 5 = some (6, 3) := by decide +kernel
@[simp] theorem fieldOf_31_6 : fieldOf PP 31 6 = some (7, 3) := by decide +kernel
@[simp] theorem fieldOf_31_7 : fieldOf PP 31 7 = some (8, 22) := by decide +kernel
@[simp] theorem fieldOf_31_8 : fieldOf PP 31 8 = some (9, 3) := by decide +kernel
@[simp] theorem fieldOf_31_9 : fieldOf PP 31 9 = some (10, 4) := by decide +kernel
@[simp] theorem intTy_31 : intTy PP 31 = none := by decide +kernel
@[simp] theorem isu_31 : (PP.underlying 31).isSome = true := by decide +kernel
@[simp] theorem szOf_34 : szOf PP 34 = 1 := by decide +kernel
@[simp] theorem aggB_34 : aggB PP 34 = false := by decide +kernel
@[simp] theorem elemOf_34 : elemOf PP 34 = 71 := by decide +kernel
@[simp] theorem arrB_34 : arrB PP 34 = false := by decide +kernel
@[simp] theorem bytesOf_34 : bytesOf PP 34 = 24 := by decide +kernel
@[simp] theorem flatB_34 : flatB PP 34 = false := by decide +kernel
@[simp] theorem zeroOf_34 : zeroOf PP 34 = [.sl .own () 7 []] := by kernel_rfl
@[simp] theorem tyOk_34 : tyOk PP 34 = true := by decide +kernel
@[simp] theorem slOk_34 : slOk PP 34 = true := by decide +kernel
@[simp] theorem intTy_34 : intTy PP 34 = none := by decide +kernel
@[simp] theorem isu_34 : (PP.underlying 34).isSome = true := by decide +kernel
@[simp] theorem bytesTy_34 : bytesTy PP 34 = false := by decide +kernel
@[simp] theorem szOf_36 : szOf PP 36 = 1 := by decide +kernel
@[simp] theorem aggB_36 : aggB PP 36 = false := by decide +kernel
@[simp] theorem elemOf_36 : elemOf PP 36 = 101 := by decide +kernel
@[simp] theorem arrB_36 : arrB PP 36 = false := by decide +kernel
@[simp] theorem bytesOf_36 : bytesOf PP 36 = 24 := by decide +kernel
@[simp] theorem flatB_36 : flatB PP 36 = false := by decide +kernel
@[simp] theorem zeroOf_36 : zeroOf PP 36 = [.sl .own () 2 []] := by kernel_rfl
@[simp] theorem tyOk_36 : tyOk PP 36 = true := by decide +kernel
@[simp] theorem slOk_36 : slOk PP 36 = true := by decide +kernel
@[simp] theorem intTy_36 : intTy PP 36 = none := by decide +kernel
@[simp] theorem isu_36 : (PP.underlying 36).isSome = true := by decide +kernel
@[simp] theorem bytesTy_36 : bytesTy PP 36 = false := by decide +kernel
@[simp] theorem szOf_37 : szOf PP 37 = 1 := by decide +kernel
@[simp] theorem aggB_37 : aggB PP 37 = false := by decide +kernel
@[simp] theorem elemOf_37 : elemOf PP 37 = 103 := by decide +kernel
@[simp] theorem arrB_37 : arrB PP 37 = false := by decide +kernel
@[simp] theorem bytesOf_37 : bytesOf PP 37 = 24 := by decide +kernel
@[simp] theorem flatB_37 : flatB PP 37 = false := by decide +kernel
@[simp] theorem zeroOf_37 : zeroOf PP 37 = [.sl .own () 3 []] := by kernel_rfl
@[simp] theorem tyOk_37 : tyOk PP 37 = true := by decide +kernel
@[simp] theorem slOk_37 : slOk PP 37 = true := by decide +kernel
@[simp] theorem intTy_37 : intTy PP 37 = none := by decide +kernel
@[simp] theorem isu_37 : (PP.underlying 37).isSome = true := by decide +kernel
@[simp] theorem bytesTy_37 : bytesTy PP 37 = false := by decide +kernel
@[simp] theorem szOf_38 : szOf PP 38 = 1 := by decide +kernel
@[simp] theorem aggB_38 : aggB PP 38 = false := by decide +kernel
@[simp] theorem elemOf_38 : elemOf PP 38 = 105 := by decide +kernel
@[simp] theorem arrB_38 : arrB PP 38 = false := by decide +kernel
@[simp] theorem bytesOf_38 : bytesOf PP 38 = 24 := by decide +kernel
@[simp] theorem flatB_38 : flatB PP 38 = false := by decide +kernel
@[simp] theorem zeroOf_38 : zeroOf PP 38 = [.sl .own () 4 []] := by kernel_rfl
@[simp] theorem tyOk_38 : tyOk PP 38 = true := by decide +kernel
@[simp] theorem slOk_38 : slOk PP 38 = true := by decide +kernel
@[simp] theorem intTy_38 : intTy PP 38 = none := by decide +kernel
@[simp] theorem isu_38 : (PP.underlying 38).isSome = true := by decide +kernel
@[simp] theorem bytesTy_38 : bytesTy PP 38 = false := by decide +kernel
@[simp] theorem szOf_40 : szOf PP 40 = 4 := by decide +kernel
@[simp] theorem aggB_40 : aggB PP 40 = true := by decide +kernel
@[simp] theorem arrB_40 : arrB PP 40 = false := by decide +kernel
@[simp] theorem bytesOf_40 : bytesOf PP 40 = 96 := by decide +kernel
@[simp] theorem flatB_40 : flatB PP 40 = false := by decide +kernel
@[simp] theorem zeroOf_40 : zeroOf PP 40 = [.sl .own () 1 [], .sl .own () 2 [], .sl .own () 3 [], .sl .own () 4 []] := by kernel_rfl
@[simp] theorem tyOk_40 : tyOk PP 40 = true := by decide +kernel
@[simp] theorem partsOk_40 : partsOk PP 40 = true := by decide +kernel
@[simp] theorem fieldOf_40_0 : fieldOf PP 40 0 = some (0, 22) := by decide +kernel
@[simp] theorem fieldOf_40_1 : fieldOf PP 40 1 = some (1, 36) := by decide +kernel
@[simp] theorem fieldOf_40_2 : fieldOf PP 40 2 = some (2, 37) := by decide +kernel
@[simp] theorem fieldOf_40_3 : fieldOf PP 40 3 = some (3, 38) := by decide +kernel
@[simp] theorem intTy_40 : intTy PP 40 = none := by decide +kernel
@[simp] theorem isu_40 : (PP.underlying 40).isSome = true := by decide +kernel
@[simp] theorem szOf_42 : szOf PP 42 = 2 := by decide +kernel
@[simp] theorem aggB_42 : aggB PP 42 = true := by decide +kernel
@[simp] theorem arrB_42 : arrB PP 42 = false := by decide +kernel
@[simp] theorem bytesOf_42 : bytesOf PP 42 = 48 := by decide +kernel
@[simp] theorem flatB_42 : flatB PP 42 = false := by decide +kernel
@[simp] theorem zeroOf_42 : zeroOf PP 42 = [.sl .own () 1 [], .sl .own () 1 []] := by kernel_rfl
@[simp] theorem tyOk_42 : tyOk PP 42 = true := by decide +kernel
@[simp] theorem partsOk_42 : partsOk PP 42 = true := by decide +kernel
@[simp] theorem fieldOf_42_0 : fieldOf PP 42 0 = some (0, 22) := by decide +kernel
@[simp] theorem fieldOf_42_1 : fieldOf PP 42 1 = some (1, 22) := by decide +kernel
@[simp] theorem intTy_42 : intTy PP 42 = none := by decide +kernel
@[simp] theorem isu_42 : (PP.underlying 42).isSome = true := by decide +kernel
@[simp] theorem szOf_44 : szOf PP 44 = 11 := by decide +kernel
@[simp] theorem aggB_44 : aggB PP 44 = true := by decide +kernel
@[simp] theorem arrB_44 : arrB PP 44 = false := by decide +kernel
@[simp] theorem bytesOf_44 : bytesOf PP 44 = 168 := by decide +kernel
@[simp] theorem flatB_44 : flatB PP 44 = false := by decide +kernel
@[simp] theorem zeroOf_44 : zeroOf PP 44 = [.int .i64 0, .int .i64 0, .sl .own () 1 [], .sl .own () 1 [], .sl .own () 1 [], .sl .own () 1 [], .int .i64 0, .int .i64 0, .sl .own () 1 [], .int .i64 0, .bool false] := by kernel_rfl
@[simp] theorem tyOk_44 : tyOk PP 44 = true := by decide +kernel
@[simp] theorem partsOk_44 : partsOk PP 44 = true := by decide +kernel
@[simp] theorem fieldOf_44_0 : fieldOf PP 44 0 = some (0, 3) := by decide +kernel
@[simp] theorem fieldOf_44_1 : fieldOf PP 44 1 = some (1, 3) := by decide +kernel
@[simp] theorem fieldOf_44_2 : fieldOf PP 44 2 = some (2, 42) := by decide +kernel
@[simp] theorem fieldOf_44_3 : fieldOf PP 44 3 = some (4, 22) := by decide +kernel
@[simp] theorem fieldOf_44_4 : fieldOf PP 44 4 = some (5, 22) := by decide +kernel
@[simp] theorem fieldOf_44_5 : fieldOf PP 44 5 = some (6, 3) := by decide +kernel
@[simp] theorem fieldOf_44_6 : fieldOf PP 44 6 = some (7, 3) := by decide +kernel
@[simp] theorem fieldOf_44_7 : fieldOf PP 44 7 = some (8, 22) := by decide +kernel
@[simp] theorem fieldOf_44_8 : fieldOf PP 44 8 = some (9, 3) := by decide +kernel
@[simp] theorem fieldOf_44_9 : fieldOf PP 44 9 = some (10, 4) := by decide +kernel
@[simp] theorem intTy_44 : intTy PP 44 = none := by decide +kernel
@[simp] theorem isu_44 : (PP.underlying 44).isSome = true := by decide +kernel
@[simp] theorem szOf_67 : szOf PP 67 = 1 := by decide +kernel
@[simp] theorem aggB_67 : aggB PP 67 = false := by decide +kernel
@[simp] theorem elemOf_67 : elemOf PP 67 = 95 := by decide +kernel
@[simp] theorem arrB_67 : arrB PP 67 = false := by decide +kernel
@[simp] theorem bytesOf_67 : bytesOf PP 67 = 24 := by decide +kernel
@[simp] theorem flatB_67 : flatB PP 67 = false := by decide +kernel
@[simp] theorem zeroOf_67 : zeroOf PP 67 = [.sl .own () 3 []] := by kernel_rfl
@[simp] theorem tyOk_67 : tyOk PP 67 = true := by decide +kernel
@[simp] theorem slOk_67 : slOk PP 67 = true := by decide +kernel
@[simp] theorem intTy_67 : intTy PP 67 = none := by decide +kernel
@[simp] theorem isu_67 : (PP.underlying 67).isSome = true := by decide +kernel
@[simp] theorem bytesTy_67 : bytesTy PP 67 = false := by decide +kernel
@[simp] theorem szOf_69 : szOf PP 69 = 6 := by decide +kernel
@[simp] theorem aggB_69 : aggB PP 69 = true := by decide +kernel
@[simp] theorem arrB_69 : arrB PP 69 = false := by decide +kernel
@[simp] theorem bytesOf_69 : bytesOf PP 69 = 112 := by decide +kernel
@[simp] theorem flatB_69 : flatB PP 69 = false := by decide +kernel
@[simp] theorem zeroOf_69 : zeroOf PP 69 = [.int .i64 0, .int .i64 0, .sl .own () 1 [], .sl .own () 3 [], .sl .own () 1 [], .sl .own () 1 []] := by kernel_rfl
@[simp] theorem tyOk_69 : tyOk PP 69 = true := by decide +kernel
@[simp] theorem partsOk_69 : partsOk PP 69 = true := by decide +kernel
@[simp] theorem fieldOf_69_0 : fieldOf PP 69 0 = some (0, 3) := by decide +kernel
@[simp] theorem fieldOf_69_1 : fieldOf PP 69 1 = some (1, 3) := by decide +kernel
@[simp] theorem fieldOf_69_2 : fieldOf PP 69 2 = some (2, 22) := by decide +kernel
@[simp] theorem fieldOf_69_3 : fieldOf PP 69 3 = some (3, 67) := by decide +kernel
@[simp] theorem fieldOf_69_4 : fieldOf PP 69 4 = some (4, 22) := by decide +kernel
@[simp] theorem fieldOf_69_5 : fieldOf PP 69 5 = some (5, 22) := by decide +kernel
@[simp] theorem intTy_69 : intTy PP 69 = none := by decide +kernel
@[simp] theorem isu_69 : (PP.underlying 69).isSome = true := by decide +kernel
@[simp] theorem szOf_71 : szOf PP 71 = 7 := by decide +kernel
@[simp] theorem aggB_71 : aggB PP 71 = true := by decide +kernel
@[simp] theorem arrB_71 : arrB PP 71 = false := by decide +kernel
@[simp] theorem bytesOf_71 : bytesOf PP 71 = 128 := by decide +kernel
@[simp] theorem flatB_71 : flatB PP 71 = false := by decide +kernel
@[simp] theorem zeroOf_71 : zeroOf PP 71 = [.str [], .int .i64 0, .int .i64 0, .sl .own () 1 [], .sl .own () 3 [], .sl .own () 1 [], .sl .own () 1 []] := by kernel_rfl
@[simp] theorem tyOk_71 : tyOk PP 71 = true := by decide +kernel
@[simp] theorem partsOk_71 : partsOk PP 71 = true := by decide +kernel
@[simp] theorem fieldOf_71_0 : fieldOf PP 71 0 = some (0, 9) := by decide +kernel
@[simp] theorem fieldOf_71_1 : fieldOf PP 71 1 = some (1, 69) := by decide +kernel
@[simp] theorem intTy_71 : intTy PP 71 = none := by decide +kernel
@[simp] theorem isu_71 : (PP.underlying 71).isSome = true := by decide +kernel
@[simp] theorem szOf_85 : szOf PP 85 = 2 := by decide +kernel
@[simp] theorem aggB_85 : aggB PP 85 = true := by decide +kernel
@[simp] theorem arrB_85 : arrB PP 85 = false := by decide +kernel
@[simp] theorem bytesOf_85 : bytesOf PP 85 = 32 := by decide +kernel
@[simp] theorem flatB_85 : flatB PP 85 = true := by decide +kernel
@[simp] theorem zeroOf_85 : zeroOf PP 85 = [.str [], .str []] := by kernel_rfl
@[simp] theorem tyOk_85 : tyOk PP 85 = true := by decide +kernel
@[simp] theorem partsOk_85 : partsOk PP 85 = true := by decide +kernel
@[simp] theorem fieldOf_85_0 : fieldOf PP 85 0 = some (0, 9) := by decide +kernel
@[simp] theorem fieldOf_85_1 : fieldOf PP 85 1 = some (1, 9) := by decide +kernel
@[simp] theorem intTy_85 : intTy PP 85 = none := by decide +kernel
@[simp] theorem isu_85 : (PP.underlying 85).isSome = true := by decide +kernel
@[simp] theorem szOf_88 : szOf PP 88 = 3 := by decide +kernel
@[simp] theorem aggB_88 : aggB PP 88 = true := by decide +kernel
@[simp] theorem arrB_88 : arrB PP 88 = false := by decide +kernel
@[simp] theorem bytesOf_88 : bytesOf PP 88 = 40 := by decide +kernel
@[simp] theorem flatB_88 : flatB PP 88 = true := by decide +kernel
@[simp] theorem zeroOf_88 : zeroOf PP 88 = [.str [], .int .i64 0, .str []] := by kernel_rfl
@[simp] theorem tyOk_88 : tyOk PP 88 = true := by decide +kernel
@[simp] theorem partsOk_88 : partsOk PP 88 = true := by decide +kernel
@[simp] theorem fieldOf_88_0 : fieldOf PP 88 0 = some (0, 9) := by decide +kernel
@[simp] theorem fieldOf_88_1 : fieldOf PP 88 1 = some (1, 3) := by decide +kernel
@[simp] theorem fieldOf_88_2 : fieldOf PP 88 2 = some (2, 9) := by decide +kernel
@[simp] theorem intTy_88 : intTy PP 88 = none := by decide +kernel
@[simp] theorem isu_88 : (PP.underlying 88).isSome = true := by decide +kernel
@[simp] theorem szOf_91 : szOf PP 91 = 4 := by decide +kernel
@[simp] theorem aggB_91 : aggB PP 91 = true := by decide +kernel
@[simp] theorem arrB_91 : arrB PP 91 = false := by decide +kernel
@[simp] theorem bytesOf_91 : bytesOf PP 91 = 64 := by decide +kernel
@[simp] theorem flatB_91 : flatB PP 91 = true := by decide +kernel
@[simp] theorem zeroOf_91 : zeroOf PP 91 = [.str [], .str [], .str [], .str []] := by kernel_rfl
@[simp] theorem tyOk_91 : tyOk PP 91 = true := by decide +kernel
@[simp] theorem partsOk_91 : partsOk PP 91 = true := by decide +kernel
@[simp] theorem fieldOf_91_0 : fieldOf PP 91 0 = some (0, 9) := by decide +kernel
@[simp] theorem fieldOf_91_1 : fieldOf PP 91 1 = some (1, 9) := by decide +kernel
@[simp] theorem fieldOf_91_2 : fieldOf PP 91 2 = some (2, 9) := by decide +kernel
@[simp] theorem fieldOf_91_3 : fieldOf PP 91 3 = some (3, 9) := by decide +kernel
@[simp] theorem intTy_91 : intTy PP 91 = none := by decide +kernel
@[simp] theorem isu_91 : (PP.underlying 91).isSome = true := by decide +kernel
@[simp] theorem szOf_95 : szOf PP 95 = 3 := by decide +kernel
@[simp] theorem aggB_95 : aggB PP 95 = true := by decide +kernel
@[simp] theorem arrB_95 : arrB PP 95 = false := by decide +kernel
@[simp] theorem bytesOf_95 : bytesOf PP 95 = 32 := by decide +kernel
@[simp] theorem flatB_95 : flatB PP 95 = true := by decide +kernel
@[simp] theorem zeroOf_95 : zeroOf PP 95 = [.str [], .int .i64 0, .int .i64 0] := by kernel_rfl
@[simp] theorem tyOk_95 : tyOk PP 95 = true := by decide +kernel
@[simp] theorem partsOk_95 : partsOk PP 95 = true := by decide +kernel
@[simp] theorem fieldOf_95_0 : fieldOf PP 95 0 = some (0, 9) := by decide +kernel
@[simp] theorem fieldOf_95_1 : fieldOf PP 95 1 = some (1, 3) := by decide +kernel
@[simp] theorem fieldOf_95_2 : fieldOf PP 95 2 = some (2, 3) := by decide +kernel
@[simp] theorem intTy_95 : intTy PP 95 = none := by decide +kernel
@[simp] theorem isu_95 : (PP.underlying 95).isSome = true := by decide +kernel
@[simp] theorem szOf_101 : szOf PP 101 = 2 := by decide +kernel
@[simp] theorem aggB_101 : aggB PP 101 = true := by decide +kernel
@[simp] theorem arrB_101 : arrB PP 101 = false := by decide +kernel
@[simp] theorem bytesOf_101 : bytesOf PP 101 = 32 := by decide +kernel
@[simp] theorem flatB_101 : flatB PP 101 = true := by decide +kernel
@[simp] theorem zeroOf_101 : zeroOf PP 101 = [.str [], .str []] := by kernel_rfl
@[simp] theorem tyOk_101 : tyOk PP 101 = true := by decide +kernel
@[simp] theorem partsOk_101 : partsOk PP 101 = true := by decide +kernel
@[simp] theorem fieldOf_101_0 : fieldOf PP 101 0 = some (0, 9) := by decide +kernel
@[simp] theorem fieldOf_101_1 : fieldOf PP 101 1 = some (1, 9) := by decide +kernel
@[simp] theorem intTy_101 : intTy PP 101 = none := by decide +kernel
@[simp] theorem isu_101 : (PP.underlying 101).isSome = true := by decide +kernel
@[simp] theorem szOf_103 : szOf PP 103 = 3 := by decide +kernel
@[simp] theorem aggB_103 : aggB PP 103 = true := by decide +kernel
@[simp] theorem arrB_103 : arrB PP 103 = false := by decide +kernel
@[simp] theorem bytesOf_103 : bytesOf PP 103 = 40 := by decide +kernel
@[simp] theorem flatB_103 : flatB PP 103 = true := by decide +kernel
@[simp] theorem zeroOf_103 : zeroOf PP 103 = [.str [], .int .i64 0, .str []] := by kernel_rfl
@[simp] theorem tyOk_103 : tyOk PP 103 = true := by decide +kernel
@[simp] theorem partsOk_103 : partsOk PP 103 = true := by decide +kernel
@[simp] theorem fieldOf_103_0 : fieldOf PP 103 0 = some (0, 9) := by decide +kernel
@[simp] theorem fieldOf_103_1 : fieldOf PP 103 1 = some (1, 3) := by decide +kernel
@[simp] theorem fieldOf_103_2 : fieldOf PP 103 2 = some (2, 9) := by decide +kernel
@[simp] theorem intTy_103 : intTy PP 103 = none := by decide +kernel
@[simp] theorem isu_103 : (PP.underlying 103).isSome = true := by decide +kernel
@[simp] theorem szOf_105 : szOf PP 105 = 4 := by decide +kernel
@[simp] theorem aggB_105 : aggB PP 105 = true := by decide +kernel
@[simp] theorem arrB_105 : arrB PP 105 = false := by decide +kernel
@[simp] theorem bytesOf_105 : bytesOf PP 105 = 64 := by decide +kernel
@[simp] theorem flatB_105 : flatB PP 105 = true := by decide +kernel
@[simp] theorem zeroOf_105 : zeroOf PP 105 = [.str [], .str [], .str [], .str []] := by kernel_rfl
@[simp] theorem tyOk_105 : tyOk PP 105 = true := by decide +kernel
@[simp] theorem partsOk_105 : partsOk PP 105 = true := by decide +kernel
@[simp] theorem fieldOf_105_0 : fieldOf PP 105 0 = some (0, 9) := by decide +kernel
@[simp] theorem fieldOf_105_1 : fieldOf PP 105 1 = some (1, 9) := by decide +kernel
@[simp] theorem fieldOf_105_2 : fieldOf PP 105 2 = some (2, 9) := by decide +kernel
@[simp] theorem fieldOf_105_3 : fieldOf PP 105 3 = some (3, 9) := by decide +kernel
@[simp] theorem intTy_105 : intTy PP 105 = none := by decide +kernel
@[simp] theorem isu_105 : (PP.underlying 105).isSome = true := by decide +kernel
@[simp] theorem szOf_109 : szOf PP 109 = 1 := by decide +kernel
@[simp] theorem aggB_109 : aggB PP 109 = false := by decide +kernel
@[simp] theorem elemOf_109 : elemOf PP 109 = 124 := by decide +kernel
@[simp] theorem arrB_109 : arrB PP 109 = false := by decide +kernel
@[simp] theorem bytesOf_109 : bytesOf PP 109 = 24 := by decide +kernel
@[simp] theorem flatB_109 : flatB PP 109 = false := by decide +kernel
@[simp] theorem zeroOf_109 : zeroOf PP 109 = [.sl .own () 2 []] := by kernel_rfl
@[simp] theorem tyOk_109 : tyOk PP 109 = true := by decide +kernel
@[simp] theorem slOk_109 : slOk PP 109 = true := by decide +kernel
@[simp] theorem intTy_109 : intTy PP 109 = none := by decide +kernel
@[simp] theorem isu_109 : (PP.underlying 109).isSome = true := by decide +kernel
@[simp] theorem bytesTy_109 : bytesTy PP 109 = false := by decide +kernel
@[simp] theorem szOf_119 : szOf PP 119 = 1 := by decide +kernel
@[simp] theorem aggB_119 : aggB PP 119 = false := by decide +kernel
@[simp] theorem elemOf_119 : elemOf PP 119 = 5 := by decide +kernel
@[simp] theorem arrB_119 : arrB PP 119 = false := by decide +kernel
@[simp] theorem bytesOf_119 : bytesOf PP 119 = 24 := by decide +kernel
@[simp] theorem flatB_119 : flatB PP 119 = false := by decide +kernel
@[simp] theorem zeroOf_119 : zeroOf PP 119 = [.sl .own () 1 []] := by kernel_rfl
@[simp] theorem tyOk_119 : tyOk PP 119 = true := by decide +kernel
@[simp] theorem slOk_119 : slOk PP 119 = true := by decide +kernel
@[simp] theorem intTy_119 : intTy PP 119 = none := by decide +kernel
@[simp] theorem isu_119 : (PP.underlying 119).isSome = true := by decide +kernel
@[simp] theorem bytesTy_119 : bytesTy PP 119 = true := by decide +kernel
@[simp] theorem szOf_124 : szOf PP 124 = 2 := by decide +kernel
@[simp] theorem aggB_124 : aggB PP 124 = true := by decide +kernel
@[simp] theorem elemOf_124 : elemOf PP 124 = 9 := by decide +kernel
@[simp] theorem arrB_124 : arrB PP 124 = true := by decide +kernel
@[simp] theorem arrLen_124 : arrLen PP 124 = 2 := by decide +kernel
@[simp] theorem bytesOf_124 : bytesOf PP 124 = 32 := by decide +kernel
@[simp] theorem flatB_124 : flatB PP 124 = true := by decide +kernel
@[simp] theorem zeroOf_124 : zeroOf PP 124 = [.str [], .str []] := by kernel_rfl
@[simp] theorem tyOk_124 : tyOk PP 124 = true := by decide +kernel
@[simp] theorem partsOk_124 : partsOk PP 124 = true := by decide +kernel
@[simp] theorem intTy_124 : intTy PP 124 = none := by decide +kernel
@[simp] theorem isu_124 : (PP.underlying 124).isSome = true := by decide +kernel
end Go.HT
end
section
namespace Go.HT
open Go Go.Proofs
def callT : List ((Nat × Nat) × Nat) := [((13, 0), 2), ((14, 0), 2), ((15, 0), 2), ((37, 0), 2), ((38, 0), 2), ((39, 0), 2), ((40, 0), 2), ((41, 0), 2), ((43, 0), 2), ((53, 0), 1), ((86, 0), 4), ((100, 0), 2)]
def callM (f i : Nat) : Nat := match callT.find? (fun x => x.1.1 == f && x.1.2 == i) with
  | some x => x.2
  | none => 0
@[simp] theorem callM_3_0 : callM 3 0 = 0 := by decide
@[simp] theorem callM_3_1 : callM 3 1 = 0 := by decide
@[simp] theorem callM_4_0 : callM 4 0 = 0 := by decide
@[simp] theorem callM_4_1 : callM 4 1 = 0 := by decide
@[simp] theorem callM_5_0 : callM 5 0 = 0 := by decide
@[simp] theorem callM_5_1 : callM 5 1 = 0 := by decide
@[simp] theorem callM_6_0 : callM 6 0 = 0 := by decide
@[simp] theorem callM_6_1 : callM 6 1 = 0 := by decide
@[simp] theorem callM_7_0 : callM 7 0 = 0 := by decide
@[simp] theorem callM_8_0 : callM 8 0 = 0 := by decide
@[simp] theorem callM_9_0 : callM 9 0 = 0 := by decide
@[simp] theorem callM_9_1 : callM 9 1 = 0 := by decide
@[simp] theorem callM_10_0 : callM 10 0 = 0 := by decide
@[simp] theorem callM_10_1 : callM 10 1 = 0 := by decide
@[simp] theorem callM_11_0 : callM 11 0 = 0 := by decide
@[simp] theorem callM_11_1 : callM 11 1 = 0 := by decide
@[simp] theorem callM_12_0 : callM 12 0 = 0 := by decide
@[simp] theorem callM_12_1 : callM 12 1 = 0 := by decide
@[simp] theorem callM_13_0 : callM 13 0 = 2 := by decide
@[simp] theorem callM_13_1 : callM 13 1 = 0 := by decide
@[simp] theorem callM_14_0 : callM 14 0 = 2 := by decide
@[simp] theorem callM_14_1 : callM 14 1 = 0 := by decide
@[simp] theorem callM_15_0 : callM 15 0 = 2 := by decide
@[simp] theorem callM_15_1 : callM 15 1 = 0 := by decide
@[simp] theorem callM_16_0 : callM 16 0 = 0 := by decide
@[simp] theorem callM_16_1 : callM 16 1 = 0 := by decide
@[simp] theorem callM_17_0 : callM 17 0 = 0 := by decide
@[simp] theorem callM_17_1 : callM 17 1 = 0 := by decide
@[simp] theorem callM_18_0 : callM 18 0 = 0 := by decide
@[simp] theorem callM_18_1 : callM 18 1 = 0 := by decide
@[simp] theorem callM_19_0 : callM 19 0 = 0 := by decide
@[simp] theorem callM_19_1 : callM 19 1 = 0 := by decide
@[simp] theorem callM_20_0 : callM 20 0 = 0 := by decide
@[simp] theorem callM_20_1 : callM 20 1 = 0 := by decide
@[simp] theorem callM_21_0 : callM 21 0 = 0 := by decide
@[simp] theorem callM_21_1 : callM 21 1 = 0 := by decide
@[simp] theorem callM_22_0 : callM 22 0 = 0 := by decide
@[simp] theorem callM_22_1 : callM 22 1 = 0 := by decide
@[simp] theorem callM_22_2 : callM 22 2 = 0 := by decide
@[simp] theorem callM_22_3 : callM 22 3 = 0 := by decide
@[simp] theorem callM_22_4 : callM 22 4 = 0 := by decide
@[simp] theorem callM_23_0 : callM 23 0 = 0 := by decide
@[simp] theorem callM_23_1 : callM 23 1 = 0 := by decide
@[simp] theorem callM_23_2 : callM 23 2 = 0 := by decide
@[simp] theorem callM_23_3 : callM 23 3 = 0 := by decide
@[simp] theorem callM_24_0 : callM 24 0 = 0 := by decide
@[simp] theorem callM_25_0 : callM 25 0 = 0 := by decide
@[simp] theorem callM_26_0 : callM 26 0 = 0 := by decide
@[simp] theorem callM_27_0 : callM 27 0 = 0 := by decide
@[simp] theorem callM_28_0 : callM 28 0 = 0 := by decide
@[simp] theorem callM_29_0 : callM 29 0 = 0 := by decide
@[simp] theorem callM_30_0 : callM 30 0 = 0 := by decide
@[simp] theorem callM_30_1 : callM 30 1 = 0 := by decide
@[simp] theorem callM_31_0 : callM 31 0 = 0 := by decide
@[simp] theorem callM_31_1 : callM 31 1 = 0 := by decide
@[simp] theorem callM_32_0 : callM 32 0 = 0 := by decide
@[simp] theorem callM_32_1 : callM 32 1 = 0 := by decide
@[simp] theorem callM_33_0 : callM 33 0 = 0 := by decide
@[simp] theorem callM_33_1 : callM 33 1 = 0 := by decide
@[simp] theorem callM_34_0 : callM 34 0 = 0 := by decide
@[simp] theorem callM_34_1 : callM 34 1 = 0 := by decide
@[simp] theorem callM_35_0 : callM 35 0 = 0 := by decide
@[simp] theorem callM_35_1 : callM 35 1 = 0 := by decide
@[simp] theorem callM_36_0 : callM 36 0 = 0 := by decide
@[simp] theorem callM_36_1 : callM 36 1 = 0 := by decide
@[simp] theorem callM_37_0 : callM 37 0 = 2 := by decide
@[simp] theorem callM_37_1 : callM 37 1 = 0 := by decide
@[simp] theorem callM_38_0 : callM 38 0 = 2 := by decide
@[simp] theorem callM_38_1 : callM 38 1 = 0 := by decide
@[simp] theorem callM_39_0 : callM 39 0 = 2 := by decide
@[simp] theorem callM_39_1 : callM 39 1 = 0 := by decide
@[simp] theorem callM_40_0 : callM 40 0 = 2 := by decide
@[simp] theorem callM_40_1 : callM 40 1 = 0 := by decide
@[simp] theorem callM_41_0 : callM 41 0 = 2 := by decide
@[simp] theorem callM_41_1 : callM 41 1 = 0 := by decide
@[simp] theorem callM_42_0 : callM 42 0 = 0 := by decide
@[simp] theorem callM_43_0 : callM 43 0 = 2 := by decide
@[simp] theorem callM_43_1 : callM 43 1 = 0 := by decide
@[simp] theorem callM_44_0 : callM 44 0 = 0 := by decide
@[simp] theorem callM_44_1 : callM 44 1 = 0 := by decide
@[simp] theorem callM_45_0 : callM 45 0 = 0 := by decide
@[simp] theorem callM_45_1 : callM 45 1 = 0 := by decide
@[simp] theorem callM_46_0 : callM 46 0 = 0 := by decide
@[simp] theorem callM_46_1 : callM 46 1 = 0 := by decide
@[simp] theorem callM_47_0 : callM 47 0 = 0 := by decide
@[simp] theorem callM_47_1 : callM 47 1 = 0 := by decide
@[simp] theorem callM_48_0 : callM 48 0 = 0 := by decide
@[simp] theorem callM_48_1 : callM 48 1 = 0 := by decide
@[simp] theorem callM_49_0 : callM 49 0 = 0 := by decide
@[simp] theorem callM_50_0 : callM 50 0 = 0 := by decide
@[simp] theorem callM_50_1 : callM 50 1 = 0 := by decide
@[simp] theorem callM_51_0 : callM 51 0 = 0 := by decide
@[simp] theorem callM_51_1 : callM 51 1 = 0 := by decide
@[simp] theorem callM_52_0 : callM 52 0 = 0 := by decide
@[simp] theorem callM_52_1 : callM 52 1 = 0 := by decide
@[simp] theorem callM_53_0 : callM 53 0 = 1 := by decide
@[simp] theorem callM_53_1 : callM 53 1 = 0 := by decide
@[simp] theorem callM_54_0 : callM 54 0 = 0 := by decide
@[simp] theorem callM_54_1 : callM 54 1 = 0 := by decide
@[simp] theorem callM_55_0 : callM 55 0 = 0 := by decide
@[simp] theorem callM_55_1 : callM 55 1 = 0 := by decide
@[simp] theorem callM_56_0 : callM 56 0 = 0 := by decide
@[simp] theorem callM_56_1 : callM 56 1 = 0 := by decide
@[simp] theorem callM_57_0 : callM 57 0 = 0 := by decide
@[simp] theorem callM_58_0 : callM 58 0 = 0 := by decide
@[simp] theorem callM_59_0 : callM 59 0 = 0 := by decide
@[simp] theorem callM_60_0 : callM 60 0 = 0 := by decide
@[simp] theorem callM_61_0 : callM 61 0 = 0 := by decide
@[simp] theorem callM_61_1 : callM 61 1 = 0 := by decide
@[simp] theorem callM_62_0 : callM 62 0 = 0 := by decide
@[simp] theorem callM_63_0 : callM 63 0 = 0 := by decide
@[simp] theorem callM_63_1 : callM 63 1 = 0 := by decide
@[simp] theorem callM_64_0 : callM 64 0 = 0 := by decide
@[simp] theorem callM_65_0 : callM 65 0 = 0 := by decide
@[simp] theorem callM_65_1 : callM 65 1 = 0 := by decide
@[simp] theorem callM_66_0 : callM 66 0 = 0 := by decide
@[simp] theorem callM_66_1 : callM 66 1 = 0 := by decide
@[simp] theorem callM_66_2 : callM 66 2 = 0 := by decide
@[simp] theorem callM_66_3 : callM 66 3 = 0 := by decide
@[simp] theorem callM_66_4 : callM 66 4 = 0 := by decide
@[simp] theorem callM_67_0 : callM 67 0 = 0 := by decide
@[simp] theorem callM_67_1 : callM 67 1 = 0 := by decide
@[simp] theorem callM_67_2 : callM 67 2 = 0 := by decide
@[simp] theorem callM_67_3 : callM 67 3 = 0 := by decide
@[simp] theorem callM_68_0 : callM 68 0 = 0 := by decide
@[simp] theorem callM_68_1 : callM 68 1 = 0 := by decide
@[simp] theorem callM_69_0 : callM 69 0 = 0 := by decide
@[simp] theorem callM_69_1 : callM 69 1 = 0 := by decide
@[simp] theorem callM_70_0 : callM 70 0 = 0 := by decide
@[simp] theorem callM_70_1 : callM 70 1 = 0 := by decide
@[simp] theorem callM_71_0 : callM 71 0 = 0 := by decide
@[simp] theorem callM_71_1 : callM 71 1 = 0 := by decide
@[simp] theorem callM_72_0 : callM 72 0 = 0 := by decide
@[simp] theorem callM_73_0 : callM 73 0 = 0 := by decide
@[simp] theorem callM_74_0 : callM 74 0 = 0 := by decide
@[simp] theorem callM_75_0 : callM 75 0 = 0 := by decide
@[simp] theorem callM_75_1 : callM 75 1 = 0 := by decide
@[simp] theorem callM_76_0 : callM 76 0 = 0 := by decide
@[simp] theorem callM_76_1 : callM 76 1 = 0 := by decide
@[simp] theorem callM_77_0 : callM 77 0 = 0 := by decide
@[simp] theorem callM_77_1 : callM 77 1 = 0 := by decide
@[simp] theorem callM_77_2 : callM 77 2 = 0 := by decide
@[simp] theorem callM_77_3 : callM 77 3 = 0 := by decide
@[simp] theorem callM_78_0 : callM 78 0 = 0 := by decide
@[simp] theorem callM_79_0 : callM 79 0 = 0 := by decide
@[simp] theorem callM_79_1 : callM 79 1 = 0 := by decide
@[simp] theorem callM_79_2 : callM 79 2 = 0 := by decide
@[simp] theorem callM_80_0 : callM 80 0 = 0 := by decide
@[simp] theorem callM_80_1 : callM 80 1 = 0 := by decide
@[simp] theorem callM_81_0 : callM 81 0 = 0 := by decide
@[simp] theorem callM_82_0 : callM 82 0 = 0 := by decide
@[simp] theorem callM_82_1 : callM 82 1 = 0 := by decide
@[simp] theorem callM_83_0 : callM 83 0 = 0 := by decide
@[simp] theorem callM_83_1 : callM 83 1 = 0 := by decide
@[simp] theorem callM_84_0 : callM 84 0 = 0 := by decide
@[simp] theorem callM_84_1 : callM 84 1 = 0 := by decide
@[simp] theorem callM_85_0 : callM 85 0 = 0 := by decide
@[simp] theorem callM_85_1 : callM 85 1 = 0 := by decide
@[simp] theorem callM_86_0 : callM 86 0 = 4 := by decide
@[simp] theorem callM_86_1 : callM 86 1 = 0 := by decide
@[simp] theorem callM_87_0 : callM 87 0 = 0 := by decide
@[simp] theorem callM_87_1 : callM 87 1 = 0 := by decide
@[simp] theorem callM_88_0 : callM 88 0 = 0 := by decide
@[simp] theorem callM_88_1 : callM 88 1 = 0 := by decide
@[simp] theorem callM_89_0 : callM 89 0 = 0 := by decide
@[simp] theorem callM_89_1 : callM 89 1 = 0 := by decide
@[simp] theorem callM_90_0 : callM 90 0 = 0 := by decide
@[simp] theorem callM_90_1 : callM 90 1 = 0 := by decide
@[simp] theorem callM_91_0 : callM 91 0 = 0 := by decide
@[simp] theorem callM_91_1 : callM 91 1 = 0 := by decide
@[simp] theorem callM_92_0 : callM 92 0 = 0 := by decide
@[simp] theorem callM_93_0 : callM 93 0 = 0 := by decide
@[simp] theorem callM_93_1 : callM 93 1 = 0 := by decide
@[simp] theorem callM_94_0 : callM 94 0 = 0 := by decide
@[simp] theorem callM_94_1 : callM 94 1 = 0 := by decide
@[simp] theorem callM_94_2 : callM 94 2 = 0 := by decide
@[simp] theorem callM_95_0 : callM 95 0 = 0 := by decide
@[simp] theorem callM_95_1 : callM 95 1 = 0 := by decide
@[simp] theorem callM_96_0 : callM 96 0 = 0 := by decide
@[simp] theorem callM_96_1 : callM 96 1 = 0 := by decide
@[simp] theorem callM_97_0 : callM 97 0 = 0 := by decide
@[simp] theorem callM_98_0 : callM 98 0 = 0 := by decide
@[simp] theorem callM_98_1 : callM 98 1 = 0 := by decide
@[simp] theorem callM_99_0 : callM 99 0 = 0 := by decide
@[simp] theorem callM_99_1 : callM 99 1 = 0 := by decide
@[simp] theorem callM_100_0 : callM 100 0 = 2 := by decide
@[simp] theorem callM_101_0 : callM 101 0 = 0 := by decide
@[simp] theorem callM_102_0 : callM 102 0 = 0 := by decide
@[simp] theorem callM_103_0 : callM 103 0 = 0 := by decide
@[simp] theorem callM_104_0 : callM 104 0 = 0 := by decide
@[simp] theorem callM_105_0 : callM 105 0 = 0 := by decide
@[simp] theorem callM_105_1 : callM 105 1 = 0 := by decide
@[simp] theorem callM_105_2 : callM 105 2 = 0 := by decide
@[simp] theorem callM_105_3 : callM 105 3 = 0 := by decide
@[simp] theorem callM_106_0 : callM 106 0 = 0 := by decide
@[simp] theorem callM_107_0 : callM 107 0 = 0 := by decide
@[simp] theorem callM_108_0 : callM 108 0 = 0 := by decide
@[simp] theorem callM_109_0 : callM 109 0 = 0 := by decide
@[simp] theorem callM_109_1 : callM 109 1 = 0 := by decide
@[simp] theorem callM_110_0 : callM 110 0 = 0 := by decide
@[simp] theorem callM_120_0 : callM 120 0 = 0 := by decide
@[simp] theorem callM_121_0 : callM 121 0 = 0 := by decide
@[simp] theorem callM_122_0 : callM 122 0 = 0 := by decide
@[simp] theorem callM_122_1 : callM 122 1 = 0 := by decide
@[simp] theorem callM_122_2 : callM 122 2 = 0 := by decide
@[simp] theorem callM_123_0 : callM 123 0 = 0 := by decide
@[simp] theorem callM_123_1 : callM 123 1 = 0 := by decide
@[simp] theorem callM_123_2 : callM 123 2 = 0 := by decide
@[simp] theorem callM_124_0 : callM 124 0 = 0 := by decide
@[simp] theorem callM_124_1 : callM 124 1 = 0 := by decide
@[simp] theorem callM_124_2 : callM 124 2 = 0 := by decide
@[simp] theorem callM_125_0 : callM 125 0 = 0 := by decide
@[simp] theorem callM_125_1 : callM 125 1 = 0 := by decide
@[simp] theorem callM_125_2 : callM 125 2 = 0 := by decide
@[simp] theorem callM_126_0 : callM 126 0 = 0 := by decide
@[simp] theorem callM_126_1 : callM 126 1 = 0 := by decide
@[simp] theorem callM_126_2 : callM 126 2 = 0 := by decide
@[simp] theorem callM_127_0 : callM 127 0 = 0 := by decide
@[simp] theorem callM_127_1 : callM 127 1 = 0 := by decide
@[simp] theorem callM_127_2 : callM 127 2 = 0 := by decide
@[simp] theorem callM_128_0 : callM 128 0 = 0 := by decide
@[simp] theorem callM_128_1 : callM 128 1 = 0 := by decide
@[simp] theorem callM_128_2 : callM 128 2 = 0 := by decide
@[simp] theorem callM_128_3 : callM 128 3 = 0 := by decide
@[simp] theorem callM_129_0 : callM 129 0 = 0 := by decide
@[simp] theorem callM_129_1 : callM 129 1 = 0 := by decide
@[simp] theorem callM_129_2 : callM 129 2 = 0 := by decide
@[simp] theorem callM_129_3 : callM 129 3 = 0 := by decide
@[simp] theorem callM_130_0 : callM 130 0 = 0 := by decide
@[simp] theorem callM_130_1 : callM 130 1 = 0 := by decide
@[simp] theorem callM_130_2 : callM 130 2 = 0 := by decide
@[simp] theorem callM_130_3 : callM 130 3 = 0 := by decide
@[simp] theorem callM_131_0 : callM 131 0 = 0 := by decide
@[simp] theorem callM_131_1 : callM 131 1 = 0 := by decide
@[simp] theorem callM_131_2 : callM 131 2 = 0 := by decide
@[simp] theorem callM_131_3 : callM 131 3 = 0 := by decide
@[simp] theorem callM_132_0 : callM 132 0 = 0 := by decide
@[simp] theorem callM_133_0 : callM 133 0 = 0 := by decide
@[simp] theorem callM_134_0 : callM 134 0 = 0 := by decide
@[simp] theorem callM_134_1 : callM 134 1 = 0 := by decide
@[simp] theorem callM_134_2 : callM 134 2 = 0 := by decide
@[simp] theorem callM_135_0 : callM 135 0 = 0 := by decide
@[simp] theorem callM_135_1 : callM 135 1 = 0 := by decide
@[simp] theorem callM_135_2 : callM 135 2 = 0 := by decide
@[simp] theorem callM_135_3 : callM 135 3 = 0 := by decide
@[simp] theorem callM_135_4 : callM 135 4 = 0 := by decide
@[simp] theorem callM_136_0 : callM 136 0 = 0 := by decide
@[simp] theorem callM_136_1 : callM 136 1 = 0 := by decide
@[simp] theorem callM_136_2 : callM 136 2 = 0 := by decide
@[simp] theorem callM_137_0 : callM 137 0 = 0 := by decide
@[simp] theorem callM_137_1 : callM 137 1 = 0 := by decide
@[simp] theorem callM_137_2 : callM 137 2 = 0 := by decide
@[simp] theorem callM_138_0 : callM 138 0 = 0 := by decide
@[simp] theorem callM_138_1 : callM 138 1 = 0 := by decide
@[simp] theorem callM_138_2 : callM 138 2 = 0 := by decide
@[simp] theorem callM_139_0 : callM 139 0 = 0 := by decide
@[simp] theorem callM_139_1 : callM 139 1 = 0 := by decide
@[simp] theorem callM_139_2 : callM 139 2 = 0 := by decide
@[simp] theorem callM_140_0 : callM 140 0 = 0 := by decide
@[simp] theorem callM_140_1 : callM 140 1 = 0 := by decide
@[simp] theorem callM_140_2 : callM 140 2 = 0 := by decide
@[simp] theorem callM_141_0 : callM 141 0 = 0 := by decide
@[simp] theorem callM_141_1 : callM 141 1 = 0 := by decide
@[simp] theorem callM_141_2 : callM 141 2 = 0 := by decide
@[simp] theorem callM_142_0 : callM 142 0 = 0 := by decide
@[simp] theorem callM_142_1 : callM 142 1 = 0 := by decide
@[simp] theorem callM_143_0 : callM 143 0 = 0 := by decide
@[simp] theorem callM_143_1 : callM 143 1 = 0 := by decide
@[simp] theorem callM_143_2 : callM 143 2 = 0 := by decide
@[simp] theorem callM_143_3 : callM 143 3 = 0 := by decide
@[simp] theorem callM_144_0 : callM 144 0 = 0 := by decide
@[simp] theorem callM_144_1 : callM 144 1 = 0 := by decide
@[simp] theorem callM_144_2 : callM 144 2 = 0 := by decide
@[simp] theorem callM_144_3 : callM 144 3 = 0 := by decide
@[simp] theorem callM_145_0 : callM 145 0 = 0 := by decide
@[simp] theorem callM_145_1 : callM 145 1 = 0 := by decide
@[simp] theorem callM_145_2 : callM 145 2 = 0 := by decide
@[simp] theorem callM_145_3 : callM 145 3 = 0 := by decide
@[simp] theorem callM_146_0 : callM 146 0 = 0 := by decide
@[simp] theorem callM_146_1 : callM 146 1 = 0 := by decide
@[simp] theorem callM_146_2 : callM 146 2 = 0 := by decide
@[simp] theorem callM_146_3 : callM 146 3 = 0 := by decide
@[simp] theorem callM_147_0 : callM 147 0 = 0 := by decide
@[simp] theorem callM_148_0 : callM 148 0 = 0 := by decide
@[simp] theorem callM_149_0 : callM 149 0 = 0 := by decide
@[simp] theorem callM_149_1 : callM 149 1 = 0 := by decide
@[simp] theorem callM_149_2 : callM 149 2 = 0 := by decide
@[simp] theorem callM_150_0 : callM 150 0 = 0 := by decide
@[simp] theorem callM_150_1 : callM 150 1 = 0 := by decide
@[simp] theorem callM_150_2 : callM 150 2 = 0 := by decide
@[simp] theorem callM_150_3 : callM 150 3 = 0 := by decide
@[simp] theorem callM_150_4 : callM 150 4 = 0 := by decide
@[simp] theorem callM_151_0 : callM 151 0 = 0 := by decide
@[simp] theorem callM_152_0 : callM 152 0 = 0 := by decide
@[simp] theorem callM_152_1 : callM 152 1 = 0 := by decide
@[simp] theorem callM_152_2 : callM 152 2 = 0 := by decide
@[simp] theorem callM_152_3 : callM 152 3 = 0 := by decide
end Go.HT
end
section
namespace Go.HT
open Go Go.Proofs
/-- Two ways on. -/
@[irreducible] def condB (b w : Bool) (A B : Prop) : Prop := (b = w → A) ∧ (b = (!w) → B)
@[congr] theorem condB_congr {b b' w : Bool} {p q A A' B B' : Prop} (h : b = b') (h2 : (b' = w) = p) (h3 : (b' = (!w)) = q) (hA : b' = w → p → A = A') (hB : b' = (!w) → q → B = B') : condB b w A B = condB b' w A' B' := by
  subst h h2 h3
  apply propext
  unfold condB
  constructor
  · exact fun ⟨h1, h2⟩ => ⟨fun hc => by rw [← hA hc hc]; exact h1 hc, fun hc => by rw [← hB hc hc]; exact h2 hc⟩
  · exact fun ⟨h1, h2⟩ => ⟨fun hc => by rw [hA hc hc]; exact h1 hc, fun hc => by rw [hB hc hc]; exact h2 hc⟩
@[simp ↓] theorem condB_tt (A B : Prop) : condB true true A B = A := by simp [condB]
@[simp ↓] theorem condB_tf (A B : Prop) : condB true false A B = B := by simp [condB]
@[simp ↓] theorem condB_ft (A B : Prop) : condB false true A B = B := by simp [condB]
@[simp ↓] theorem condB_ff (A B : Prop) : condB false false A B = A := by simp [condB]
@[simp] theorem condB_tt' (A B : Prop) : condB true true A B = A := by simp [condB]
@[simp] theorem condB_tf' (A B : Prop) : condB true false A B = B := by simp [condB]
@[simp] theorem condB_ft' (A B : Prop) : condB false true A B = B := by simp [condB]
@[simp] theorem condB_ff' (A B : Prop) : condB false false A B = A := by simp [condB]
@[simp] theorem condB_same (b w : Bool) (A : Prop) : condB b w A A = A := by
  apply propext; unfold condB; cases b <;> cases w <;> simp
@[simp] theorem condB_nt (b w : Bool) (A B : Prop) : condB (!b) w A B = condB b w B A := by
  apply propext; unfold condB; cases b <;> cases w <;> simp
theorem condK_i {p A B : Prop} [Decidable p] (h1 : p → A) (h2 : ¬ p → B) : condB (decide p) true A B := by unfold condB; exact ⟨fun h => h1 (by simpa using h), fun h => h2 (by simpa using h)⟩
theorem condK_f {p A B : Prop} [Decidable p] (h2 : ¬ p → A) (h1 : p → B) : condB (decide p) false A B := by unfold condB; exact ⟨fun h => h2 (by simpa using h), fun h => h1 (by simpa using h)⟩
theorem condB_i {b w : Bool} {A B : Prop} (h1 : b = w → A) (h2 : b = (!w) → B) : condB b w A B := by unfold condB; exact ⟨h1, h2⟩
/-- Two ways on that are not looked into before it is known which. -/
@[irreducible] def condG (b w : Bool) (A K : W → Prop) (d : Option Tmp) (S : US) : Prop := (b = w → A ⟨S⟩) ∧ (b = (!w) → K ⟨putO S d (.tup [])⟩)
@[simp ↓] theorem condG_tt (A K : W → Prop) (d : Option Tmp) (S : US) : condG true true A K d S = A ⟨S⟩ := by simp [condG]
@[simp ↓] theorem condG_tf (A K : W → Prop) (d : Option Tmp) (S : US) : condG true false A K d S = K ⟨putO S d (.tup [])⟩ := by simp [condG]
@[simp ↓] theorem condG_ft (A K : W → Prop) (d : Option Tmp) (S : US) : condG false true A K d S = K ⟨putO S d (.tup [])⟩ := by simp [condG]
@[simp ↓] theorem condG_ff (A K : W → Prop) (d : Option Tmp) (S : US) : condG false false A K d S = A ⟨S⟩ := by simp [condG]
@[simp] theorem condG_tt' (A K : W → Prop) (d : Option Tmp) (S : US) : condG true true A K d S = A ⟨S⟩ := by simp [condG]
@[simp] theorem condG_tf' (A K : W → Prop) (d : Option Tmp) (S : US) : condG true false A K d S = K ⟨putO S d (.tup [])⟩ := by simp [condG]
@[simp] theorem condG_ft' (A K : W → Prop) (d : Option Tmp) (S : US) : condG false true A K d S = K ⟨putO S d (.tup [])⟩ := by simp [condG]
@[simp] theorem condG_ff' (A K : W → Prop) (d : Option Tmp) (S : US) : condG false false A K d S = A ⟨S⟩ := by simp [condG]
@[simp] theorem condG_nt (b : Bool) (A K : W → Prop) (d : Option Tmp) (S : US) : condG (!b) true A K d S = condG b false A K d S := by
  apply propext; unfold condG; cases b <;> simp
@[simp] theorem condG_nf (b : Bool) (A K : W → Prop) (d : Option Tmp) (S : US) : condG (!b) false A K d S = condG b true A K d S := by
  apply propext; unfold condG; cases b <;> simp
theorem condG_i {p : Prop} {A K : W → Prop} {d : Option Tmp} {S : US} [Decidable p] (h1 : p → A ⟨S⟩) (h2 : ¬ p → K ⟨putO S d (.tup [])⟩) : condG (decide p) true A K d S := by unfold condG; exact ⟨fun h => h1 (by simpa using h), fun h => h2 (by simpa using h)⟩
theorem condG_f {p : Prop} {A K : W → Prop} {d : Option Tmp} {S : US} [Decidable p] (h1 : p → K ⟨putO S d (.tup [])⟩) (h2 : ¬ p → A ⟨S⟩) : condG (decide p) false A K d S := by unfold condG; exact ⟨fun h => h2 (by simpa using h), fun h => h1 (by simpa using h)⟩
theorem condG_b {b w : Bool} {A K : W → Prop} {d : Option Tmp} {S : US} (h1 : b = w → A ⟨S⟩) (h2 : b = (!w) → K ⟨putO S d (.tup [])⟩) : condG b w A K d S := by unfold condG; exact ⟨h1, h2⟩
/-- An assumption of what follows. -/
@[irreducible] def andK (c : Prop) (A : Prop) : Prop := c ∧ A
@[congr] theorem andK_congr {c c' A A' : Prop} (h : c = c') (hA : c' → A = A') : andK c A = andK c' A' := by
  subst h
  apply propext
  unfold andK
  constructor
  · exact fun ⟨h1, h2⟩ => ⟨h1, by rw [← hA h1]; exact h2⟩
  · exact fun ⟨h1, h2⟩ => ⟨h1, by rw [hA h1]; exact h2⟩
@[simp] theorem andK_T (A : Prop) : andK True A = A := by simp [andK]
@[simp] theorem andK_F (A : Prop) : andK False A = False := by simp [andK]
theorem andK_i {c A : Prop} (h1 : c) (h2 : c → A) : andK c A := by unfold andK; exact ⟨h1, h2 h1⟩
section
variable {P : Program} {md : Modes} {S : US} {Q : Out → W → Prop} {K : W → Prop}
theorem vc_cond' {c : Operand} {a b : Code} : vc P md (.cond c a b) ⟨S⟩ Q = match ev P S 0 c with
    | some (.tr (.bool t)) => condB t true (vc P md a ⟨S⟩ Q) (vc P md b ⟨S⟩ Q)
    | _ => False := by
  rw [vc_cond]
  unfold condB
  rfl
theorem bne_w {b w : Bool} : ((!b) = w) = (b = (!w)) := by cases b <;> cases w <;> simp
theorem vcG_some' {all : List Oper} {d : Option Tmp} {op : Op} {t : TypeId} {p : String} {af : Array Edge} {j : Nat} {w : Bool} :
    vcG P md all ⟨d, op, t, p, af, some (j, w)⟩ ⟨S⟩ K = match all[j]? with
      | some oj => match oj.dst with
        | some dj => match look S dj with
          | some (.tmp (.tr (.bool b))) => condG b w (fun S => vcO P md ⟨d, op, t, p, #[], none⟩ S K) K d S
          | some (.tmp (.tup _)) => K ⟨putO S d (.tup [])⟩
          | _ => False
        | none => False
      | none => False := by
  rw [vcG_some]
  simp only [bne_w, condG]
  rfl
theorem vcOps_guard' {all r : List Oper} {d : Option Tmp} {op : Op} {t : TypeId} {p : String} {af : Array Edge} {j : Nat} {w : Bool} :
    vcOps P md all (⟨d, op, t, p, af, some (j, w)⟩ :: r) ⟨S⟩ K = match all[j]? with
      | some oj => match oj.dst with
        | some dj => match look S dj with
          | some (.tmp (.tr (.bool b))) => condG b w (fun S => vcO P md ⟨d, op, t, p, #[], none⟩ S fun S1 => vcOps P md all r S1 K) (fun S1 => vcOps P md all r S1 K) d S
          | some (.tmp (.tup _)) => vcOps P md all r ⟨putO S d (.tup [])⟩ K
          | _ => False
        | none => False
      | none => False := by
  rw [vcOps_guard]
  simp only [bne_w, condG]
  rfl
theorem vcO_s' {o : Oper} : vcO P md o ⟨S⟩ K = match callOf o with
  | some (f, as') => (match ev P S 0 f with
    | some (.fn f caps) => vcCall P md S f caps as' o.dst K
    | _ => False)
  | none => match exec1 P md.br S o with
    | some (p, S1) => andK p (K S1)
    | none => False := by
  simp only [andK]
  rfl
end
attribute [simp] vc_cond' vcG_some' vcOps_guard' vcO_s'
@[simp] theorem inR_i64 (n : Int) : inR .i64 n = (-9223372036854775808 ≤ n ∧ n ≤ 9223372036854775807) := by simp [inR, IntKind.min, IntKind.max, IntKind.signed, IntKind.bits]
@[simp] theorem cast_eqN (a b : Nat) : ((a : Int) = (b : Int)) = (a = b) := by simp [Int.natCast_inj]
/-- One more round. -/
def Again (I : Nat → US → Prop) (n : Nat) (S : US) : Prop := ∃ m, m < n ∧ I m S
theorem again_i {J I : Nat → US → Prop} {n m : Nat} {S : US} (h : J = I) (hm : m < n) (hI : I m S) : Again J n S := ⟨m, hm, h ▸ hI⟩
theorem vc_loop2 {P : Program} {md : Modes} {a : Code} {S : US} {Q : Out → W → Prop} (ks : List Nat) (I : Nat → US → Prop) (n : Nat) (h0 : I n (keep ks S))
  (hs : ∀ J, J = I → ∀ n S, I n S → vc P md a ⟨S⟩ (thenK (fun S1 => Again J n (keep ks S1.s)) Q)) : vc P md (.loop a) ⟨S⟩ Q :=
  vc_loop ks I n h0 fun n S h => hs I rfl n S h
/-- What is shown to be known by its value. -/
theorem ACall_eq {P : Program} {f : FuncId} {args : List UE} {vs : List UT} {r r' : UE} {o : List (List UV)} {vo : List UT} (h : ACall P f args vs r o vo) (e : r = r') : ACall P f args vs r' o vo := e ▸ h
end Go.HT
end
