/- The law FnExactCtlJobAsks returns true, and its arguments read as before, for all arguments whose reading is together of bulk at most 1048576 (values and letters). -/
import Derived.Test.YtifbcpifgajdeaaGreatPg
import Derived.Test.YtifbcpifgajdeaaGreatRows
import Derived.WalkKit
import Derived.ProofKit
import Derived.OpenShut
import Derived.JoinedCond
import Derived.Carry
set_option linter.all false
set_option linter.unusedSimpArgs false
set_option linter.unusedVariables false
section
namespace Go.HT
open Go Go.Proofs
theorem wt_enc {α : Type} {c : α → List UT} {z : α → Nat} (h : ∀ x, z x ≤ wtRow (c x)) : ∀ l : List α, szL z l ≤ wtRows (enc c l)
  | [] => by simp [szL]
  | x :: l => by
    have := wt_enc h l
    have := h x
    simp only [szL, enc_cons, wtRows]
    omega
theorem decS : ∀ row : List (Tr Hd), shpRow [.str] row → ∃ x : Str, erRow row = cS x := by
  intro row h
  obtain ⟨t1, row, e1, h1, h⟩ := dec_cons h
  obtain ⟨x1, d1⟩ := dec_str h1
  exact ⟨x1, by rw [e1, d1, dec_nil h]; rfl⟩
theorem decPlantFoe : ∀ row : List (Tr Hd), shpRow [.str, .str] row → ∃ x : GPlantFoe, erRow row = cPlantFoe x := by
  intro row h
  obtain ⟨t1, row, e1, h1, h⟩ := dec_cons h
  obtain ⟨t2, row, e2, h2, h⟩ := dec_cons h
  obtain ⟨x1, d1⟩ := dec_str h1
  obtain ⟨x2, d2⟩ := dec_str h2
  exact ⟨⟨x1, x2⟩, by rw [e1, e2, d1, d2, dec_nil h]; rfl⟩
theorem decPlantPlace : ∀ row : List (Tr Hd), shpRow [.str, .int .i64, .str] row → ∃ x : GPlantPlace, erRow row = cPlantPlace x := by
  intro row h
  obtain ⟨t1, row, e1, h1, h⟩ := dec_cons h
  obtain ⟨t2, row, e2, h2, h⟩ := dec_cons h
  obtain ⟨t3, row, e3, h3, h⟩ := dec_cons h
  obtain ⟨x1, d1⟩ := dec_str h1
  obtain ⟨x2, d2, _⟩ := dec_int h2
  obtain ⟨x3, d3⟩ := dec_str h3
  exact ⟨⟨x1, x2, x3⟩, by rw [e1, e2, e3, d1, d2, d3, dec_nil h]; rfl⟩
theorem decPlantValve : ∀ row : List (Tr Hd), shpRow [.str, .str, .str, .str] row → ∃ x : GPlantValve, erRow row = cPlantValve x := by
  intro row h
  obtain ⟨t1, row, e1, h1, h⟩ := dec_cons h
  obtain ⟨t2, row, e2, h2, h⟩ := dec_cons h
  obtain ⟨t3, row, e3, h3, h⟩ := dec_cons h
  obtain ⟨t4, row, e4, h4, h⟩ := dec_cons h
  obtain ⟨x1, d1⟩ := dec_str h1
  obtain ⟨x2, d2⟩ := dec_str h2
  obtain ⟨x3, d3⟩ := dec_str h3
  obtain ⟨x4, d4⟩ := dec_str h4
  exact ⟨⟨x1, x2, x3, x4⟩, by rw [e1, e2, e3, e4, d1, d2, d3, d4, dec_nil h]; rfl⟩
def shPlant : List Shp := [.sl [.str], .sl [.str, .str], .sl [.str, .int .i64, .str], .sl [.str, .str, .str, .str]]
def shCtlJob : List Shp := [.int .i64, .int .i64, .sl [.str], .sl [.str], .sl [.str], .sl [.str], .int .i64, .int .i64, .sl [.str], .int .i64, .bool]
theorem decPlant : ∀ row : List (Tr Hd), shpRow shPlant row → ∃ x : GPlant, erRow row = cPlant .sh x := by
  intro row h
  obtain ⟨t1, row, e1, h1, h⟩ := dec_cons h
  obtain ⟨t2, row, e2, h2, h⟩ := dec_cons h
  obtain ⟨t3, row, e3, h3, h⟩ := dec_cons h
  obtain ⟨t4, row, e4, h4, h⟩ := dec_cons h
  obtain ⟨x1, d1⟩ := dec_sl decS h1
  obtain ⟨x2, d2⟩ := dec_sl decPlantFoe h2
  obtain ⟨x3, d3⟩ := dec_sl decPlantPlace h3
  obtain ⟨x4, d4⟩ := dec_sl decPlantValve h4
  exact ⟨⟨x1, x2, x3, x4⟩, by rw [e1, e2, e3, e4, d1, d2, d3, d4, dec_nil h]; rfl⟩
theorem decCtlJob : ∀ row : List (Tr Hd), shpRow shCtlJob row → ∃ x : GCtlJob, erRow row = cCtlJob .sh x := by
  intro row h
  obtain ⟨t1, row, e1, h1, h⟩ := dec_cons h
  obtain ⟨t2, row, e2, h2, h⟩ := dec_cons h
  obtain ⟨t3, row, e3, h3, h⟩ := dec_cons h
  obtain ⟨t4, row, e4, h4, h⟩ := dec_cons h
  obtain ⟨t5, row, e5, h5, h⟩ := dec_cons h
  obtain ⟨t6, row, e6, h6, h⟩ := dec_cons h
  obtain ⟨t7, row, e7, h7, h⟩ := dec_cons h
  obtain ⟨t8, row, e8, h8, h⟩ := dec_cons h
  obtain ⟨t9, row, e9, h9, h⟩ := dec_cons h
  obtain ⟨t10, row, e10, h10, h⟩ := dec_cons h
  obtain ⟨t11, row, e11, h11, h⟩ := dec_cons h
  obtain ⟨x1, d1, _⟩ := dec_int h1
  obtain ⟨x2, d2, _⟩ := dec_int h2
  obtain ⟨x3, d3⟩ := dec_sl decS h3
  obtain ⟨x4, d4⟩ := dec_sl decS h4
  obtain ⟨x5, d5⟩ := dec_sl decS h5
  obtain ⟨x6, d6⟩ := dec_sl decS h6
  obtain ⟨x7, d7, _⟩ := dec_int h7
  obtain ⟨x8, d8, _⟩ := dec_int h8
  obtain ⟨x9, d9⟩ := dec_sl decS h9
  obtain ⟨x10, d10, _⟩ := dec_int h10
  obtain ⟨x11, d11⟩ := dec_bool h11
  exact ⟨⟨x1, x2, ⟨x3, x4⟩, x5, x6, x7, x8, x9, x10, x11⟩, by rw [e1, e2, e3, e4, e5, e6, e7, e8, e9, e10, e11, d1, d2, d3, d4, d5, d6, d7, d8, d9, d10, d11, dec_nil h]; rfl⟩
theorem wS (x : Str) : x.length ≤ wtRow (cS x) := by simp [wtRow, wtT]
theorem wPlantFoe (x : GPlantFoe) : zPlantFoe x ≤ wtRow (cPlantFoe x) := by simp [wtRow, wtT, zPlantFoe]
theorem wPlantPlace (x : GPlantPlace) : zPlantPlace x ≤ wtRow (cPlantPlace x) := by simp [wtRow, wtT, zPlantPlace]
theorem wPlantValve (x : GPlantValve) : zPlantValve x ≤ wtRow (cPlantValve x) := by simp [wtRow, wtT, zPlantValve]; omega
theorem wPlant (x : GPlant) : zPlant x ≤ wtRow (cPlant .sh x) := by
  have h1 := wt_enc wS x.Stuffs
  have h2 := wt_enc wPlantFoe x.Foes
  have h3 := wt_enc wPlantPlace x.Places
  have h4 := wt_enc wPlantValve x.Valves
  simp only [cPlant, wtRow, wtT, zPlant]
  omega
theorem wCtlJob (x : GCtlJob) : zCtlJob x ≤ wtRow (cCtlJob .sh x) := by
  have h1 := wt_enc wS x.Route.Places
  have h2 := wt_enc wS x.Route.Valves
  have h3 := wt_enc wS x.Places
  have h4 := wt_enc wS x.Stuffs
  have h5 := wt_enc wS x.Heard
  simp only [cCtlJob, wtRow, wtT, zCtlJob, zPlantRoute]
  omega
end Go.HT
namespace Go.Proofs.YtifbcpifgajdeaaGreat.fnExactCtlJobAsks
open Go.ChangeShapes Go.WideShapes Go.ChangeAt Go.RowKit Go.HT
set_option linter.unusedVariables false
theorem bulk_all {H : Type} (l : List (DataW H)) : Rows.uptoBulkAll l = (l.map Rows.uptoBulk).sum := by
  induction l with
  | nil => simp [Rows.uptoBulkAll]
  | cons x r ih => simp [Rows.uptoBulkAll, ih]
theorem bulk_ok (H : Type) : Bulk (Rows.uptoBulk (H := H)) where
  one d := by
    cases d with
    | lit l => cases l <;> simp [Rows.uptoBulk]
    | _ => simp [Rows.uptoBulk]
  str s := by simp [Rows.uptoBulk]
  slice elems spare := by simp only [Rows.uptoBulk, bulk_all]; omega
  agg parts := by simp only [Rows.uptoBulk, bulk_all]; omega
theorem own : ownKnob Tryz.prog.godebug = none := by kernel_rfl
theorem laidOut : laidOutB Tryz.prog = true := by kernel_rfl
set_option maxRecDepth 100000 in
theorem contract (H : Type) (enc : TypeId × Value → H) (W : World) (base : Nat) (args : Array Value) (ds gs : List (DataW H)) (before : List MemPlace)
    (hval : ∀ (j : Nat) t v, Tryz.f3.params[j]? = some t → args[j]? = some v → Value.okWide Tryz.prog W .any base t v)
    (hW : DataW.Whole enc Tryz.prog Tryz.f3.params.toList Rows.fnExactCtlJobAsksSpec.vars false W args.toList ds gs before) (hk : Rows.uptoSmall H (ds ++ gs) = true) :
    Calls Tryz.prog 3 args W fun e W' => ∃ v, e = .returned v ∧ Rows.fnExactCtlJobAsksSpec.post enc Tryz.prog Tryz.f3 false true false false W args v W' := by
  have hW' := hW
  obtain ⟨p, q, hA0, hV, rfl, hfz, hnd⟩ := hW
  have hA : DataW.TrodAll enc Tryz.prog W 0 (fun _ => true) true Tryz.f3.params.toList args.toList ds p := hA0
  rw [Tryz.params3] at hA hval
  obtain ⟨v0, vs0, d0, ds0, p0, q0, hargs, rfl, rfl, h0, r0⟩ := trodAll_cons hA
  obtain ⟨v1, vs1, d1, ds1, p1, q1, rfl, rfl, rfl, h1, r1⟩ := trodAll_cons r0
  obtain ⟨rfl, rfl, rfl⟩ := trodAll_nil r1
  obtain rfl : args = #[v0, v1] := by cases args; simp_all
  obtain ⟨rfl, rfl⟩ := trodVars_none hV
  clear hA0
  simp only [List.append_nil] at hW' hk
  have hbulk : Rows.uptoBulk d0 + Rows.uptoBulk d1 ≤ 1048576 := by
    have h := of_decide_eq_true hk
    rw [bulk_all] at h
    simp only [List.map_cons, List.map_nil, List.sum_cons, List.sum_nil] at h
    omega
  let Z : Zone := ⟨fun k => k < W.heap.size, fun k => k < W.heap.size, fun _ h => h⟩
  have hlt0 : ∀ x ∈ p0, x.block < W.heap.size := fun x hx => by simpa using hW'.lt x (by simp [hx])
  have hlt1 : ∀ x ∈ p1, x.block < W.heap.size := fun x hx => by simpa using hW'.lt x (by simp [hx])
  obtain ⟨cs0, rfl, hE0⟩ := emptyOk_agg Tryz.underlying27 (hval 0 27 v0 (by simp) (by simp))
  obtain ⟨cs1, rfl, hE1⟩ := emptyOk_agg Tryz.underlying31 (hval 1 31 v1 (by simp) (by simp))
  obtain ⟨n0, k0⟩ := id h0
  obtain ⟨n1, k1⟩ := id h1
  obtain ⟨row0, a1, a2, a3⟩ := read_ok (Z := Z) (bulk_ok H) (fun b hb => hb) 4 27 shPlant (by kernel_rfl) n0 _ _ k0 (fun _ => hE0)
  obtain ⟨row1, b1, b2, b3⟩ := read_ok (Z := Z) (bulk_ok H) (fun b hb => hb) 4 31 shCtlJob (by kernel_rfl) n1 _ _ k1 (fun _ => hE1)
  obtain ⟨pl, ep⟩ := decPlant row0 a2
  obtain ⟨jb, ej⟩ := decCtlJob row1 b2
  have hz : zPlant pl + zCtlJob jb ≤ 1048576 := by
    have := wPlant pl
    have := wCtlJob jb
    rw [ep] at a3
    rw [ej] at b3
    simp only at a3 b3
    omega
  have hlaw := law_ok .sh (by simp) pl jb hz (job_eq pl jb)
  refine (calls_true (Z := Z) (xs := [.agg (row0.map .tr), .agg (row1.map .tr)]) (vals := #[.agg cs0, .agg cs1]) ?_ rfl ?_ (fun b hb => hb)).mono fun e W' ⟨he, hg⟩ => ?_
  · simp only [List.map_cons, List.map_nil, erA_aggT, ep, ej]
    exact hlaw
  · intro i x hi
    match i with
    | 0 => simp only [List.getElem?_cons_zero, Option.some.injEq] at hi; subst hi; exact argOk_agg a1
    | 1 => simp only [List.getElem?_cons_succ, List.getElem?_cons_zero, Option.some.injEq] at hi; subst hi; exact argOk_agg b1
    | i + 2 => simp at hi
  · subst he
    have hold0 : ∀ sp : Nat → Bool, (∀ x ∈ p0 ++ p1, sp x.block = true) → DataW.Trod enc Tryz.prog W' 0 sp true 27 (.agg cs0) d0 p0 := fun sp hsp =>
      WideElems.Trod_stays laidOut (by kernel_rfl) (of_decide_eq_true (by kernel_rfl)) h0 (fun x hx => hg.same (hlt0 x hx)) (fun x hx => hsp x (by simp [hx]))
    have hold1 : ∀ sp : Nat → Bool, (∀ x ∈ p0 ++ p1, sp x.block = true) → DataW.Trod enc Tryz.prog W' 0 sp true 31 (.agg cs1) d1 p1 := fun sp hsp =>
      WideElems.Trod_stays laidOut (by kernel_rfl) (of_decide_eq_true (by kernel_rfl)) h1 (fun x hx => hg.same (hlt1 x hx)) (fun x hx => hsp x (by simp [hx]))
    exact ⟨_, rfl, post_below (pa := p0 ++ p1) (pv := []) hW' (fun _ _ _ => (trodAll_cons_mk (shut_bool Tryz.underlying4 _) trodAll_mk0))
      (fun sp hsp => trodAll_mk2 (hold0 sp hsp) (hold1 sp hsp)) (fun _ _ => rfl) (by simp) hg (ok_one (by kernel_rfl) rfl (okWide_bool_mk Tryz.underlying4 _))⟩
set_option maxRecDepth 100000 in
theorem lifted (os : Os) (started : os.Started) (H : Type) (enc : TypeId × Value → H) (F : Stop.Interp) :
    ReturnsInHanded {} Tryz.checked os 3 .any ((Rows.OpenSpec.upto Rows.fnExactCtlJobAsksSpec).pre6 enc Tryz.prog Tryz.f3 Rows.fnExactCtlJobAsksUptoRow.domain false) (((Rows.OpenSpec.upto Rows.fnExactCtlJobAsksSpec).at F).post enc Tryz.prog Tryz.f3 false true false false) := by
  refine returnsInHanded_of_cond (C := Tryz.checked) (s := Rows.OpenSpec.upto Rows.fnExactCtlJobAsksSpec) (k := Rows.uptoSmall) rfl own started (by kernel_rfl) Tryz.func3
    (OpenSpec.witness (enc := enc) (C := Tryz.checked) (s := Rows.OpenSpec.upto Rows.fnExactCtlJobAsksSpec) (k := Rows.uptoSmall) rfl false ⟨#[], #[.agg #[.slice none 0 0, .slice none 0 0, .slice none 0 0, .slice none 0 0],
        .agg #[.int .i64 0, .int .i64 0, .slice none 0 0, .slice none 0 0, .slice none 0 0, .slice none 0 0, .int .i64 0, .int .i64 0, .slice none 0 0, .int .i64 0, .bool false]], []⟩ 8 (by kernel_rfl) (by kernel_rfl) (by kernel_rfl)
      (x := ([.agg [.nil, .nil, .nil, .nil], .agg [.lit (.int .i64 0), .lit (.int .i64 0), .agg [.nil, .nil], .nil, .nil, .lit (.int .i64 0), .lit (.int .i64 0), .nil, .lit (.int .i64 0), .lit (.bool false)]], [], [])) (by kernel_rfl) rfl (by kernel_rfl)) ?_
  intro W base args ds gs before hval hW _ hk _
  exact contract H enc W base args ds gs before hval hW hk
theorem over : Rows.fnExactCtlJobAsksUptoRow.holds Tryz.pinned (Rows.OpenSpec.upto Rows.fnExactCtlJobAsksSpec) :=
  OpenClaim.holds_of_cond 3 Tryz.f3 rfl rfl rfl rfl rfl rfl rfl ⟨rfl, rfl, rfl, rfl, rfl⟩ rfl rfl rfl rfl rfl (by kernel_rfl) Tryz.func3 (by kernel_rfl)
    (of_decide_eq_true (by kernel_rfl)) (by unfold Func.isWrapper; first | (rw [if_pos (by decide +kernel)]; kernel_rfl) | (rw [if_neg (by decide +kernel)]; exact ⟨rfl, rfl⟩))
    (fun os started H enc _ F => lifted os started H enc F)
theorem proved : Rows.FnExactCtlJobAsksUptoSaid :=
  over
end Go.Proofs.YtifbcpifgajdeaaGreat.fnExactCtlJobAsks
end
