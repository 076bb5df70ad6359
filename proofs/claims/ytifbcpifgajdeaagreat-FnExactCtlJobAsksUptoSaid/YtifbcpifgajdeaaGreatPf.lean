/- A part of the proof of: The law FnExactCtlJobAsks returns true, and its arguments read as before, for all arguments whose reading is together of bulk at most 1048576 (values and letters). -/
import Derived.Test.YtifbcpifgajdeaaGreatPe
import Derived.Deep.QuietTactic
import Derived.BigQuiet
set_option linter.all false
set_option linter.unusedSimpArgs false
set_option linter.unusedVariables false
section
namespace Go.HT
open Go Go.Proofs Go.Shelf Go.RowKit Go.Lib Go.Sort
set_option maxRecDepth 100000
set_option maxHeartbeats 4000000
set_option linter.unusedVariables false
theorem sortStrings_ok (l : List Str) (hl : l.length < 4611686018427387904) : ACall PP 100 [.tmp (.ref ⟨1000, [], 0⟩ 0 l.length false ())] [.sl .own () 1 (enc cS l)] (.tmp (.tup [])) [] [.sl .own () 1 (enc cS (l.mergeSort fun x y => decide (x ≤ y)))] :=
  strings_sort (by decide +kernel) (fun blk off cap ss w hH hblk hsz => Any.sort_Strings Tryz.lays192 blk off cap ss w hH hblk hsz) (fun p cap w => Any.sort_Strings_none Tryz.lays192 p cap w) l hl
noncomputable def useT : TypeInfo := (PP.info? 67).get (by kernel_rfl)
noncomputable def useE : TypeInfo := (PP.info? 95).get (by kernel_rfl)
theorem useK (n : Nat) (h2 : 2 ≤ n) : Lib.swapperK n useE 25 = 9 := by
  have a : useE.hasPointers = true := by kernel_rfl
  have a2 : (useE.bytes == 8) = false := by kernel_rfl
  have c : (n == 0) = false := by simp; omega
  have d : (n == 1) = false := by simp; omega
  simp [Lib.swapperK, a, a2, c, d]
def encU (u : GClaimUse) : List Value := [.string ⟨⟨u.Name⟩⟩, .int .i64 u.Role, .int .i64 u.Amount]
theorem less_ok (blk off c size : Nat) (B : Addr) (W : World) (G : Nat → Str) (hs : W.cell? ⟨B.block, B.off + 3, none⟩ = some (.slice (some ⟨blk, off, none⟩) size c))
    (hc : ∀ t, t < size → W.cell? ⟨blk, off + t * 3, none⟩ = some (.string ⟨⟨G t⟩⟩)) (i j : Nat) (hi : i < size) (hj : j < size) (_hsz : size < 4611686018427387904) :
    Calls PP 87 #[.int .i64 i, .int .i64 j, .pointer (some ⟨B.block, B.off, none⟩)] W fun e w' => e = .returned (.bool (strLt (G i) (G j))) ∧ ∃ q, w' = W.drewN q := by
  have ci := hc i hi
  have cj := hc j hj
  go_enter Tryz.func87, Tryz.ntmps87
  go_wp2
  go_quiet (fail)
  go_wp2
  go_ret
  exact ⟨rfl, nq, rfl⟩
instance : Inhabited GClaimUse := ⟨⟨[], 0, 0⟩⟩
def ltU (a b : GClaimUse) : Bool := strLt a.Name b.Name
theorem strLt_dec (a b : Str) : strLt a b = decide (a < b) := bytesLess_eq a b
theorem swoU : SWO ltU where
  irrefl a := by
    have := swo_ltStr.irrefl a.Name
    simpa [ltU, strLt_dec, ltStr] using this
  trans := fun a b c h1 h2 => by
    have := swo_ltStr.trans a.Name b.Name c.Name
    simp only [ltU, strLt_dec] at *
    exact this h1 h2
  ntrans := fun a b c h1 h2 => by
    have := swo_ltStr.ntrans a.Name b.Name c.Name
    simp only [ltU, strLt_dec] at *
    exact this h1 h2
def sortU (l : List GClaimUse) : List GClaimUse := (pdq ltU l.toArray 0 l.length (Lib.bitLen l.length) true true).toList
theorem sortU_sorts (l : List GClaimUse) : PermIn 0 l.length l.toArray (pdq ltU l.toArray 0 l.length (Lib.bitLen l.length) true true) ∧ SortedIn ltU 0 l.length (pdq ltU l.toArray 0 l.length (Lib.bitLen l.length) true true) :=
  pdq_sorts ltU swoU l.toArray 0 l.length (Lib.bitLen l.length) true true (Nat.zero_le _) (by simp) (Or.inl rfl)
theorem sortU_length (l : List GClaimUse) : (sortU l).length = l.length := by
  have := (sortU_sorts l).1.1
  simpa [sortU] using this
theorem row3 (x : GClaimUse) (j : Nat) (hj : j < 3) : ∃ c, (cClaimUse x)[j]? = some c ∧ IsU c ((encU x)[j]!) := by
  rcases j with _ | _ | _ | j
  · exact ⟨_, rfl, rfl⟩
  · exact ⟨_, rfl, rfl⟩
  · exact ⟨_, rfl, rfl⟩
  · omega
theorem isU_fun : ∀ {c : UT} {v v' : Value}, IsU c v → IsU c v' → v = v'
  | .int .., _, _, h, h' => h.trans h'.symm
  | .bool .., _, _, h, h' => h.trans h'.symm
  | .str .., _, _, h, h' => h.trans h'.symm
  | .undef, _, _, h, _ => h.elim
  | .sl .., _, _, h, _ => h.elim
theorem useSort_ok (l : List GClaimUse) (h2 : 2 ≤ l.length) (hl : l.length < 4611686018427387904) :
    SortC PP 86 67 87 3 3 (enc cClaimUse l) (enc cClaimUse (sortU l)) := by
  refine ⟨⟨by decide +kernel, by simp [sortU_length]⟩, fun w B A cap cells bc e be hAB hsp hcap hB hBc hA hAsz hrows => ?_⟩
  have hAe : A = ⟨A.block, A.off, none⟩ := by cases A; simp at hsp; simp [hsp]
  simp only [enc_length] at hcap hBc ⊢
  have hlA : l.toArray.size = l.length := by simp
  have hgetl : ∀ i (h : i < l.length), (l.toArray)[i]! = l[i] := fun i h => by simp [h]
  have hH : HoldsK encU 3 w A.block A.off l.toArray := by
    intro t ht
    have ht' : t < l.length * 3 := by simpa using ht
    have hi : t / 3 < l.length := by omega
    obtain ⟨k1, k2⟩ := hrows (t / 3) (cClaimUse l[t / 3]) (by simp [hi])
    obtain ⟨c, c1, c2⟩ := row3 l[t / 3] (t % 3) (by omega)
    obtain ⟨v, v1, v2⟩ := k2 (t % 3) c c1
    have he : A.off + t / 3 * 3 + t % 3 = A.off + t := by omega
    rw [he] at v1
    refine ⟨?_, by simp [World.frozen?, hA]⟩
    rw [cell_eq hA, v1, isU_fun v2 c2, get_flatK _ _ _ _ (by simpa using ht), hgetl _ hi]
    rfl
  have hblk : A.block < w.heap.size := (Array.getElem?_eq_some_iff.1 hA).1
  have hBlt : B.block < w.heap.size := (Array.getElem?_eq_some_iff.1 hB).1
  have hless : LessReadsK PP 87 #[.pointer (some ⟨B.block, B.off, none⟩)] encU 3 ltU A.block A.off l.toArray.size w := by
    intro m os dk hs i j hi hj
    have e : sortWorldK encU 3 w A.block A.off m dk os = putRowK encU 3 (grow (Sort.ahead w m) os) A.block A.off dk := by
      unfold sortWorldK; rw [putRowK_grow _ _ (Sort.ahead w m) _ A.block A.off _ hblk]
    have hHg : HoldsK encU 3 (grow (Sort.ahead w m) os) A.block A.off l.toArray := holdsK_grow _ _ _ _ A.block A.off l.toArray hblk (holdsK_ahead _ _ _ _ _ _ _ hH)
    refine less_ok A.block A.off cap l.toArray.size B _ (fun t => dk[t]!.Name) ?_ (fun t ht => ?_) i j hi hj (by simpa using hl)
    · rw [e, cell?_putRowK_other _ _ _ A.block A.off dk ⟨B.block, B.off + 3, none⟩ (fun hc => hAB hc.symm), cell?_grow (Sort.ahead w m) os ⟨B.block, B.off + 3, none⟩ hBlt]
      change w.cell? _ = _
      rw [cell_eq hB, hBc, ← hAe]; simp
    · rw [e]; exact ((holdsK_putRowK _ _ _ A.block A.off l.toArray dk hHg hs).cell (i := t) (c := 0) (by omega) (by omega)).1
  have hcall := Any.sort_Slice_cells_eq (P := PP) Tryz.laysGg6 67 95 useT useE (by kernel_rfl) (by kernel_rfl) (by kernel_rfl) (by kernel_rfl) 25 (fun _ => by kernel_rfl) encU 3 (fun _ => rfl) (by kernel_rfl) (fun _ => by kernel_rfl)
    (fun x v hv => by simp [encU] at hv; rcases hv with rfl | rfl | rfl <;> rfl) ltU swoU 87 _
    (enters_of Tryz.func87 (by kernel_rfl) rfl) A.block A.off cap l.toArray (by simpa using h2) (by simpa using hl) 119 (by rw [useK _ (by simpa using h2)]; kernel_rfl) false
    (fun args W => run_callFunc_extern Tryz.func119 (by kernel_rfl) (by kernel_rfl) (by kernel_rfl) (e := Extern.ReflectliteSwapper.swap false) (by kernel_rfl) args W) w hless hH hblk
  rw [← hAe] at hcall
  simp only [hlA] at hcall
  refine Calls.mono hcall fun ex w' h => ?_
  obtain ⟨rfl, n, os, hw'⟩ := h
  have hsz' : (pdq ltU l.toArray 0 l.length (Lib.bitLen l.length) true true).size = l.length := by simpa [sortU] using sortU_length l
  obtain ⟨f1, f2, f3, f4, f5, cells', f6, f7, f8⟩ := sorted_facts (enc := id) hA (by simp [hsz']; omega) hw'
  refine ⟨rfl, f1, f2, f3, f4, f5, cells', f6, f7, fun i row hi => ?_⟩
  have hi' : i < (sortU l).length := by
    have := (List.getElem?_eq_some_iff.1 hi).1
    simpa using this
  rw [enc_get, List.getElem?_eq_getElem hi'] at hi
  simp only [Option.map_some, Option.some.injEq] at hi
  subst hi
  refine ⟨rfl, fun j c hj => ?_⟩
  have hj3 : j < 3 := (List.getElem?_eq_some_iff.1 hj).1
  obtain ⟨c', c1, c2⟩ := row3 (sortU l)[i] j hj3
  rw [hj] at c1
  simp only [Option.some.injEq] at c1
  subst c1
  have hil : i < l.length := by rw [← sortU_length l]; exact hi'
  have h9 := f8 (i * 3 + j) (by simp [hsz']; omega)
  rw [get_flatK _ _ _ _ (by simp [hsz']; omega)] at h9
  have e1 : (i * 3 + j) / 3 = i := by omega
  have e2 : (i * 3 + j) % 3 = j := by omega
  rw [e1, e2, ← Nat.add_assoc] at h9
  refine ⟨_, h9, ?_⟩
  have h10 : (pdq ltU l.toArray 0 l.length (Lib.bitLen l.length) true true)[i]! = (sortU l)[i] := by
    rw [getElem!_pos _ i (by omega)]
    simp [sortU]
  rw [h10]
  exact c2
end Go.HT
end
section
namespace Go.HT
open Go Go.Proofs
set_option maxRecDepth 100000
set_option maxHeartbeats 4000000
set_option linter.unusedSimpArgs false
set_option linter.unusedVariables false
def addO (o : List Str) (s : Str) : List Str := if s ∈ o then o else o ++ [s]
/-- A list, with some texts more, in order. -/
def withF (l more : List Str) : List Str := (more.foldl addO l).mergeSort fun x y => decide (x ≤ y)
theorem addO_len (s : Str) (o : List Str) : (addO o s).length ≤ o.length + 1 := by
  unfold addO; split <;> simp
theorem fold_len : ∀ (more l : List Str), (more.foldl addO l).length ≤ l.length + more.length
  | [], l => by simp
  | s :: r, l => by
    have := fold_len r (addO l s)
    have := addO_len s l
    simp; omega
theorem withF_len (l more : List Str) : (withF l more).length ≤ l.length + more.length := by
  simpa [withF] using fold_len more l
def md84 : Modes where
  call := callM
  br := fun _ => false
  plan := fun _ => .fin
@[simp] theorem md84_call (f i : Nat) : md84.call f i = callM f i := rfl
@[simp] theorem md84_br : md84.br = fun _ => false := rfl
theorem with_ok (κ κ' : Knd) (hκ : κ ≠ .own) (hκ' : κ' ≠ .own) (l more : List Str) (hl : l.length + more.length ≤ 1048576) :
    ACall PP 84 [.tmp (.tr (.sl κ () 1 (enc cS l))), .tmp (.tr (.sl κ' () 1 (enc cS more)))] [] (.tmp (.tr (.sl .own () 1 (enc cS (withF l more))))) [] [] := by
  refine ACall_intro md84 (na := 2) (bx := []) (by kernel_rfl) Tryz.func84 rfl rfl rfl (by simp [noBoR, noBoV, noBoL, noBoT]) (by simp [noBoL, noBoT]) (by simp [noBoRow, noBoT]) rfl rfl ?_
  simp [hκ, hκ']
  refine andK_i (by omega) fun _ => ?_
  refine vc_loop2 [5, 10, 11, 12] (fun m S => ∃ (i : Nat) (o : List Str), m = more.length - i ∧ i ≤ more.length ∧ o.length ≤ l.length + i ∧ more.foldl addO l = (more.drop i).foldl addO o ∧
    S = [(5, .tmp (.tr (.sl .own () 1 (enc cS o)))), (10, .tmp (.tr (.sl κ' () 1 (enc cS more)))), (11, .tmp (.tr (.int .i64 more.length))), (12, .tmp (.tr (.int .i64 i)))]) more.length ?_ ?_
  · exact ⟨0, l, by simp, by simp, by simp, by simp, by simp⟩
  · rintro J hJ m S ⟨i, o, rfl, hi, ho, ha, rfl⟩
    by_cases hlt : i < more.length
    · have hd : more.drop i = more[i] :: more.drop (i + 1) := by simp
      rw [hd, List.foldl_cons] at ha
      simp [hκ', hlt]
      refine callK_of (has_ok .bo (by simp) o more[i] (by omega)) ?_
      by_cases hm : more[i] ∈ o
      · simp [addO, hm] at ha
        simp [hκ', hlt, hm]
        refine andK_i (by omega) fun _ => ?_
        exact again_i hJ (m := more.length - (i + 1)) (by omega) ⟨i + 1, o, rfl, by omega, by omega, ha, by simp⟩
      · simp [addO, hm] at ha
        simp [hκ', hlt, hm, chunk]
        refine andK_i (by omega) fun _ => andK_i (by omega) fun _ => ?_
        exact again_i hJ (m := more.length - (i + 1)) (by omega) ⟨i + 1, o ++ [more[i]], rfl, by omega, by simp; omega, ha, by simp⟩
    · obtain rfl : i = more.length := by omega
      simp at ha
      simp [hκ']
      refine callK_of (sortStrings_ok o (by omega)) ?_
      simp [withF, ha]
def md106 : Modes where
  call := callM
  br := fun _ => false
  plan := fun _ => .fin
@[simp] theorem md106_call (f i : Nat) : md106.call f i = callM f i := rfl
@[simp] theorem md106_br : md106.br = fun _ => false := rfl
def stationsF (p : GPlant) : List Str := (p.Valves.map GPlantValve.Station).foldl (fun l s => withF l [s]) ((p.Places.map GPlantPlace.Station).foldl (fun l s => withF l [s]) [])
theorem stations_ok (κ : Knd) (hκ : κ ≠ .own) (p : GPlant) (hl : p.Places.length ≤ 100000) (hv : p.Valves.length ≤ 100000) :
    ACall PP 106 [.tmp (.agg [.tr (.sl κ () 1 (enc cS p.Stuffs)), .tr (.sl κ () 2 (enc cPlantFoe p.Foes)), .tr (.sl κ () 3 (enc cPlantPlace p.Places)), .tr (.sl κ () 4 (enc cPlantValve p.Valves))])] [] (.tmp (.tr (.sl .own () 1 (enc cS (stationsF p))))) [] [] := by
  refine ACall_intro md106 (na := 1) (bx := []) (by kernel_rfl) Tryz.func106 rfl rfl rfl (by simp [noBoR, noBoV, noBoL, noBoT]) (by simp [noBoL, noBoT]) (by simp [noBoRow, noBoT]) rfl rfl ?_
  simp [hκ]
  refine vc_loop2 [1, 3, 9, 10, 11] (fun m S => ∃ (i : Nat) (o : List Str), m = p.Places.length - i ∧ i ≤ p.Places.length ∧ o.length ≤ i ∧ (p.Places.map GPlantPlace.Station).foldl (fun l s => withF l [s]) [] = ((p.Places.drop i).map GPlantPlace.Station).foldl (fun l s => withF l [s]) o ∧
    S = [(1, .box () [.tr (.sl κ () 1 (enc cS p.Stuffs)), .tr (.sl κ () 2 (enc cPlantFoe p.Foes)), .tr (.sl κ () 3 (enc cPlantPlace p.Places)), .tr (.sl κ () 4 (enc cPlantValve p.Valves))]), (3, .tmp (.tr (.sl .own () 1 (enc cS o)))), (9, .tmp (.tr (.sl κ () 3 (enc cPlantPlace p.Places)))), (10, .tmp (.tr (.int .i64 p.Places.length))), (11, .tmp (.tr (.int .i64 i)))]) p.Places.length ?_ ?_
  · exact ⟨0, [], by simp, by simp, by simp, by simp, by simp⟩
  · rintro J hJ m S ⟨i, o, rfl, hi, ho, ha, rfl⟩
    by_cases hlt : i < p.Places.length
    · have hd : p.Places.drop i = p.Places[i] :: p.Places.drop (i + 1) := by simp
      rw [hd, List.map_cons, List.foldl_cons] at ha
      simp [hκ, hlt, chunk]
      refine callK_of (with_ok .bo .bo (by simp) (by simp) o [p.Places[i].Station] (by simp; omega)) ?_
      have hw := withF_len o [p.Places[i].Station]
      simp [hκ, hlt]
      refine andK_i (by omega) fun _ => ?_
      exact again_i hJ (m := p.Places.length - (i + 1)) (by omega) ⟨i + 1, withF o [p.Places[i].Station], rfl, by omega, by simp at hw; omega, ha, by simp⟩
    · obtain rfl : i = p.Places.length := by omega
      simp at ha
      simp [hκ]
      refine vc_loop2 [3, 22, 23, 24] (fun m S => ∃ (i : Nat) (o2 : List Str), m = p.Valves.length - i ∧ i ≤ p.Valves.length ∧ o2.length ≤ p.Places.length + i ∧ (p.Valves.map GPlantValve.Station).foldl (fun l s => withF l [s]) o = ((p.Valves.drop i).map GPlantValve.Station).foldl (fun l s => withF l [s]) o2 ∧
        S = [(3, .tmp (.tr (.sl .own () 1 (enc cS o2)))), (22, .tmp (.tr (.sl κ () 4 (enc cPlantValve p.Valves)))), (23, .tmp (.tr (.int .i64 p.Valves.length))), (24, .tmp (.tr (.int .i64 i)))]) p.Valves.length ?_ ?_
      · exact ⟨0, o, by simp, by simp, by omega, by simp, by simp⟩
      · rintro J2 hJ2 m S ⟨i, o2, rfl, hi2, ho2, hb, rfl⟩
        by_cases hlt : i < p.Valves.length
        · have hd : p.Valves.drop i = p.Valves[i] :: p.Valves.drop (i + 1) := by simp
          rw [hd, List.map_cons, List.foldl_cons] at hb
          simp [hκ, hlt, chunk]
          refine callK_of (with_ok .bo .bo (by simp) (by simp) o2 [p.Valves[i].Station] (by simp; omega)) ?_
          have hw := withF_len o2 [p.Valves[i].Station]
          simp [hκ, hlt]
          refine andK_i (by omega) fun _ => ?_
          exact again_i hJ2 (m := p.Valves.length - (i + 1)) (by omega) ⟨i + 1, withF o2 [p.Valves[i].Station], rfl, by omega, by simp at hw; omega, hb, by simp⟩
        · obtain rfl : i = p.Valves.length := by omega
          simp at hb
          simp [hκ, stationsF, ha, hb]
end Go.HT
end
section
namespace Go.HT
open Go Go.Proofs
set_option maxRecDepth 100000
set_option maxHeartbeats 4000000
set_option linter.unusedSimpArgs false
set_option linter.unusedVariables false
theorem any2 {P : Program} {md : Modes} {all : List Oper} {i : Nat} {p q : Plan} {S S' : US} {K : W → Prop} (h1 : ∀ K : W → Prop, K ⟨S'⟩ → (match all[i]? with
    | some o => vcG P md all o ⟨S⟩ fun S1 => vcPlan P md all p S1 K
    | none => False)) (h2 : ∀ K : W → Prop, K ⟨S'⟩ → vcPlan P md all q ⟨S⟩ K) (h : K ⟨S'⟩) : vcPlan P md all (.any i p q) ⟨S⟩ K := by
  rw [vcPlan_any]
  exact ⟨h1 K h, h2 K h⟩
attribute [simp] evs
@[simp] theorem vcPlan_one {P : Program} {md : Modes} {all : List Oper} {i : Nat} {p : Plan} {S : US} {K : W → Prop} : vcPlan P md all (.any i p .non) ⟨S⟩ K = (match all[i]? with
    | some o => vcG P md all o ⟨S⟩ fun S1 => vcPlan P md all p S1 K
    | none => False) := by
  rw [vcPlan_any, vcPlan_non]
  exact propext ⟨fun h => h.1, fun h => ⟨h, trivial⟩⟩
def valveAt (p : GPlant) (s n : Str) : Bool := decide ((valveF p n).Station = s)
def useAt (p : GPlant) (s : Str) (u : GClaimUse) : Bool := decide ((placeF p u.Name).Station = s)
def md108 : Modes where
  call := callM
  br := fun _ => false
  plan := fun _ => .fin
@[simp] theorem md108_call (f i : Nat) : md108.call f i = callM f i := rfl
@[simp] theorem md108_br : md108.br = fun _ => false := rfl
theorem mine_ok (κ' : Knd) (hκ' : κ' ≠ .own) (p : GPlant) (s : Str) (l : List Str) (hv : p.Valves.length ≤ 1048576) (hl : l.length ≤ 1048576) :
    ACall PP 108 [.tmp (.tr (.sl κ' () 1 (enc cS l))), .box () [.tr (.sl .sh () 1 (enc cS p.Stuffs)), .tr (.sl .sh () 2 (enc cPlantFoe p.Foes)), .tr (.sl .sh () 3 (enc cPlantPlace p.Places)), .tr (.sl .sh () 4 (enc cPlantValve p.Valves))], .box () [.tr (.str s)]] [] (.tmp (.tr (.sl .own () 1 (enc cS (l.filter (valveAt p s)))))) [[.tr (.sl .sh () 1 (enc cS p.Stuffs)), .tr (.sl .sh () 2 (enc cPlantFoe p.Foes)), .tr (.sl .sh () 3 (enc cPlantPlace p.Places)), .tr (.sl .sh () 4 (enc cPlantValve p.Valves))], [.tr (.str s)]] [] := by
  have hκ : Knd.sh ≠ Knd.own := by simp
  refine ACall_intro md108 (na := 3) (bx := [1, 2]) (by kernel_rfl) Tryz.func108 rfl rfl rfl (by simp [noBoR, noBoV, noBoL, noBoT]) (by simp [noBoL, noBoT]) (by simp [noBoRow, noBoT]) rfl rfl ?_
  simp [hκ, hκ']
  refine vc_loop2 [1, 2, 4, 9, 10, 11] (fun m S => ∃ (i : Nat) (o : List Str), m = l.length - i ∧ i ≤ l.length ∧ o.length ≤ i ∧ l.filter (valveAt p s) = o ++ (l.drop i).filter (valveAt p s) ∧
    S = [(1, .box () [.tr (.sl .sh () 1 (enc cS p.Stuffs)), .tr (.sl .sh () 2 (enc cPlantFoe p.Foes)), .tr (.sl .sh () 3 (enc cPlantPlace p.Places)), .tr (.sl .sh () 4 (enc cPlantValve p.Valves))]), (2, .box () [.tr (.str s)]), (4, .tmp (.tr (.sl .own () 1 (enc cS o)))), (9, .tmp (.tr (.sl κ' () 1 (enc cS l)))), (10, .tmp (.tr (.int .i64 l.length))), (11, .tmp (.tr (.int .i64 i)))]) l.length ?_ ?_
  · exact ⟨0, [], by simp, by simp, by simp, by simp, by simp⟩
  rintro J hJ m S ⟨i, o, rfl, hi, ho, ha, rfl⟩
  by_cases hlt : i < l.length
  · have hd : l.drop i = l[i] :: l.drop (i + 1) := by simp
    rw [hd, List.filter_cons] at ha
    simp [hκ, hκ', hlt]
    refine callK_of (valve_ok _ (by simp [hκ]) p _ (by omega)) ?_
    by_cases c : (valveF p l[i]).Station = s
    · simp [valveAt, c] at ha
      simp [hκ, hκ', hlt, c, chunk]
      refine andK_i (by omega) fun _ => andK_i (by omega) fun _ => ?_
      exact again_i hJ (m := l.length - (i + 1)) (by omega) ⟨i + 1, o ++ [l[i]], rfl, by omega, by simp; omega, by simpa [valveAt] using ha, by simp⟩
    · simp [valveAt, c] at ha
      simp [hκ, hκ', hlt, c]
      refine andK_i (by omega) fun _ => ?_
      exact again_i hJ (m := l.length - (i + 1)) (by omega) ⟨i + 1, o, rfl, by omega, by omega, by simpa [valveAt] using ha, by simp⟩
  obtain rfl : i = l.length := by omega
  simp at ha
  simp [hκ, hκ', ha]
end Go.HT
end
section
namespace Go.HT
open Go Go.Proofs
set_option maxRecDepth 100000
set_option maxHeartbeats 4000000
set_option linter.unusedSimpArgs false
set_option linter.unusedVariables false
def shareOf (p : GPlant) (w : GClaimWant) (s : Str) : GClaimWant := ⟨w.Number, w.Kind, w.Stuffs, w.Uses.filter (useAt p s), w.Opens.filter (valveAt p s), w.Shuts.filter (valveAt p s)⟩
def some1 (a : GCtlAsk) : Bool := decide (0 < a.Want.Uses.length + a.Want.Opens.length + a.Want.Shuts.length)
def sharedL (p : GPlant) (w : GClaimWant) (l : List Str) : List GCtlAsk := (l.map fun s => (⟨s, shareOf p w s⟩ : GCtlAsk)).filter some1
theorem stations_len : ∀ (l : List Str) (o : List Str), (l.foldl (fun l s => withF l [s]) o).length ≤ o.length + l.length
  | [], o => by simp
  | s :: r, o => by
    have := stations_len r (withF o [s])
    have := withF_len o [s]
    simp at *; omega
def md88 : Modes where
  call := callM
  br := fun _ => false
  plan := fun i => match i with
    | 5 => .take 0 (.take 1 (.take 2 (.take 3 (.take 4 (.take 5 (.any 6 (.take 7 (.any 8 (.any 9 (.fin) (.non)) (.non))) (.any 8 (.any 6 (.take 7 (.any 9 (.fin) (.non))) (.non)) (.non))))))))
    | 14 => .take 0 (.take 1 (.take 2 (.take 4 (.take 5 (.any 3 (.take 6 (.take 8 (.any 7 (.any 9 (.take 10 (.any 11 (.fin) (.non))) (.non)) (.non)))) (.any 6 (.any 3 (.take 8 (.any 7 (.any 9 (.take 10 (.any 11 (.fin) (.non))) (.non)) (.non))) (.non)) (.non)))))))
    | _ => .fin
@[simp] theorem md88_call (f i : Nat) : md88.call f i = callM f i := rfl
@[simp] theorem md88_br : md88.br = fun _ => false := rfl
@[simp] theorem md88_p5 : md88.plan 5 = .take 0 (.take 1 (.take 2 (.take 3 (.take 4 (.take 5 (.any 6 (.take 7 (.any 8 (.any 9 (.fin) (.non)) (.non))) (.any 8 (.any 6 (.take 7 (.any 9 (.fin) (.non))) (.non)) (.non)))))))) := rfl
@[simp] theorem md88_p14 : md88.plan 14 = .take 0 (.take 1 (.take 2 (.take 4 (.take 5 (.any 3 (.take 6 (.take 8 (.any 7 (.any 9 (.take 10 (.any 11 (.fin) (.non))) (.non)) (.non)))) (.any 6 (.any 3 (.take 8 (.any 7 (.any 9 (.take 10 (.any 11 (.fin) (.non))) (.non)) (.non))) (.non)) (.non))))))) := rfl
set_option maxHeartbeats 16000000 in
theorem shared_ok (κ' : Knd) (hκ' : κ' ≠ .own) (p : GPlant) (w : GClaimWant) (hpl : p.Places.length ≤ 1000) (hv : p.Valves.length ≤ 1000) (h1 : w.Stuffs.length ≤ 1048576) (h2 : w.Uses.length ≤ 1048576) (h3 : w.Opens.length ≤ 1048576) (h4 : w.Shuts.length ≤ 1048576) :
    ACall PP 88 [.tmp (.agg [.tr (.sl .sh () 1 (enc cS p.Stuffs)), .tr (.sl .sh () 2 (enc cPlantFoe p.Foes)), .tr (.sl .sh () 3 (enc cPlantPlace p.Places)), .tr (.sl .sh () 4 (enc cPlantValve p.Valves))]), .tmp (.agg [.tr (.int .i64 w.Number), .tr (.int .i64 w.Kind), .tr (.sl κ' () 1 (enc cS w.Stuffs)), .tr (.sl κ' () 3 (enc cClaimUse w.Uses)), .tr (.sl κ' () 1 (enc cS w.Opens)), .tr (.sl κ' () 1 (enc cS w.Shuts))])] [] (.tmp (.tr (.sl .own () 7 (enc (cCtlAsk .own) (sharedL p w (stationsF p)))))) [] [] := by
  have hκ : Knd.sh ≠ Knd.own := by simp
  refine ACall_intro md88 (na := 2) (bx := []) (by kernel_rfl) Tryz.func88 rfl rfl rfl (by simp [noBoR, noBoV, noBoL, noBoT]) (by simp [noBoL, noBoT]) (by simp [noBoRow, noBoT]) rfl rfl ?_
  have hst : (stationsF p).length ≤ 2000 := by
    have a1 := stations_len (p.Places.map GPlantPlace.Station) []
    have a2 := stations_len (p.Valves.map GPlantValve.Station) ((p.Places.map GPlantPlace.Station).foldl (fun l s => withF l [s]) [])
    simp only [stationsF]
    simp at a1 a2 ⊢
    omega
  simp [hκ, hκ']
  refine callK_of (stations_ok _ (by simp [hκ]) p (by omega) (by omega)) ?_
  simp [hκ, hκ']
  refine vc_loop2 [2, 3, 5, 15, 16, 17] (fun m S => ∃ (i : Nat) (o : List GCtlAsk), m = (stationsF p).length - i ∧ i ≤ (stationsF p).length ∧ o.length ≤ i ∧ sharedL p w (stationsF p) = o ++ sharedL p w ((stationsF p).drop i) ∧
    S = [(2, .box () [.tr (.sl .sh () 1 (enc cS p.Stuffs)), .tr (.sl .sh () 2 (enc cPlantFoe p.Foes)), .tr (.sl .sh () 3 (enc cPlantPlace p.Places)), .tr (.sl .sh () 4 (enc cPlantValve p.Valves))]), (3, .box () [.tr (.int .i64 w.Number), .tr (.int .i64 w.Kind), .tr (.sl κ' () 1 (enc cS w.Stuffs)), .tr (.sl κ' () 3 (enc cClaimUse w.Uses)), .tr (.sl κ' () 1 (enc cS w.Opens)), .tr (.sl κ' () 1 (enc cS w.Shuts))]), (5, .tmp (.tr (.sl .own () 7 (enc (cCtlAsk .own) o)))), (15, .tmp (.tr (.sl .own () 1 (enc cS (stationsF p))))), (16, .tmp (.tr (.int .i64 (stationsF p).length))), (17, .tmp (.tr (.int .i64 i)))]) (stationsF p).length ?_ ?_
  · exact ⟨0, [], by simp, by simp, by simp, by simp, by simp⟩
  generalize hL : stationsF p = L at *
  rintro J hJ m S ⟨i, o, rfl, hi, ho, ha, rfl⟩
  by_cases hlt : i < L.length
  · have hd : L.drop i = L[i] :: L.drop (i + 1) := by simp
    rw [hd] at ha
    simp [-vcPlan_any, hκ, hκ', hlt]
    refine any2 (S' := ?_) (fun K hK => ?_) (fun K hK => ?_) ?_
    rotate_left
    · simp [-vcPlan_any, hκ, hκ', hlt]
      refine callK_of (copiedS_ok _ (by simp [hκ']) w.Stuffs (by omega)) ?_
      simp [-vcPlan_any, hκ, hκ', hlt]
      exact hK
    · simp [-vcPlan_any, hκ, hκ', hlt]
      refine callK_of (copiedS_ok _ (by simp [hκ']) w.Stuffs (by omega)) ?_
      simp [-vcPlan_any, hκ, hκ', hlt]
      exact hK
    simp [-vcPlan_any, hκ, hκ', hlt]
    refine vc_loop2 [2, 3, 5, 7, 8, 15, 16, 17, 30, 31, 32] (fun m S => ∃ (j : Nat) (u : List GClaimUse), m = w.Uses.length - j ∧ j ≤ w.Uses.length ∧ u.length ≤ j ∧ w.Uses.filter (useAt p L[i]) = u ++ (w.Uses.drop j).filter (useAt p L[i]) ∧
      S = [(2, .box () [.tr (.sl .sh () 1 (enc cS p.Stuffs)), .tr (.sl .sh () 2 (enc cPlantFoe p.Foes)), .tr (.sl .sh () 3 (enc cPlantPlace p.Places)), .tr (.sl .sh () 4 (enc cPlantValve p.Valves))]), (3, .box () [.tr (.int .i64 w.Number), .tr (.int .i64 w.Kind), .tr (.sl κ' () 1 (enc cS w.Stuffs)), .tr (.sl κ' () 3 (enc cClaimUse w.Uses)), .tr (.sl κ' () 1 (enc cS w.Opens)), .tr (.sl κ' () 1 (enc cS w.Shuts))]), (5, .tmp (.tr (.sl .own () 7 (enc (cCtlAsk .own) o)))), (7, .box () [.tr (.str L[i])]), (8, .box () [.tr (.int .i64 w.Number), .tr (.int .i64 w.Kind), .tr (.sl .own () 1 (enc cS w.Stuffs)), .tr (.sl .own () 3 (enc cClaimUse u)), .tr (.sl .own () 1 []), .tr (.sl .own () 1 [])]),
        (15, .tmp (.tr (.sl .own () 1 (enc cS L)))), (16, .tmp (.tr (.int .i64 L.length))), (17, .tmp (.tr (.int .i64 i))), (30, .tmp (.tr (.sl κ' () 3 (enc cClaimUse w.Uses)))), (31, .tmp (.tr (.int .i64 w.Uses.length))), (32, .tmp (.tr (.int .i64 j)))]) w.Uses.length ?_ ?_
    · exact ⟨0, [], by simp, by simp, by simp, by simp, by simp⟩
    rintro J2 hJ2 m S ⟨j, u, rfl, hj, hu, hc, rfl⟩
    by_cases hlt2 : j < w.Uses.length
    · have hd2 : w.Uses.drop j = w.Uses[j] :: w.Uses.drop (j + 1) := by simp
      rw [hd2, List.filter_cons] at hc
      simp [-vcPlan_any, hκ, hκ', hlt, hlt2]
      refine callK_of (place_ok _ (by simp [hκ]) p _ (by omega)) ?_
      by_cases c : (placeF p w.Uses[j].Name).Station = L[i]
      · have hq : useAt p L[i] w.Uses[j] = true := by simp [useAt, c]
        rw [hq, if_pos rfl] at hc
        simp [-vcPlan_any, hκ, hκ', hlt, hlt2, c, chunk]
        refine andK_i (by omega) fun _ => andK_i (by omega) fun _ => ?_
        exact again_i hJ2 (m := w.Uses.length - (j + 1)) (by omega) ⟨j + 1, u ++ [w.Uses[j]], rfl, by omega, by simp; omega, by rw [hc, List.append_assoc]; rfl, by simp⟩
      · have hq : useAt p L[i] w.Uses[j] = false := by simp [useAt, c]
        rw [hq] at hc
        simp [-vcPlan_any, hκ, hκ', hlt, hlt2, c]
        refine andK_i (by omega) fun _ => ?_
        exact again_i hJ2 (m := w.Uses.length - (j + 1)) (by omega) ⟨j + 1, u, rfl, by omega, by omega, by simpa using hc, by simp⟩
    obtain rfl : j = w.Uses.length := by omega
    simp at hc
    subst hc
    simp [-vcPlan_any, hκ, hκ', hlt]
    refine any2 (S' := ?_) (fun K hK => ?_) (fun K hK => ?_) ?_
    rotate_left
    · simp [-vcPlan_any, hκ, hκ', hlt]
      refine callK_of (mine_ok _ (by simp [hκ']) p L[i] w.Opens (by omega) (by omega)) ?_
      simp [-vcPlan_any, hκ, hκ', hlt]
      refine callK_of (mine_ok _ (by simp [hκ']) p L[i] w.Shuts (by omega) (by omega)) ?_
      simp [-vcPlan_any, hκ, hκ', hlt]
      exact hK
    · simp [-vcPlan_any, hκ, hκ', hlt]
      refine callK_of (mine_ok _ (by simp [hκ']) p L[i] w.Opens (by omega) (by omega)) ?_
      simp [-vcPlan_any, hκ, hκ', hlt]
      refine callK_of (mine_ok _ (by simp [hκ']) p L[i] w.Shuts (by omega) (by omega)) ?_
      simp [-vcPlan_any, hκ, hκ', hlt]
      exact hK
    have hsh : sharedL p w (L[i] :: L.drop (i + 1)) = (if some1 ⟨L[i], shareOf p w L[i]⟩ = true then [(⟨L[i], shareOf p w L[i]⟩ : GCtlAsk)] else []) ++ sharedL p w (L.drop (i + 1)) := by
      simp only [sharedL, List.map_cons, List.filter_cons]
      split <;> simp
    rw [hsh] at ha
    have hl1 : (w.Uses.filter (useAt p L[i])).length ≤ w.Uses.length := List.length_filter_le _ _
    have hl2 : (w.Opens.filter (valveAt p L[i])).length ≤ w.Opens.length := List.length_filter_le _ _
    have hl3 : (w.Shuts.filter (valveAt p L[i])).length ≤ w.Shuts.length := List.length_filter_le _ _
    simp [-vcPlan_any, hκ, hκ', hlt]
    refine andK_i (by omega) fun _ => andK_i (by omega) fun _ => condK_i (fun hp => ?_) (fun hp => ?_)
    · refine andK_i (by omega) fun _ => andK_i (by omega) fun _ => ?_
      have h1 : some1 ⟨L[i], shareOf p w L[i]⟩ = true := by
        show decide (0 < (w.Uses.filter (useAt p L[i])).length + (w.Opens.filter (valveAt p L[i])).length + (w.Shuts.filter (valveAt p L[i])).length) = true
        rw [decide_eq_true_eq]; omega
      rw [if_pos h1] at ha
      exact again_i hJ (m := L.length - (i + 1)) (by omega) ⟨i + 1, o ++ [⟨L[i], shareOf p w L[i]⟩], rfl, by omega, by simp; omega, by rw [ha, List.append_assoc], by simp [shareOf]⟩
    · refine andK_i (by omega) fun _ => ?_
      have h1 : ¬ some1 ⟨L[i], shareOf p w L[i]⟩ = true := by
        show ¬ decide (0 < (w.Uses.filter (useAt p L[i])).length + (w.Opens.filter (valveAt p L[i])).length + (w.Shuts.filter (valveAt p L[i])).length) = true
        rw [decide_eq_true_eq]; omega
      rw [if_neg h1] at ha
      exact again_i hJ (m := L.length - (i + 1)) (by omega) ⟨i + 1, o, rfl, by omega, by omega, by rw [ha]; simp, by simp⟩
  obtain rfl : i = L.length := by omega
  rw [List.drop_length, show sharedL p w [] = [] from rfl, List.append_nil] at ha
  simp [hκ, hκ', ha]
end Go.HT
end
section
namespace Go.HT
open Go Go.Proofs
set_option maxRecDepth 100000
set_option maxHeartbeats 1000000
set_option linter.unusedSimpArgs false
def md95 : Modes where
  call := callM
  br := fun _ => false
  plan := fun _ => .fin
@[simp] theorem md95_call (f i : Nat) : md95.call f i = callM f i := rfl
@[simp] theorem md95_br : md95.br = fun _ => false := rfl
theorem l2Valve_ok (κ : Knd) (hκ : κ ≠ .own) (p : GPlant) (n : Str) (hl : p.Valves.length ≤ 1048576) :
    ACall PP 95 [.tmp (.agg [.tr (.sl κ () 1 (enc cS p.Stuffs)), .tr (.sl κ () 2 (enc cPlantFoe p.Foes)), .tr (.sl κ () 3 (enc cPlantPlace p.Places)), .tr (.sl κ () 4 (enc cPlantValve p.Valves))]), .tmp (.tr (.str n))] []
      (.tmp (.tr (.int .i64 (ixQ (fun x : GPlantValve => decide (x.Name = n)) p.Valves 0)))) [] [] := by
  refine ACall_intro md95 (na := 2) (bx := []) (by kernel_rfl) Tryz.func95 rfl rfl rfl (by simp [noBoR, noBoV, noBoL, noBoT]) (by simp [noBoL, noBoT]) (by simp [noBoRow, noBoT]) rfl rfl ?_
  simp [hκ]
  refine vc_loop2 [1, 2, 5] (fun m S => ∃ (i : Nat), m = p.Valves.length - i ∧ i ≤ p.Valves.length ∧ ixQ (fun x : GPlantValve => decide (x.Name = n)) p.Valves 0 = ixQ (fun x : GPlantValve => decide (x.Name = n)) (p.Valves.drop i) i ∧
    S = [(1, .tmp (.tr (.str n))), (2, .box () [.tr (.sl κ () 1 (enc cS p.Stuffs)), .tr (.sl κ () 2 (enc cPlantFoe p.Foes)), .tr (.sl κ () 3 (enc cPlantPlace p.Places)), .tr (.sl κ () 4 (enc cPlantValve p.Valves))]), (5, .tmp (.tr (.int .i64 i)))]) p.Valves.length ?_ ?_
  · exact ⟨0, by simp, by simp, by simp, by simp⟩
  · rintro J hJ m S ⟨i, rfl, hi, ha, rfl⟩
    by_cases hlt : i < p.Valves.length
    · have hd : p.Valves.drop i = p.Valves[i] :: p.Valves.drop (i + 1) := by simp
      rw [hd, ixQ] at ha
      by_cases he : p.Valves[i].Name = n
      · simp [he] at ha
        simp [hκ, hlt, he, ha]
      · simp [he] at ha
        simp [hκ, hlt, he]
        refine andK_i (by omega) fun _ => ?_
        exact again_i hJ (m := p.Valves.length - (i + 1)) (by omega) ⟨i + 1, rfl, by omega, ha, by simp⟩
    · obtain rfl : i = p.Valves.length := by omega
      simp [ixQ] at ha
      simp [hκ, ha]
/-- What a place can hold, -1 if it is not there. -/
def capF (p : GPlant) (n : Str) : Int := if placeB p n then (placeF p n).Cap else -1
theorem ix_find {α : Type} (q : α → Bool) (l : List α) : (ixQ q l 0 = -1 ∧ l.find? q = none) ∨ (∃ j : Nat, ∃ h : j < l.length, ixQ q l 0 = (j : Int) ∧ l.find? q = some l[j]) := by
  rcases ixQ_spec q l 0 with ⟨h1, h2⟩ | ⟨j, hj, h1, h2, h3⟩
  · refine .inl ⟨h1, List.find?_eq_none.2 fun x hx => ?_⟩
    simp [h2 x hx]
  · refine .inr ⟨j, hj, by simpa using h1, ?_⟩
    have hd : l = l.take j ++ l[j] :: l.drop (j + 1) := by simp
    conv => lhs; rw [hd]
    rw [List.find?_append]
    have : (l.take j).find? q = none := List.find?_eq_none.2 fun x hx => by simp [h3 x hx]
    rw [this, Option.none_or, List.find?_cons, h2]
def md75 : Modes where
  call := callM
  br := fun _ => false
  plan := fun _ => .fin
@[simp] theorem md75_call (f i : Nat) : md75.call f i = callM f i := rfl
@[simp] theorem md75_br : md75.br = fun _ => false := rfl
theorem l5Cap_ok (κ : Knd) (hκ : κ ≠ .own) (p : GPlant) (n : Str) (hl : p.Places.length ≤ 1048576) :
    ACall PP 75 [.tmp (.agg [.tr (.sl κ () 1 (enc cS p.Stuffs)), .tr (.sl κ () 2 (enc cPlantFoe p.Foes)), .tr (.sl κ () 3 (enc cPlantPlace p.Places)), .tr (.sl κ () 4 (enc cPlantValve p.Valves))]), .tmp (.tr (.str n))] []
      (.tmp (.tr (.int .i64 (capF p n)))) [] [] := by
  refine ACall_intro md75 (na := 2) (bx := []) (by kernel_rfl) Tryz.func75 rfl rfl rfl (by simp [noBoR, noBoV, noBoL, noBoT]) (by simp [noBoL, noBoT]) (by simp [noBoRow, noBoT]) rfl rfl ?_
  simp [hκ]
  refine callK_of (l2Place_ok _ (by simp [hκ]) p n hl) ?_
  simp [hκ]
  rcases ix_find (fun x : GPlantPlace => decide (x.Name = n)) p.Places with ⟨h1, h2⟩ | ⟨j, hj, h1, h2⟩
  · simp [h1, capF, placeB, h2]
  · have hn : ¬ ((j : Int) < 0) := by omega
    simp [h1, hn, hκ, hj, capF, placeB, placeF, h2]
def md96 : Modes where
  call := callM
  br := fun _ => false
  plan := fun _ => .fin
@[simp] theorem md96_call (f i : Nat) : md96.call f i = callM f i := rfl
@[simp] theorem md96_br : md96.br = fun _ => false := rfl
def otherF (v : GPlantValve) (s : Str) : Str := if v.A = s then v.B else if v.B = s then v.A else []
theorem l5Other_ok (v : GPlantValve) (s : Str) :
    ACall PP 96 [.tmp (.agg [.tr (.str v.Name), .tr (.str v.A), .tr (.str v.B), .tr (.str v.Station)]), .tmp (.tr (.str s))] [] (.tmp (.tr (.str (otherF v s)))) [] [] := by
  refine ACall_intro md96 (na := 2) (bx := []) (by kernel_rfl) Tryz.func96 rfl rfl rfl (by simp [noBoR, noBoV, noBoL, noBoT]) (by simp [noBoL, noBoT]) (by simp [noBoRow, noBoT]) rfl rfl ?_
  simp
  by_cases h1 : v.A = s <;> by_cases h2 : v.B = s <;> simp [h1, h2, otherF]
def md93 : Modes where
  call := callM
  br := fun _ => false
  plan := fun _ => .fin
@[simp] theorem md93_call (f i : Nat) : md93.call f i = callM f i := rfl
@[simp] theorem md93_br : md93.br = fun _ => false := rfl
def beforeF (a b : GPlantFoe) : Bool := strLt a.A b.A || (decide (a.A = b.A) && strLt a.B b.B)
theorem l2Before_ok (a b : GPlantFoe) :
    ACall PP 93 [.tmp (.agg [.tr (.str a.A), .tr (.str a.B)]), .tmp (.agg [.tr (.str b.A), .tr (.str b.B)])] [] (.tmp (.tr (.bool (beforeF a b)))) [] [] := by
  refine ACall_intro md93 (na := 2) (bx := []) (by kernel_rfl) Tryz.func93 rfl rfl rfl (by simp [noBoR, noBoV, noBoL, noBoT]) (by simp [noBoL, noBoT]) (by simp [noBoRow, noBoT]) rfl rfl ?_
  by_cases h2 : a.A = b.A
  · cases h1 : strLt b.A b.A <;> simp [h1, h2, beforeF]
  · cases h1 : strLt a.A b.A <;> simp [h1, h2, beforeF]
def md77 : Modes where
  call := callM
  br := fun _ => false
  plan := fun _ => .fin
@[simp] theorem md77_call (f i : Nat) : md77.call f i = callM f i := rfl
@[simp] theorem md77_br : md77.br = fun _ => false := rfl
def joinsF (p : GPlant) (n a b : Str) : Bool := valveB p n && decide (otherF (valveF p n) a = b)
theorem l5Joins_ok (κ : Knd) (hκ : κ ≠ .own) (p : GPlant) (n a b : Str) (hl : p.Valves.length ≤ 1048576) :
    ACall PP 77 [.tmp (.agg [.tr (.sl κ () 1 (enc cS p.Stuffs)), .tr (.sl κ () 2 (enc cPlantFoe p.Foes)), .tr (.sl κ () 3 (enc cPlantPlace p.Places)), .tr (.sl κ () 4 (enc cPlantValve p.Valves))]), .tmp (.tr (.str n)), .tmp (.tr (.str a)), .tmp (.tr (.str b))] []
      (.tmp (.tr (.bool (joinsF p n a b)))) [] [] := by
  refine ACall_intro md77 (na := 4) (bx := []) (by kernel_rfl) Tryz.func77 rfl rfl rfl (by simp [noBoR, noBoV, noBoL, noBoT]) (by simp [noBoL, noBoT]) (by simp [noBoRow, noBoT]) rfl rfl ?_
  simp [hκ]
  refine callK_of (l2Valve_ok _ (by simp [hκ]) p n hl) ?_
  simp [hκ]
  rcases ix_find (fun x : GPlantValve => decide (x.Name = n)) p.Valves with ⟨h1, h2⟩ | ⟨j, hj, h1, h2⟩
  · simp [h1, joinsF, valveB, h2]
  · have hn : (0 : Int) ≤ (j : Int) := by omega
    simp [h1, hn, hκ, hj]
    refine callK_of (l5Other_ok p.Valves[j] a) ?_
    simp [joinsF, valveB, valveF, h2]
def besQ (s : Str) (v : GPlantValve) : Bool := decide (v.A = s) || decide (v.B = s)
def besideF (p : GPlant) (s : Str) : List Str := (p.Valves.filter (besQ s)).map GPlantValve.Name
def md90 : Modes where
  call := callM
  br := fun _ => false
  plan := fun _ => .fin
@[simp] theorem md90_call (f i : Nat) : md90.call f i = callM f i := rfl
@[simp] theorem md90_br : md90.br = fun _ => false := rfl
theorem beside_ok (κ : Knd) (hκ : κ ≠ .own) (p : GPlant) (s : Str) (hl : p.Valves.length ≤ 1048576) :
    ACall PP 90 [.tmp (.agg [.tr (.sl κ () 1 (enc cS p.Stuffs)), .tr (.sl κ () 2 (enc cPlantFoe p.Foes)), .tr (.sl κ () 3 (enc cPlantPlace p.Places)), .tr (.sl κ () 4 (enc cPlantValve p.Valves))]), .tmp (.tr (.str s))] []
      (.tmp (.tr (.sl .own () 1 (enc cS (besideF p s))))) [] [] := by
  refine ACall_intro md90 (na := 2) (bx := []) (by kernel_rfl) Tryz.func90 rfl rfl rfl (by simp [noBoR, noBoV, noBoL, noBoT]) (by simp [noBoL, noBoT]) (by simp [noBoRow, noBoT]) rfl rfl ?_
  simp [hκ]
  refine vc_loop2 [1, 5, 9, 10, 11] (fun m S => ∃ (i : Nat) (o : List Str), m = p.Valves.length - i ∧ i ≤ p.Valves.length ∧ o.length ≤ i ∧ besideF p s = o ++ ((p.Valves.drop i).filter (besQ s)).map GPlantValve.Name ∧
    S = [(1, .tmp (.tr (.str s))), (5, .tmp (.tr (.sl .own () 1 (enc cS o)))), (9, .tmp (.tr (.sl κ () 4 (enc cPlantValve p.Valves)))), (10, .tmp (.tr (.int .i64 p.Valves.length))), (11, .tmp (.tr (.int .i64 i)))]) p.Valves.length ?_ ?_
  · exact ⟨0, [], by simp, by simp, by simp, by simp [besideF], by simp⟩
  · rintro J hJ m S ⟨i, o, rfl, hi, ho, ha, rfl⟩
    by_cases hlt : i < p.Valves.length
    · have hd : p.Valves.drop i = p.Valves[i] :: p.Valves.drop (i + 1) := by simp
      rw [hd, List.filter_cons] at ha
      by_cases h1 : p.Valves[i].A = s <;> by_cases h2 : p.Valves[i].B = s
      all_goals simp [besQ, h1, h2] at ha
      all_goals simp [hκ, hlt, h1, h2, chunk]
      · refine andK_i (by omega) fun _ => andK_i (by omega) fun _ => ?_
        exact again_i hJ (m := p.Valves.length - (i + 1)) (by omega) ⟨i + 1, o ++ [p.Valves[i].Name], rfl, by omega, by simp; omega, by simpa [besQ] using ha, by simp⟩
      · refine andK_i (by omega) fun _ => andK_i (by omega) fun _ => ?_
        exact again_i hJ (m := p.Valves.length - (i + 1)) (by omega) ⟨i + 1, o ++ [p.Valves[i].Name], rfl, by omega, by simp; omega, by simpa [besQ] using ha, by simp⟩
      · refine andK_i (by omega) fun _ => andK_i (by omega) fun _ => ?_
        exact again_i hJ (m := p.Valves.length - (i + 1)) (by omega) ⟨i + 1, o ++ [p.Valves[i].Name], rfl, by omega, by simp; omega, by simpa [besQ] using ha, by simp⟩
      · refine andK_i (by omega) fun _ => ?_
        exact again_i hJ (m := p.Valves.length - (i + 1)) (by omega) ⟨i + 1, o, rfl, by omega, by omega, by simpa [besQ] using ha, by simp⟩
    · obtain rfl : i = p.Valves.length := by omega
      simp at ha
      simp [hκ, ha]
end Go.HT
end
section
namespace Go.HT
open Go Go.Proofs
set_option maxRecDepth 100000
set_option maxHeartbeats 4000000
set_option linter.unusedSimpArgs false
set_option linter.unusedVariables false
/-- A name, put into a list that rises. -/
def insF (s : Str) : List Str → List Str
  | [] => [s]
  | x :: r => if strLt x s = true then x :: insF s r else if x = s then x :: r else s :: x :: r
theorem insF_len (s : Str) : ∀ l : List Str, (insF s l).length ≤ l.length + 1
  | [] => by simp [insF]
  | x :: r => by
    have := insF_len s r
    unfold insF
    split
    · simp; omega
    · split <;> simp
@[simp] theorem flatRows_nil : flatRows [] = true := rfl
def md53 : Modes where
  call := callM
  br := fun _ => false
  plan := fun i => match i with
    | 6 => .take 1 (.take 2 (.take 3 (.take 5 (.take 8 (.take 9 (.take 10 (.any 0 (.any 4 (.any 6 (.any 7 (.any 11 (.take 12 (.fin)) (.non)) (.non)) (.non)) (.any 6 (.any 4 (.any 7 (.any 11 (.take 12 (.fin)) (.non)) (.non)) (.non)) (.non))) (.any 6 (.any 0 (.any 4 (.any 7 (.any 11 (.take 12 (.fin)) (.non)) (.non)) (.non)) (.non)) (.non)))))))))
    | _ => .fin
@[simp] theorem md53_call (f i : Nat) : md53.call f i = callM f i := rfl
@[simp] theorem md53_br : md53.br = fun _ => false := rfl
@[simp] theorem md53_p6 : md53.plan 6 = .take 1 (.take 2 (.take 3 (.take 5 (.take 8 (.take 9 (.take 10 (.any 0 (.any 4 (.any 6 (.any 7 (.any 11 (.take 12 (.fin)) (.non)) (.non)) (.non)) (.any 6 (.any 4 (.any 7 (.any 11 (.take 12 (.fin)) (.non)) (.non)) (.non)) (.non))) (.any 6 (.any 0 (.any 4 (.any 7 (.any 11 (.take 12 (.fin)) (.non)) (.non)) (.non)) (.non)) (.non))))))))) := rfl
theorem l4Insert_ok (l : List Str) (s : Str) (hl : l.length ≤ 1099511627776) :
    ACall PP 53 [.tmp (.tr (.sl .own () 1 (enc cS l))), .tmp (.tr (.str s))] [] (.tmp (.tr (.sl .own () 1 (enc cS (insF s l))))) [] [] := by
  refine ACall_intro md53 (na := 2) (bx := []) (by kernel_rfl) Tryz.func53 rfl rfl rfl (by simp [noBoR, noBoV, noBoL, noBoT]) (by simp [noBoL, noBoT]) (by simp [noBoRow, noBoT]) rfl rfl ?_
  simp
  refine vc_loop2 [0, 1, 5] (fun m S => ∃ (i : Nat), m = l.length - i ∧ i ≤ l.length ∧ insF s l = l.take i ++ insF s (l.drop i) ∧
    S = [(0, .tmp (.tr (.sl .own () 1 (enc cS l)))), (1, .tmp (.tr (.str s))), (5, .tmp (.tr (.int .i64 i)))]) l.length ?_ ?_
  · exact ⟨0, by simp, by simp, by simp, by simp⟩
  · rintro J hJ m S ⟨i, rfl, hi, ha, rfl⟩
    by_cases hlt : i < l.length
    · have hd : l.drop i = l[i] :: l.drop (i + 1) := by simp
      have ht : l.take (i + 1) = l.take i ++ [l[i]] := by simp
      rw [hd, insF] at ha
      cases hs : strLt l[i] s
      · by_cases he : l[i] = s
        · rw [if_neg (by simp [hs]), if_pos he, ← hd, List.take_append_drop] at ha
          rw [he] at hs
          simp [hlt, hs, he, ha]
        · rw [if_neg (by simp [hs]), if_neg he, ← hd] at ha
          have hdl : List.take (l.length - i) (List.drop i l) = List.drop i l := List.take_of_length_le (by simp)
          simp [-vcPlan_any, hlt, hs, he, chunk, hi]
          repeat' (first
            | (rw [vcPlan_any]; refine ⟨?_, ?_⟩)
            | (refine andK_i (by first | omega | (simp; omega)) fun _ => ?_)
            | (simp [-vcPlan_any, hlt, hs, he, chunk, hi, ha, hdl]))
      · rw [if_pos hs] at ha
        simp [hlt, hs]
        refine andK_i (by omega) fun _ => ?_
        exact again_i hJ (m := l.length - (i + 1)) (by omega) ⟨i + 1, rfl, by omega, by rw [ha, ht, List.append_assoc]; rfl, by simp⟩
    · obtain rfl : i = l.length := by omega
      simp [insF] at ha
      simp [-vcPlan_any, chunk]
      repeat' (first
        | (rw [vcPlan_any]; refine ⟨?_, ?_⟩)
        | (refine andK_i (by first | omega | (simp; omega)) fun _ => ?_)
        | (simp [-vcPlan_any, chunk, ha]))
end Go.HT
end
section
namespace Go.HT
open Go Go.Proofs
set_option maxRecDepth 100000
set_option maxHeartbeats 4000000
set_option linter.unusedSimpArgs false
set_option linter.unusedVariables false
/-- What a bounded plant's parts come to. -/
structure PB (p : GPlant) : Prop where
  sl : p.Stuffs.length ≤ 1048576
  sm : ∀ x ∈ p.Stuffs, x.length ≤ 1048576
  fl : p.Foes.length ≤ 1048576
  fm : ∀ x ∈ p.Foes, x.A.length ≤ 1048576 ∧ x.B.length ≤ 1048576
  pl : p.Places.length ≤ 1048576
  pm : ∀ x ∈ p.Places, x.Name.length ≤ 1048576 ∧ x.Station.length ≤ 1048576
  vl : p.Valves.length ≤ 1048576
  vm : ∀ x ∈ p.Valves, x.Name.length ≤ 1048576 ∧ x.A.length ≤ 1048576 ∧ x.B.length ≤ 1048576 ∧ x.Station.length ≤ 1048576
theorem PB_of {p : GPlant} (h : zPlant p ≤ 1048576) : PB p := by
  simp only [zPlant] at h
  have h1 := szL_len List.length p.Stuffs
  have h2 := szL_len zPlantFoe p.Foes
  have h3 := szL_len zPlantPlace p.Places
  have h4 := szL_len zPlantValve p.Valves
  refine ⟨by omega, fun x hx => ?_, by omega, fun x hx => ?_, by omega, fun x hx => ?_, by omega, fun x hx => ?_⟩
  · have := szL_mem List.length hx; omega
  · have := szL_mem zPlantFoe hx; simp only [zPlantFoe] at this; omega
  · have := szL_mem zPlantPlace hx; simp only [zPlantPlace] at this; omega
  · have := szL_mem zPlantValve hx; simp only [zPlantValve] at this; omega
def capOk (n : Int) : Bool := decide (0 ≤ n) && decide (n ≤ 1000)
theorem l1In_cap (n : Int) : ACall PP 94 [.tmp (.tr (.int .i64 n)), .tmp (.tr (.int .i64 0)), .tmp (.tr (.int .i64 1000))] [] (.tmp (.tr (.bool (capOk n)))) [] [] := l1In_ok n 0 1000
def ltO (o : Option Str) (x : Str) : Bool := match o with
  | none => true
  | some y => strLt y x
@[simp] theorem ltO_none (x : Str) : ltO none x = true := rfl
@[simp] theorem ltO_some (y x : Str) : ltO (some y) x = strLt y x := rfl
def plQ (o : Option GPlantPlace) (x : GPlantPlace) : Bool := nameOk x.Name && (ltO (o.map GPlantPlace.Name) x.Name && (capOk x.Cap && nameOk x.Station))
def placesF (l : List GPlantPlace) : Bool := decide (l.length ≤ 14) && allP plQ none l
def md73 : Modes where
  call := callM
  br := fun _ => false
  plan := fun i => match i with
    | 7 => .take 0 (.take 1 (.any 2 (.take 3 (.take 4 (.take 5 (.take 6 (.take 7 (.take 8 (.take 9 (.take 10 (.take 11 (.take 12 (.take 13 (.take 14 (.take 15 (.take 16 (.take 17 (.take 18 (.take 19 (.take 20 (.take 21 (.take 22 (.any 23 (.take 24 (.take 25 (.take 26 (.take 27 (.take 28 (.any 29 (.take 30 (.take 31 (.fin))) (.non))))))) (.non)))))))))))))))))))))) (.non)))
    | _ => .fin
@[simp] theorem md73_call (f i : Nat) : md73.call f i = callM f i := rfl
@[simp] theorem md73_br : md73.br = fun _ => false := rfl
@[simp] theorem md73_p7 : md73.plan 7 = .take 0 (.take 1 (.any 2 (.take 3 (.take 4 (.take 5 (.take 6 (.take 7 (.take 8 (.take 9 (.take 10 (.take 11 (.take 12 (.take 13 (.take 14 (.take 15 (.take 16 (.take 17 (.take 18 (.take 19 (.take 20 (.take 21 (.take 22 (.any 23 (.take 24 (.take 25 (.take 26 (.take 27 (.take 28 (.any 29 (.take 30 (.take 31 (.fin))) (.non))))))) (.non)))))))))))))))))))))) (.non))) := rfl
theorem l2PlacesOk_ok (κ : Knd) (hκ : κ ≠ .own) (p : GPlant) (hb : PB p) :
    ACall PP 73 [.tmp (.agg [.tr (.sl κ () 1 (enc cS p.Stuffs)), .tr (.sl κ () 2 (enc cPlantFoe p.Foes)), .tr (.sl κ () 3 (enc cPlantPlace p.Places)), .tr (.sl κ () 4 (enc cPlantValve p.Valves))])] []
      (.tmp (.tr (.bool (placesF p.Places)))) [] [] := by
  refine ACall_intro md73 (na := 1) (bx := []) (by kernel_rfl) Tryz.func73 rfl rfl rfl (by simp [noBoR, noBoV, noBoL, noBoT]) (by simp [noBoL, noBoT]) (by simp [noBoRow, noBoT]) rfl rfl ?_
  have hl := hb.pl
  simp [hκ]
  refine condK_i (fun h14 => ?_) (fun h14 => ?_)
  · have : ¬ p.Places.length ≤ 14 := by omega
    simp [placesF, this]
  have h14 : p.Places.length ≤ 14 := by omega
  refine vc_loop2 [1, 3] (fun m S => ∃ (i : Nat), m = p.Places.length - i ∧ i ≤ p.Places.length ∧ allP plQ none p.Places = allP plQ (prevAt p.Places i) (p.Places.drop i) ∧
    S = [(1, .box () [.tr (.sl κ () 1 (enc cS p.Stuffs)), .tr (.sl κ () 2 (enc cPlantFoe p.Foes)), .tr (.sl κ () 3 (enc cPlantPlace p.Places)), .tr (.sl κ () 4 (enc cPlantValve p.Valves))]), (3, .tmp (.tr (.int .i64 i)))]) p.Places.length ?_ ?_
  · exact ⟨0, by simp, by simp, by simp, by simp⟩
  · rintro J hJ m S ⟨i, rfl, hi, ha, rfl⟩
    by_cases hlt : i < p.Places.length
    · have hd : p.Places.drop i = p.Places[i] :: p.Places.drop (i + 1) := by simp
      have hm := hb.pm _ (List.getElem_mem hlt)
      rw [hd, allP] at ha
      simp [hκ, hlt]
      refine callK_of (l2NameOk_ok _ hm.1) ?_
      cases h1 : nameOk p.Places[i].Name
      · simp [hκ, hlt, h1, plQ] at ha ⊢
        simp [placesF, ha]
      · cases i with
        | zero =>
          simp [hκ, hlt, h1]
          refine callK_of (l1In_cap _) ?_
          cases h2 : capOk p.Places[0].Cap
          · simp [hκ, hlt, h1, h2, plQ] at ha ⊢
            simp [placesF, ha]
          · simp [hκ, hlt, h1, h2]
            refine callK_of (l2NameOk_ok _ hm.2) ?_
            cases h3 : nameOk p.Places[0].Station
            · simp [hκ, hlt, h1, h2, h3, plQ] at ha ⊢
              simp [placesF, ha]
            · simp [hκ, hlt, h1, h2, h3, plQ] at ha ⊢
              exact again_i hJ (m := p.Places.length - 1) (by omega) ⟨1, rfl, by omega, by simpa [prevAt, hlt] using ha, by simp⟩
        | succ j =>
          have hj : j < p.Places.length := by omega
          simp [hκ, hlt, h1, hj]
          refine andK_i (by omega) fun _ => ?_
          cases h4 : strLt p.Places[j].Name p.Places[j + 1].Name
          · simp [hκ, hlt, hj, h1, h4, plQ] at ha ⊢
            simp [placesF, ha]
          · simp [hκ, hlt, hj, h1, h4]
            refine callK_of (l1In_cap _) ?_
            cases h2 : capOk p.Places[j + 1].Cap
            · simp [hκ, hlt, hj, h1, h4, h2, plQ] at ha ⊢
              simp [placesF, ha]
            · simp [hκ, hlt, hj, h1, h4, h2]
              refine callK_of (l2NameOk_ok _ hm.2) ?_
              cases h3 : nameOk p.Places[j + 1].Station
              · simp [hκ, hlt, hj, h1, h4, h2, h3, plQ] at ha ⊢
                simp [placesF, ha]
              · simp [hκ, hlt, hj, h1, h4, h2, h3, plQ] at ha ⊢
                refine andK_i (by omega) fun _ => ?_
                exact again_i hJ (m := p.Places.length - (j + 1 + 1)) (by omega) ⟨j + 1 + 1, rfl, by omega, by simpa [prevAt, hlt] using ha, by simp⟩
    · obtain rfl : i = p.Places.length := by omega
      simp [allP] at ha
      simp [hκ, placesF, ha, h14]
end Go.HT
end
section
namespace Go.HT
open Go Go.Proofs
set_option maxRecDepth 100000
set_option maxHeartbeats 4000000
set_option linter.unusedSimpArgs false
set_option linter.unusedVariables false
theorem ix_cases {α : Type} (q : α → Bool) (l : List α) : (ixQ q l 0 < 0) = ((l.find? q).isSome = false) := by
  rcases ix_find q l with ⟨h1, h2⟩ | ⟨j, hj, h1, h2⟩
  · simp [h1, h2]
  · simp [h1, h2]
@[simp] theorem ixP_lt (p : GPlant) (n : Str) : (ixQ (fun x : GPlantPlace => decide (x.Name = n)) p.Places 0 < 0) = (placeB p n = false) := ix_cases _ _
def vlQ (p : GPlant) (o : Option GPlantValve) (x : GPlantValve) : Bool := nameOk x.Name && (ltO (o.map GPlantValve.Name) x.Name && (strLt x.A x.B && (placeB p x.A && (placeB p x.B && nameOk x.Station))))
def valvesF (p : GPlant) : Bool := decide (p.Valves.length ≤ 18) && allP (vlQ p) none p.Valves
def md74 : Modes where
  call := callM
  br := fun _ => false
  plan := fun i => match i with
    | 7 => .take 0 (.take 1 (.any 2 (.take 3 (.take 4 (.take 5 (.take 6 (.take 7 (.take 8 (.take 9 (.take 10 (.take 11 (.take 12 (.take 13 (.take 14 (.take 15 (.take 16 (.take 17 (.take 18 (.take 19 (.take 20 (.take 21 (.take 22 (.take 23 (.take 24 (.take 25 (.take 26 (.take 27 (.take 28 (.take 29 (.take 30 (.any 31 (.take 32 (.take 33 (.take 34 (.take 35 (.take 36 (.take 37 (.any 38 (.take 39 (.take 40 (.take 41 (.take 42 (.take 43 (.any 44 (.take 45 (.take 46 (.fin))) (.non))))))) (.non)))))))) (.non)))))))))))))))))))))))))))))) (.non)))
    | _ => .fin
@[simp] theorem md74_call (f i : Nat) : md74.call f i = callM f i := rfl
@[simp] theorem md74_br : md74.br = fun _ => false := rfl
@[simp] theorem md74_p7 : md74.plan 7 = .take 0 (.take 1 (.any 2 (.take 3 (.take 4 (.take 5 (.take 6 (.take 7 (.take 8 (.take 9 (.take 10 (.take 11 (.take 12 (.take 13 (.take 14 (.take 15 (.take 16 (.take 17 (.take 18 (.take 19 (.take 20 (.take 21 (.take 22 (.take 23 (.take 24 (.take 25 (.take 26 (.take 27 (.take 28 (.take 29 (.take 30 (.any 31 (.take 32 (.take 33 (.take 34 (.take 35 (.take 36 (.take 37 (.any 38 (.take 39 (.take 40 (.take 41 (.take 42 (.take 43 (.any 44 (.take 45 (.take 46 (.fin))) (.non))))))) (.non)))))))) (.non)))))))))))))))))))))))))))))) (.non))) := rfl
theorem l2ValvesOk_ok (κ : Knd) (hκ : κ ≠ .own) (p : GPlant) (hb : PB p) :
    ACall PP 74 [.tmp (.agg [.tr (.sl κ () 1 (enc cS p.Stuffs)), .tr (.sl κ () 2 (enc cPlantFoe p.Foes)), .tr (.sl κ () 3 (enc cPlantPlace p.Places)), .tr (.sl κ () 4 (enc cPlantValve p.Valves))])] []
      (.tmp (.tr (.bool (valvesF p)))) [] [] := by
  refine ACall_intro md74 (na := 1) (bx := []) (by kernel_rfl) Tryz.func74 rfl rfl rfl (by simp [noBoR, noBoV, noBoL, noBoT]) (by simp [noBoL, noBoT]) (by simp [noBoRow, noBoT]) rfl rfl ?_
  have hl := hb.vl
  have hlp := hb.pl
  simp [hκ]
  refine condK_i (fun h14 => ?_) (fun h14 => ?_)
  · have : ¬ p.Valves.length ≤ 18 := by omega
    simp [valvesF, this]
  have h14 : p.Valves.length ≤ 18 := by omega
  refine vc_loop2 [1, 3] (fun m S => ∃ (i : Nat), m = p.Valves.length - i ∧ i ≤ p.Valves.length ∧ allP (vlQ p) none p.Valves = allP (vlQ p) (prevAt p.Valves i) (p.Valves.drop i) ∧
    S = [(1, .box () [.tr (.sl κ () 1 (enc cS p.Stuffs)), .tr (.sl κ () 2 (enc cPlantFoe p.Foes)), .tr (.sl κ () 3 (enc cPlantPlace p.Places)), .tr (.sl κ () 4 (enc cPlantValve p.Valves))]), (3, .tmp (.tr (.int .i64 i)))]) p.Valves.length ?_ ?_
  · exact ⟨0, by simp, by simp, by simp, by simp⟩
  · rintro J hJ m S ⟨i, rfl, hi, ha, rfl⟩
    by_cases hlt : i < p.Valves.length
    · have hd : p.Valves.drop i = p.Valves[i] :: p.Valves.drop (i + 1) := by simp
      have hm := hb.vm _ (List.getElem_mem hlt)
      rw [hd, allP] at ha
      simp [hκ, hlt]
      refine callK_of (l2NameOk_ok _ hm.1) ?_
      cases h1 : nameOk p.Valves[i].Name
      · simp [hκ, hlt, h1, vlQ] at ha ⊢
        simp [valvesF, ha]
      · cases i with
        | zero =>
          simp [hκ, hlt, h1]
          cases h2 : strLt p.Valves[0].A p.Valves[0].B
          · simp [hκ, hlt, h1, h2, vlQ] at ha ⊢
            simp [valvesF, ha]
          · simp [hκ, hlt, h1, h2]
            refine callK_of (l2Place_ok _ (by simp [hκ]) p _ (by omega)) ?_
            cases h3 : placeB p p.Valves[0].A
            · simp [hκ, hlt, h1, h2, h3, vlQ] at ha ⊢
              simp [valvesF, ha]
            · simp [hκ, hlt, h1, h2, h3]
              refine callK_of (l2Place_ok _ (by simp [hκ]) p _ (by omega)) ?_
              cases h4 : placeB p p.Valves[0].B
              · simp [hκ, hlt, h1, h2, h3, h4, vlQ] at ha ⊢
                simp [valvesF, ha]
              · simp [hκ, hlt, h1, h2, h3, h4]
                refine callK_of (l2NameOk_ok _ hm.2.2.2) ?_
                cases h5 : nameOk p.Valves[0].Station
                · simp [hκ, hlt, h1, h2, h3, h4, h5, vlQ] at ha ⊢
                  simp [valvesF, ha]
                · simp [hκ, hlt, h1, h2, h3, h4, h5, vlQ] at ha ⊢
                  exact again_i hJ (m := p.Valves.length - 1) (by omega) ⟨1, rfl, by omega, by simpa [prevAt, hlt] using ha, by simp⟩
        | succ j =>
          have hj : j < p.Valves.length := by omega
          simp [hκ, hlt, h1, hj]
          refine andK_i (by omega) fun _ => ?_
          cases h0 : strLt p.Valves[j].Name p.Valves[j + 1].Name
          · simp [hκ, hlt, hj, h1, h0, vlQ] at ha ⊢
            simp [valvesF, ha]
          · simp [hκ, hlt, hj, h1, h0]
            cases h2 : strLt p.Valves[j + 1].A p.Valves[j + 1].B
            · simp [hκ, hlt, hj, h1, h0, h2, vlQ] at ha ⊢
              simp [valvesF, ha]
            · simp [hκ, hlt, hj, h1, h0, h2]
              refine callK_of (l2Place_ok _ (by simp [hκ]) p _ (by omega)) ?_
              cases h3 : placeB p p.Valves[j + 1].A
              · simp [hκ, hlt, hj, h1, h0, h2, h3, vlQ] at ha ⊢
                simp [valvesF, ha]
              · simp [hκ, hlt, hj, h1, h0, h2, h3]
                refine callK_of (l2Place_ok _ (by simp [hκ]) p _ (by omega)) ?_
                cases h4 : placeB p p.Valves[j + 1].B
                · simp [hκ, hlt, hj, h1, h0, h2, h3, h4, vlQ] at ha ⊢
                  simp [valvesF, ha]
                · simp [hκ, hlt, hj, h1, h0, h2, h3, h4]
                  refine callK_of (l2NameOk_ok _ hm.2.2.2) ?_
                  cases h5 : nameOk p.Valves[j + 1].Station
                  · simp [hκ, hlt, hj, h1, h0, h2, h3, h4, h5, vlQ] at ha ⊢
                    simp [valvesF, ha]
                  · simp [hκ, hlt, hj, h1, h0, h2, h3, h4, h5, vlQ] at ha ⊢
                    refine andK_i (by omega) fun _ => ?_
                    exact again_i hJ (m := p.Valves.length - (j + 1 + 1)) (by omega) ⟨j + 1 + 1, rfl, by omega, by simpa [prevAt, hlt] using ha, by simp⟩
    · obtain rfl : i = p.Valves.length := by omega
      simp [allP] at ha
      simp [hκ, valvesF, ha, h14]
end Go.HT
end
section
namespace Go.HT
open Go Go.Proofs
set_option maxRecDepth 100000
set_option maxHeartbeats 1000000
set_option linter.unusedSimpArgs false
def md62 : Modes where
  call := callM
  br := fun _ => false
  plan := fun _ => .fin
@[simp] theorem md62_call (f i : Nat) : md62.call f i = callM f i := rfl
@[simp] theorem md62_br : md62.br = fun _ => false := rfl
def pairs (p : GPlant) : List A2 := p.Foes.map fun f => (f.A, f.B)
theorem pairs_ok (κ : Knd) (hκ : κ ≠ .own) (p : GPlant) (hl : p.Foes.length ≤ 1048576) :
    ACall PP 62 [.tmp (.agg [.tr (.sl κ () 1 (enc cS p.Stuffs)), .tr (.sl κ () 2 (enc cPlantFoe p.Foes)), .tr (.sl κ () 3 (enc cPlantPlace p.Places)), .tr (.sl κ () 4 (enc cPlantValve p.Valves))])] [] (.tmp (.tr (.sl .own () 2 (enc cA2 (pairs p))))) [] [] := by
  refine ACall_intro md62 (na := 1) (bx := []) (by kernel_rfl) Tryz.func62 rfl rfl rfl (by simp [noBoR, noBoV, noBoL, noBoT]) (by simp [noBoL, noBoT]) (by simp [noBoRow, noBoT]) rfl rfl ?_
  simp [hκ]
  refine vc_loop2 [2, 6, 7, 8] (fun m S => ∃ (i : Nat), m = p.Foes.length - i ∧ i ≤ p.Foes.length ∧
    S = [(2, .tmp (.tr (.sl .own () 2 (enc cA2 ((pairs p).take i))))), (6, .tmp (.tr (.sl κ () 2 (enc cPlantFoe p.Foes)))), (7, .tmp (.tr (.int .i64 p.Foes.length))), (8, .tmp (.tr (.int .i64 i)))]) p.Foes.length ?_ ?_
  · exact ⟨0, by simp, by simp, by simp⟩
  · rintro J hJ m S ⟨i, rfl, hi, rfl⟩
    by_cases hlt : i < p.Foes.length
    · have hlt2 : i < (pairs p).length := by simpa [pairs] using hlt
      have hg : (pairs p)[i] = (p.Foes[i].A, p.Foes[i].B) := by simp [pairs]
      have htk : (pairs p).take (i + 1) = (pairs p).take i ++ [(p.Foes[i].A, p.Foes[i].B)] := by rw [← hg]; simp
      have hln : (pairs p).length = p.Foes.length := by simp [pairs]
      simp [hκ, hlt, chunk]
      refine andK_i (by omega) fun _ => andK_i (by omega) fun _ => ?_
      exact again_i hJ (m := p.Foes.length - (i + 1)) (by omega) ⟨i + 1, rfl, by omega, by simp [htk]⟩
    · obtain rfl : i = p.Foes.length := by omega
      have htk : (pairs p).take p.Foes.length = pairs p := List.take_of_length_le (by simp [pairs])
      simp [hκ, htk]
end Go.HT
end
section
namespace Go.HT
open Go Go.Proofs
set_option maxRecDepth 100000
set_option maxHeartbeats 4000000
set_option linter.unusedSimpArgs false
set_option linter.unusedVariables false
def stQ (o : Option Str) (x : Str) : Bool := nameOk x && ltO o x
def foQ (st : List Str) (o : Option GPlantFoe) (x : GPlantFoe) : Bool := strLt x.A x.B && (decide (x.A ∈ st) && (decide (x.B ∈ st) && (match o with | none => true | some y => beforeF y x)))
def stuffsF (p : GPlant) : Bool := decide (p.Stuffs.length ≤ 8) && (decide (p.Foes.length ≤ 12) && (allP stQ none p.Stuffs && allP (foQ p.Stuffs) none p.Foes))
def md72 : Modes where
  call := callM
  br := fun _ => false
  plan := fun i => match i with
    | 6 => .take 0 (.take 1 (.take 2 (.take 3 (.take 4 (.any 5 (.take 6 (.take 7 (.take 8 (.take 9 (.take 10 (.take 11 (.take 12 (.take 13 (.take 14 (.take 15 (.take 16 (.take 17 (.take 18 (.take 19 (.take 20 (.take 21 (.take 22 (.take 23 (.take 24 (.fin)))))))))))))))))))) (.non))))))
    | 12 => .take 0 (.take 1 (.take 2 (.take 3 (.take 4 (.take 5 (.take 6 (.take 7 (.take 8 (.take 9 (.any 10 (.take 11 (.take 12 (.take 13 (.take 14 (.take 15 (.take 16 (.take 17 (.any 18 (.take 19 (.take 20 (.take 21 (.take 22 (.take 23 (.take 24 (.take 25 (.take 26 (.take 27 (.take 28 (.take 29 (.take 30 (.take 31 (.any 32 (.take 33 (.take 34 (.take 35 (.fin)))) (.non))))))))))))))) (.non))))))))) (.non)))))))))))
    | _ => .fin
@[simp] theorem md72_call (f i : Nat) : md72.call f i = callM f i := rfl
@[simp] theorem md72_br : md72.br = fun _ => false := rfl
@[simp] theorem md72_p6 : md72.plan 6 = .take 0 (.take 1 (.take 2 (.take 3 (.take 4 (.any 5 (.take 6 (.take 7 (.take 8 (.take 9 (.take 10 (.take 11 (.take 12 (.take 13 (.take 14 (.take 15 (.take 16 (.take 17 (.take 18 (.take 19 (.take 20 (.take 21 (.take 22 (.take 23 (.take 24 (.fin)))))))))))))))))))) (.non)))))) := rfl
@[simp] theorem md72_p12 : md72.plan 12 = .take 0 (.take 1 (.take 2 (.take 3 (.take 4 (.take 5 (.take 6 (.take 7 (.take 8 (.take 9 (.any 10 (.take 11 (.take 12 (.take 13 (.take 14 (.take 15 (.take 16 (.take 17 (.any 18 (.take 19 (.take 20 (.take 21 (.take 22 (.take 23 (.take 24 (.take 25 (.take 26 (.take 27 (.take 28 (.take 29 (.take 30 (.take 31 (.any 32 (.take 33 (.take 34 (.take 35 (.fin)))) (.non))))))))))))))) (.non))))))))) (.non))))))))))) := rfl
theorem l2StuffsOk_ok (κ : Knd) (hκ : κ ≠ .own) (p : GPlant) (hb : PB p) :
    ACall PP 72 [.tmp (.agg [.tr (.sl κ () 1 (enc cS p.Stuffs)), .tr (.sl κ () 2 (enc cPlantFoe p.Foes)), .tr (.sl κ () 3 (enc cPlantPlace p.Places)), .tr (.sl κ () 4 (enc cPlantValve p.Valves))])] []
      (.tmp (.tr (.bool (stuffsF p)))) [] [] := by
  refine ACall_intro md72 (na := 1) (bx := []) (by kernel_rfl) Tryz.func72 rfl rfl rfl (by simp [noBoR, noBoV, noBoL, noBoT]) (by simp [noBoL, noBoT]) (by simp [noBoRow, noBoT]) rfl rfl ?_
  have hl := hb.sl
  have hlf := hb.fl
  by_cases h8 : p.Stuffs.length ≤ 8
  case neg =>
    have h8' : (8 : Int) < p.Stuffs.length := by omega
    simp [hκ, h8']
    simp [stuffsF, h8]
  have h8' : ¬ (8 : Int) < p.Stuffs.length := by omega
  by_cases h12 : p.Foes.length ≤ 12
  case neg =>
    have h12' : (12 : Int) < p.Foes.length := by omega
    simp [hκ, h8', h12']
    simp [stuffsF, h8, h12]
  have h12' : ¬ (12 : Int) < p.Foes.length := by omega
  simp [hκ, h8', h12']
  refine vc_loop2 [1, 3] (fun m S => ∃ (i : Nat), m = p.Stuffs.length - i ∧ i ≤ p.Stuffs.length ∧ allP stQ none p.Stuffs = allP stQ (prevAt p.Stuffs i) (p.Stuffs.drop i) ∧
    S = [(1, .box () [.tr (.sl κ () 1 (enc cS p.Stuffs)), .tr (.sl κ () 2 (enc cPlantFoe p.Foes)), .tr (.sl κ () 3 (enc cPlantPlace p.Places)), .tr (.sl κ () 4 (enc cPlantValve p.Valves))]), (3, .tmp (.tr (.int .i64 i)))]) p.Stuffs.length ?_ ?_
  · exact ⟨0, by simp, by simp, by simp, by simp⟩
  · rintro J hJ m S ⟨i, rfl, hi, ha, rfl⟩
    by_cases hlt : i < p.Stuffs.length
    · have hd : p.Stuffs.drop i = p.Stuffs[i] :: p.Stuffs.drop (i + 1) := by simp
      have hm := hb.sm _ (List.getElem_mem hlt)
      rw [hd, allP] at ha
      simp [hκ, hlt]
      refine callK_of (l2NameOk_ok _ hm) ?_
      cases h1 : nameOk p.Stuffs[i]
      · simp [hκ, hlt, h1, stQ] at ha ⊢
        simp [stuffsF, ha]
      · cases i with
        | zero =>
          simp [hκ, hlt, h1, stQ] at ha ⊢
          exact again_i hJ (m := p.Stuffs.length - 1) (by omega) ⟨1, rfl, by omega, by simpa [prevAt, hlt, stQ] using ha, by simp⟩
        | succ j =>
          have hj : j < p.Stuffs.length := by omega
          have hlt' : (j : Int) + 1 < p.Stuffs.length := by omega
          have hn0 : (0 : Int) ≤ (j : Int) + 1 := by omega
          have hn1 : ((j : Int) + 1).toNat = j + 1 := by omega
          simp [hκ, hlt, h1, hj, hlt', hn0, hn1]
          refine andK_i (by omega) fun _ => ?_
          cases h4 : strLt p.Stuffs[j] p.Stuffs[j + 1]
          · simp [hκ, hlt, hj, h1, hlt', hn0, hn1, h4, stQ] at ha ⊢
            simp [stuffsF, ha]
          · simp [hκ, hlt, hj, h1, hlt', hn0, hn1, h4, stQ] at ha ⊢
            refine andK_i (by omega) fun _ => ?_
            exact again_i hJ (m := p.Stuffs.length - (j + 1 + 1)) (by omega) ⟨j + 1 + 1, rfl, by omega, by simpa [prevAt, hlt, stQ] using ha, by simp⟩
    · obtain rfl : i = p.Stuffs.length := by omega
      simp [allP] at ha
      have hs := ha
      clear ha
      simp [hκ]
      refine vc_loop2 [1, 4] (fun m S => ∃ (i : Nat), m = p.Foes.length - i ∧ i ≤ p.Foes.length ∧ allP (foQ p.Stuffs) none p.Foes = allP (foQ p.Stuffs) (prevAt p.Foes i) (p.Foes.drop i) ∧
        S = [(1, .box () [.tr (.sl κ () 1 (enc cS p.Stuffs)), .tr (.sl κ () 2 (enc cPlantFoe p.Foes)), .tr (.sl κ () 3 (enc cPlantPlace p.Places)), .tr (.sl κ () 4 (enc cPlantValve p.Valves))]), (4, .tmp (.tr (.int .i64 i)))]) p.Foes.length ?_ ?_
      · exact ⟨0, by simp, by simp, by simp, by simp⟩
      · rintro J2 hJ2 m S ⟨i, rfl, hi, ha, rfl⟩
        by_cases hlt : i < p.Foes.length
        · have hd : p.Foes.drop i = p.Foes[i] :: p.Foes.drop (i + 1) := by simp
          rw [hd, allP] at ha
          simp [hκ, hlt]
          cases h1 : strLt p.Foes[i].A p.Foes[i].B
          · simp [hκ, hlt, h1, foQ] at ha ⊢
            simp [stuffsF, ha]
          · simp [hκ, hlt, h1]
            refine callK_of (l2Has_ok _ (by simp [hκ]) p.Stuffs p.Foes[i].A (by omega)) ?_
            by_cases h2 : p.Foes[i].A ∈ p.Stuffs
            case neg =>
              simp [hκ, hlt, h1, h2, foQ] at ha ⊢
              simp [stuffsF, ha]
            simp [hκ, hlt, h1, h2]
            refine callK_of (l2Has_ok _ (by simp [hκ]) p.Stuffs p.Foes[i].B (by omega)) ?_
            by_cases h3 : p.Foes[i].B ∈ p.Stuffs
            case neg =>
              simp [hκ, hlt, h1, h2, h3, foQ] at ha ⊢
              simp [stuffsF, ha]
            cases i with
            | zero =>
              simp [hκ, hlt, h1, h2, h3, foQ] at ha ⊢
              exact again_i hJ2 (m := p.Foes.length - 1) (by omega) ⟨1, rfl, by omega, by simpa [prevAt, hlt, foQ] using ha, by simp⟩
            | succ j =>
              have hj : j < p.Foes.length := by omega
              simp [hκ, hlt, h1, h2, h3, hj]
              refine andK_i (by omega) fun _ => ?_
              refine callK_of (l2Before_ok p.Foes[j] p.Foes[j + 1]) ?_
              cases h4 : beforeF p.Foes[j] p.Foes[j + 1]
              · simp [hκ, hlt, hj, h1, h2, h3, h4, foQ] at ha ⊢
                simp [stuffsF, ha]
              · simp [hκ, hlt, hj, h1, h2, h3, h4, foQ] at ha ⊢
                refine andK_i (by omega) fun _ => ?_
                exact again_i hJ2 (m := p.Foes.length - (j + 1 + 1)) (by omega) ⟨j + 1 + 1, rfl, by omega, by simpa [prevAt, hlt, foQ] using ha, by simp⟩
        · obtain rfl : i = p.Foes.length := by omega
          simp [allP] at ha
          simp [hκ, stuffsF, hs, ha, h8, h12]
def md49 : Modes where
  call := callM
  br := fun _ => false
  plan := fun _ => .fin
@[simp] theorem md49_call (f i : Nat) : md49.call f i = callM f i := rfl
@[simp] theorem md49_br : md49.br = fun _ => false := rfl
def validF (p : GPlant) : Bool := stuffsF p && (placesF p.Places && valvesF p)
theorem PlantValidS_ok (κ : Knd) (hκ : κ ≠ .own) (p : GPlant) (hb : PB p) :
    ACall PP 49 [.tmp (.agg [.tr (.sl κ () 1 (enc cS p.Stuffs)), .tr (.sl κ () 2 (enc cPlantFoe p.Foes)), .tr (.sl κ () 3 (enc cPlantPlace p.Places)), .tr (.sl κ () 4 (enc cPlantValve p.Valves))])] []
      (.tmp (.tr (.bool (validF p)))) [] [] := by
  refine ACall_intro md49 (na := 1) (bx := []) (by kernel_rfl) Tryz.func49 rfl rfl rfl (by simp [noBoR, noBoV, noBoL, noBoT]) (by simp [noBoL, noBoT]) (by simp [noBoRow, noBoT]) rfl rfl ?_
  simp [hκ]
  refine callK_of (l2StuffsOk_ok _ (by simp [hκ]) p hb) ?_
  cases h1 : stuffsF p
  · simp [hκ, validF, h1]
  simp [hκ]
  refine callK_of (l2PlacesOk_ok _ (by simp [hκ]) p hb) ?_
  cases h2 : placesF p.Places
  · simp [hκ, validF, h1, h2]
  simp [hκ]
  refine callK_of (l2ValvesOk_ok _ (by simp [hκ]) p hb) ?_
  simp [hκ, validF, h1, h2]
end Go.HT
end
section
namespace Go.HT
open Go Go.Proofs
set_option maxRecDepth 100000
set_option maxHeartbeats 4000000
set_option linter.unusedSimpArgs false
set_option linter.unusedVariables false
def stationsS (p : GPlant) : List Str := if validF p = true then (p.Valves.map GPlantValve.Station).foldl (fun l s => insF s l) ((p.Places.map GPlantPlace.Station).foldl (fun l s => insF s l) []) else []
def md78 : Modes where
  call := callM
  br := fun _ => false
  plan := fun _ => .fin
@[simp] theorem md78_call (f i : Nat) : md78.call f i = callM f i := rfl
@[simp] theorem md78_br : md78.br = fun _ => false := rfl
theorem CtlStations_ok (κ : Knd) (hκ : κ ≠ .own) (p : GPlant) (hb : PB p) :
    ACall PP 78 [.tmp (.agg [.tr (.sl κ () 1 (enc cS p.Stuffs)), .tr (.sl κ () 2 (enc cPlantFoe p.Foes)), .tr (.sl κ () 3 (enc cPlantPlace p.Places)), .tr (.sl κ () 4 (enc cPlantValve p.Valves))])] [] (.tmp (.tr (.sl .own () 1 (enc cS (stationsS p))))) [] [] := by
  refine ACall_intro md78 (na := 1) (bx := []) (by kernel_rfl) Tryz.func78 rfl rfl rfl (by simp [noBoR, noBoV, noBoL, noBoT]) (by simp [noBoL, noBoT]) (by simp [noBoRow, noBoT]) rfl rfl ?_
  have b3 := hb.pl
  have b4 := hb.vl
  simp [hκ, chunk]
  refine callK_of (PlantValidS_ok _ (by simp [hκ]) p hb) ?_
  cases hv : validF p
  · simp [hκ, stationsS, hv]
  simp [hκ]
  refine vc_loop2 [1, 3, 4] (fun m S => ∃ (i : Nat) (o : List Str), m = p.Places.length - i ∧ i ≤ p.Places.length ∧ o.length ≤ i ∧ (p.Places.map GPlantPlace.Station).foldl (fun l s => insF s l) [] = ((p.Places.drop i).map GPlantPlace.Station).foldl (fun l s => insF s l) o ∧
    S = [(1, .box () [.tr (.sl κ () 1 (enc cS p.Stuffs)), .tr (.sl κ () 2 (enc cPlantFoe p.Foes)), .tr (.sl κ () 3 (enc cPlantPlace p.Places)), .tr (.sl κ () 4 (enc cPlantValve p.Valves))]), (3, .tmp (.tr (.sl .own () 1 (enc cS o)))), (4, .tmp (.tr (.int .i64 i)))]) p.Places.length ?_ ?_
  · exact ⟨0, [], by simp, by simp, by simp, by simp, by simp⟩
  rintro J hJ m S ⟨i, o, rfl, hi, ho, ha, rfl⟩
  by_cases hlt : i < p.Places.length
  · have hd : p.Places.drop i = p.Places[i] :: p.Places.drop (i + 1) := by simp
    rw [hd, List.map_cons, List.foldl_cons] at ha
    simp [hκ, hlt]
    refine callK_of (l4Insert_ok o p.Places[i].Station (by omega)) ?_
    have hw := insF_len p.Places[i].Station o
    simp [hκ, hlt]
    refine andK_i (by omega) fun _ => ?_
    exact again_i hJ (m := p.Places.length - (i + 1)) (by omega) ⟨i + 1, insF p.Places[i].Station o, rfl, by omega, by omega, ha, by simp⟩
  obtain rfl : i = p.Places.length := by omega
  simp at ha
  simp [hκ]
  refine vc_loop2 [1, 3, 5] (fun m S => ∃ (i : Nat) (o2 : List Str), m = p.Valves.length - i ∧ i ≤ p.Valves.length ∧ o2.length ≤ p.Places.length + i ∧ (p.Valves.map GPlantValve.Station).foldl (fun l s => insF s l) o = ((p.Valves.drop i).map GPlantValve.Station).foldl (fun l s => insF s l) o2 ∧
    S = [(1, .box () [.tr (.sl κ () 1 (enc cS p.Stuffs)), .tr (.sl κ () 2 (enc cPlantFoe p.Foes)), .tr (.sl κ () 3 (enc cPlantPlace p.Places)), .tr (.sl κ () 4 (enc cPlantValve p.Valves))]), (3, .tmp (.tr (.sl .own () 1 (enc cS o2)))), (5, .tmp (.tr (.int .i64 i)))]) p.Valves.length ?_ ?_
  · exact ⟨0, o, by simp, by simp, by omega, by simp, by simp⟩
  rintro J2 hJ2 m S ⟨i, o2, rfl, hi2, ho2, hb2, rfl⟩
  by_cases hlt : i < p.Valves.length
  · have hd : p.Valves.drop i = p.Valves[i] :: p.Valves.drop (i + 1) := by simp
    rw [hd, List.map_cons, List.foldl_cons] at hb2
    simp [hκ, hlt]
    refine callK_of (l4Insert_ok o2 p.Valves[i].Station (by omega)) ?_
    have hw := insF_len p.Valves[i].Station o2
    simp [hκ, hlt]
    refine andK_i (by omega) fun _ => ?_
    exact again_i hJ2 (m := p.Valves.length - (i + 1)) (by omega) ⟨i + 1, insF p.Valves[i].Station o2, rfl, by omega, by omega, hb2, by simp⟩
  obtain rfl : i = p.Valves.length := by omega
  simp at hb2
  simp [hκ, stationsS, hv, ha, hb2]
end Go.HT
end
section
namespace Go.HT
open Go Go.Proofs
set_option maxRecDepth 100000
set_option maxHeartbeats 4000000
set_option linter.unusedSimpArgs false
set_option linter.unusedVariables false
/-- Whose places and valves are the plant's. -/
structure WOk (p : GPlant) (w : GClaimWant) : Prop where
  u : ∀ x ∈ w.Uses, placeB p x.Name = true
  o : ∀ x ∈ w.Opens, valveB p x = true
  s : ∀ x ∈ w.Shuts, valveB p x = true
theorem ixP_at (p : GPlant) (n : Str) (h : placeB p n = true) : ∃ (j : Nat) (hj : j < p.Places.length), ixQ (fun x : GPlantPlace => decide (x.Name = n)) p.Places 0 = (j : Int) ∧ placeF p n = p.Places[j] := by
  rcases ix_find (fun x : GPlantPlace => decide (x.Name = n)) p.Places with ⟨h1, h2⟩ | ⟨j, hj, h1, h2⟩
  · simp [placeB, h2] at h
  · exact ⟨j, hj, h1, by simp [placeF, h2]⟩
theorem ixV_at (p : GPlant) (n : Str) (h : valveB p n = true) : ∃ (j : Nat) (hj : j < p.Valves.length), ixQ (fun x : GPlantValve => decide (x.Name = n)) p.Valves 0 = (j : Int) ∧ valveF p n = p.Valves[j] := by
  rcases ix_find (fun x : GPlantValve => decide (x.Name = n)) p.Valves with ⟨h1, h2⟩ | ⟨j, hj, h1, h2⟩
  · simp [valveB, h2] at h
  · exact ⟨j, hj, h1, by simp [valveF, h2]⟩
def md79 : Modes where
  call := callM
  br := fun i => i == 6 || i == 7
  plan := fun i => match i with
    | 1 => .take 0 (.take 1 (.take 2 (.take 3 (.take 4 (.take 5 (.any 6 (.take 7 (.any 8 (.any 9 (.fin) (.non)) (.non))) (.any 8 (.any 6 (.take 7 (.any 9 (.fin) (.non))) (.non)) (.non))))))))
    | 5 => .take 0 (.take 1 (.take 2 (.take 3 (.take 4 (.take 5 (.take 6 (.take 7 (.take 8 (.take 13 (.any 9 (.take 10 (.take 11 (.take 12 (.take 14 (.fin))))) (.non)))))))))))
    | 6 => .take 0 (.take 1 (.take 2 (.take 3 (.take 4 (.take 5 (.take 6 (.any 7 (.any 8 (.take 9 (.any 10 (.fin) (.non))) (.non)) (.non))))))))
    | 10 => .take 0 (.take 1 (.take 2 (.take 3 (.take 4 (.take 5 (.take 6 (.take 7 (.take 12 (.any 8 (.take 9 (.take 10 (.take 11 (.take 13 (.fin))))) (.non))))))))))
    | 11 => .take 0 (.take 1 (.take 2 (.take 3 (.take 4 (.take 5 (.take 6 (.any 7 (.any 8 (.take 9 (.any 10 (.fin) (.non))) (.non)) (.non))))))))
    | 15 => .take 0 (.take 1 (.take 2 (.take 3 (.take 4 (.take 5 (.take 6 (.take 7 (.take 12 (.any 8 (.take 9 (.take 10 (.take 11 (.take 13 (.fin))))) (.non))))))))))
    | 16 => .take 0 (.take 1 (.take 2 (.take 3 (.take 4 (.take 5 (.take 6 (.any 7 (.any 8 (.take 9 (.any 10 (.fin) (.non))) (.non)) (.non))))))))
    | _ => .fin
@[simp] theorem md79_call (f i : Nat) : md79.call f i = callM f i := rfl
@[simp] theorem md79_br : md79.br = fun i => i == 6 || i == 7 := rfl
@[simp] theorem md79_p1 : md79.plan 1 = .take 0 (.take 1 (.take 2 (.take 3 (.take 4 (.take 5 (.any 6 (.take 7 (.any 8 (.any 9 (.fin) (.non)) (.non))) (.any 8 (.any 6 (.take 7 (.any 9 (.fin) (.non))) (.non)) (.non)))))))) := rfl
@[simp] theorem md79_p5 : md79.plan 5 = .take 0 (.take 1 (.take 2 (.take 3 (.take 4 (.take 5 (.take 6 (.take 7 (.take 8 (.take 13 (.any 9 (.take 10 (.take 11 (.take 12 (.take 14 (.fin))))) (.non))))))))))) := rfl
@[simp] theorem md79_p6 : md79.plan 6 = .take 0 (.take 1 (.take 2 (.take 3 (.take 4 (.take 5 (.take 6 (.any 7 (.any 8 (.take 9 (.any 10 (.fin) (.non))) (.non)) (.non)))))))) := rfl
@[simp] theorem md79_p10 : md79.plan 10 = .take 0 (.take 1 (.take 2 (.take 3 (.take 4 (.take 5 (.take 6 (.take 7 (.take 12 (.any 8 (.take 9 (.take 10 (.take 11 (.take 13 (.fin))))) (.non)))))))))) := rfl
@[simp] theorem md79_p11 : md79.plan 11 = .take 0 (.take 1 (.take 2 (.take 3 (.take 4 (.take 5 (.take 6 (.any 7 (.any 8 (.take 9 (.any 10 (.fin) (.non))) (.non)) (.non)))))))) := rfl
@[simp] theorem md79_p15 : md79.plan 15 = .take 0 (.take 1 (.take 2 (.take 3 (.take 4 (.take 5 (.take 6 (.take 7 (.take 12 (.any 8 (.take 9 (.take 10 (.take 11 (.take 13 (.fin))))) (.non)))))))))) := rfl
@[simp] theorem md79_p16 : md79.plan 16 = .take 0 (.take 1 (.take 2 (.take 3 (.take 4 (.take 5 (.take 6 (.any 7 (.any 8 (.take 9 (.any 10 (.fin) (.non))) (.non)) (.non)))))))) := rfl
set_option maxHeartbeats 16000000 in
theorem l31Of_ok (κ κ' : Knd) (hκ : κ ≠ .own) (hκ' : κ' ≠ .own) (p : GPlant) (s : Str) (w : GClaimWant) (hw : WOk p w) (hpl : p.Places.length ≤ 1000) (hv : p.Valves.length ≤ 1000) (h1 : w.Stuffs.length ≤ 100000000) (h2 : w.Uses.length ≤ 100000000) (h3 : w.Opens.length ≤ 100000000) (h4 : w.Shuts.length ≤ 100000000) :
    ACall PP 79 [.tmp (.agg [.tr (.sl κ () 1 (enc cS p.Stuffs)), .tr (.sl κ () 2 (enc cPlantFoe p.Foes)), .tr (.sl κ () 3 (enc cPlantPlace p.Places)), .tr (.sl κ () 4 (enc cPlantValve p.Valves))]), .tmp (.tr (.str s)), .tmp (.agg [.tr (.int .i64 w.Number), .tr (.int .i64 w.Kind), .tr (.sl κ' () 1 (enc cS w.Stuffs)), .tr (.sl κ' () 3 (enc cClaimUse w.Uses)), .tr (.sl κ' () 1 (enc cS w.Opens)), .tr (.sl κ' () 1 (enc cS w.Shuts))])] [] (.tmp (.agg [.tr (.int .i64 (shareOf p w s).Number), .tr (.int .i64 (shareOf p w s).Kind), .tr (.sl .own () 1 (enc cS (shareOf p w s).Stuffs)), .tr (.sl .own () 3 (enc cClaimUse (shareOf p w s).Uses)), .tr (.sl .own () 1 (enc cS (shareOf p w s).Opens)), .tr (.sl .own () 1 (enc cS (shareOf p w s).Shuts))])) [] [] := by
  refine ACall_intro md79 (na := 3) (bx := []) (by kernel_rfl) Tryz.func79 rfl rfl rfl (by simp [noBoR, noBoV, noBoL, noBoT]) (by simp [noBoL, noBoT]) (by simp [noBoRow, noBoT]) rfl rfl ?_
  simp [-vcPlan_any, hκ, hκ']
  refine any2 (S' := ?_) (fun K hK => ?_) (fun K hK => ?_) ?_
  rotate_left
  · simp [-vcPlan_any, hκ, hκ']
    refine callK_of (l21Names_ok _ (by simp [hκ']) w.Stuffs (by omega)) ?_
    simp [-vcPlan_any, hκ, hκ']
    exact hK
  · simp [-vcPlan_any, hκ, hκ']
    refine callK_of (l21Names_ok _ (by simp [hκ']) w.Stuffs (by omega)) ?_
    simp [-vcPlan_any, hκ, hκ']
    exact hK
  simp [-vcPlan_any, hκ, hκ']
  refine vc_loop2 [1, 3, 5, 6, 7, 8] (fun m S => ∃ (i : Nat) (u : List GClaimUse), m = w.Uses.length - i ∧ i ≤ w.Uses.length ∧ u.length ≤ i ∧ w.Uses.filter (useAt p s) = u ++ (w.Uses.drop i).filter (useAt p s) ∧
    S = [(1, .tmp (.tr (.str s))), (3, .box () [.tr (.sl κ () 1 (enc cS p.Stuffs)), .tr (.sl κ () 2 (enc cPlantFoe p.Foes)), .tr (.sl κ () 3 (enc cPlantPlace p.Places)), .tr (.sl κ () 4 (enc cPlantValve p.Valves))]), (5, .box () [.tr (.int .i64 w.Number), .tr (.int .i64 w.Kind), .tr (.sl κ' () 1 (enc cS w.Stuffs)), .tr (.sl κ' () 3 (enc cClaimUse w.Uses)), .tr (.sl κ' () 1 (enc cS w.Opens)), .tr (.sl κ' () 1 (enc cS w.Shuts))]), (6, .box () [.tr (.int .i64 0), .tr (.int .i64 0), .tr (.sl .own () 1 []), .tr (.sl .own () 3 []), .tr (.sl .own () 1 []), .tr (.sl .own () 1 [])]), (7, .box () [.tr (.int .i64 w.Number), .tr (.int .i64 w.Kind), .tr (.sl .own () 1 (enc cS w.Stuffs)), .tr (.sl .own () 3 (enc cClaimUse u)), .tr (.sl .own () 1 []), .tr (.sl .own () 1 [])]), (8, .tmp (.tr (.int .i64 i)))]) w.Uses.length ?_ ?_
  · exact ⟨0, [], by simp, by simp, by simp, by simp, by simp⟩
  rintro J hJ m S ⟨i, u, rfl, hi, hu, ha, rfl⟩
  by_cases hlt : i < w.Uses.length
  · have hd : w.Uses.drop i = w.Uses[i] :: w.Uses.drop (i + 1) := by simp
    rw [hd, List.filter_cons] at ha
    obtain ⟨q, hq, e1, e2⟩ := ixP_at p w.Uses[i].Name (hw.u _ (List.getElem_mem hlt))
    have ct := l2Place_ok κ hκ p w.Uses[i].Name (by omega)
    rw [e1] at ct
    simp [-vcPlan_any, hκ, hκ', hlt]
    refine callK_of ct ?_
    by_cases c : p.Places[q].Station = s
    · have hq2 : useAt p s w.Uses[i] = true := by simp [useAt, e2, c]
      rw [hq2, if_pos rfl] at ha
      simp [-vcPlan_any, hκ, hκ', hlt, hq, c, chunk]
      refine andK_i (by omega) fun _ => andK_i (by omega) fun _ => ?_
      exact again_i hJ (m := w.Uses.length - (i + 1)) (by omega) ⟨i + 1, u ++ [w.Uses[i]], rfl, by omega, by simp; omega, by rw [ha, List.append_assoc]; rfl, by simp⟩
    · have hq2 : useAt p s w.Uses[i] = false := by simp [useAt, e2, c]
      rw [hq2] at ha
      simp [-vcPlan_any, hκ, hκ', hlt, hq, c]
      refine andK_i (by omega) fun _ => ?_
      exact again_i hJ (m := w.Uses.length - (i + 1)) (by omega) ⟨i + 1, u, rfl, by omega, by omega, by simpa using ha, by simp⟩
  obtain rfl : i = w.Uses.length := by omega
  rw [List.drop_length, List.filter_nil, List.append_nil] at ha
  subst ha
  clear hi hu
  simp [-vcPlan_any, hκ, hκ']
  refine vc_loop2 [1, 3, 5, 6, 7, 9] (fun m S => ∃ (i : Nat) (u : List Str), m = w.Opens.length - i ∧ i ≤ w.Opens.length ∧ u.length ≤ i ∧ w.Opens.filter (valveAt p s) = u ++ (w.Opens.drop i).filter (valveAt p s) ∧
    S = [(1, .tmp (.tr (.str s))), (3, .box () [.tr (.sl κ () 1 (enc cS p.Stuffs)), .tr (.sl κ () 2 (enc cPlantFoe p.Foes)), .tr (.sl κ () 3 (enc cPlantPlace p.Places)), .tr (.sl κ () 4 (enc cPlantValve p.Valves))]), (5, .box () [.tr (.int .i64 w.Number), .tr (.int .i64 w.Kind), .tr (.sl κ' () 1 (enc cS w.Stuffs)), .tr (.sl κ' () 3 (enc cClaimUse w.Uses)), .tr (.sl κ' () 1 (enc cS w.Opens)), .tr (.sl κ' () 1 (enc cS w.Shuts))]), (6, .box () [.tr (.int .i64 0), .tr (.int .i64 0), .tr (.sl .own () 1 []), .tr (.sl .own () 3 []), .tr (.sl .own () 1 []), .tr (.sl .own () 1 [])]), (7, .box () [.tr (.int .i64 w.Number), .tr (.int .i64 w.Kind), .tr (.sl .own () 1 (enc cS w.Stuffs)), .tr (.sl .own () 3 (enc cClaimUse (w.Uses.filter (useAt p s)))), .tr (.sl .own () 1 (enc cS u)), .tr (.sl .own () 1 [])]), (9, .tmp (.tr (.int .i64 i)))]) w.Opens.length ?_ ?_
  · exact ⟨0, [], by simp, by simp, by simp, by simp, by simp⟩
  rintro J2 hJ2 m S ⟨i, u, rfl, hi, hu, ha, rfl⟩
  by_cases hlt : i < w.Opens.length
  · have hd : w.Opens.drop i = w.Opens[i] :: w.Opens.drop (i + 1) := by simp
    rw [hd, List.filter_cons] at ha
    obtain ⟨q, hq, e1, e2⟩ := ixV_at p w.Opens[i] (hw.o _ (List.getElem_mem hlt))
    have ct := l2Valve_ok κ hκ p w.Opens[i] (by omega)
    rw [e1] at ct
    simp [-vcPlan_any, hκ, hκ', hlt]
    refine callK_of ct ?_
    by_cases c : p.Valves[q].Station = s
    · have hq2 : valveAt p s w.Opens[i] = true := by simp [valveAt, e2, c]
      rw [hq2, if_pos rfl] at ha
      simp [-vcPlan_any, hκ, hκ', hlt, hq, c, chunk]
      refine andK_i (by omega) fun _ => andK_i (by omega) fun _ => ?_
      exact again_i hJ2 (m := w.Opens.length - (i + 1)) (by omega) ⟨i + 1, u ++ [w.Opens[i]], rfl, by omega, by simp; omega, by rw [ha, List.append_assoc]; rfl, by simp⟩
    · have hq2 : valveAt p s w.Opens[i] = false := by simp [valveAt, e2, c]
      rw [hq2] at ha
      simp [-vcPlan_any, hκ, hκ', hlt, hq, c]
      refine andK_i (by omega) fun _ => ?_
      exact again_i hJ2 (m := w.Opens.length - (i + 1)) (by omega) ⟨i + 1, u, rfl, by omega, by omega, by simpa using ha, by simp⟩
  obtain rfl : i = w.Opens.length := by omega
  rw [List.drop_length, List.filter_nil, List.append_nil] at ha
  subst ha
  clear hi hu
  simp [-vcPlan_any, hκ, hκ']
  refine vc_loop2 [1, 3, 5, 6, 7, 10] (fun m S => ∃ (i : Nat) (u : List Str), m = w.Shuts.length - i ∧ i ≤ w.Shuts.length ∧ u.length ≤ i ∧ w.Shuts.filter (valveAt p s) = u ++ (w.Shuts.drop i).filter (valveAt p s) ∧
    S = [(1, .tmp (.tr (.str s))), (3, .box () [.tr (.sl κ () 1 (enc cS p.Stuffs)), .tr (.sl κ () 2 (enc cPlantFoe p.Foes)), .tr (.sl κ () 3 (enc cPlantPlace p.Places)), .tr (.sl κ () 4 (enc cPlantValve p.Valves))]), (5, .box () [.tr (.int .i64 w.Number), .tr (.int .i64 w.Kind), .tr (.sl κ' () 1 (enc cS w.Stuffs)), .tr (.sl κ' () 3 (enc cClaimUse w.Uses)), .tr (.sl κ' () 1 (enc cS w.Opens)), .tr (.sl κ' () 1 (enc cS w.Shuts))]), (6, .box () [.tr (.int .i64 0), .tr (.int .i64 0), .tr (.sl .own () 1 []), .tr (.sl .own () 3 []), .tr (.sl .own () 1 []), .tr (.sl .own () 1 [])]), (7, .box () [.tr (.int .i64 w.Number), .tr (.int .i64 w.Kind), .tr (.sl .own () 1 (enc cS w.Stuffs)), .tr (.sl .own () 3 (enc cClaimUse (w.Uses.filter (useAt p s)))), .tr (.sl .own () 1 (enc cS (w.Opens.filter (valveAt p s)))), .tr (.sl .own () 1 (enc cS u))]), (10, .tmp (.tr (.int .i64 i)))]) w.Shuts.length ?_ ?_
  · exact ⟨0, [], by simp, by simp, by simp, by simp, by simp⟩
  rintro J3 hJ3 m S ⟨i, u, rfl, hi, hu, ha, rfl⟩
  by_cases hlt : i < w.Shuts.length
  · have hd : w.Shuts.drop i = w.Shuts[i] :: w.Shuts.drop (i + 1) := by simp
    rw [hd, List.filter_cons] at ha
    obtain ⟨q, hq, e1, e2⟩ := ixV_at p w.Shuts[i] (hw.s _ (List.getElem_mem hlt))
    have ct := l2Valve_ok κ hκ p w.Shuts[i] (by omega)
    rw [e1] at ct
    simp [-vcPlan_any, hκ, hκ', hlt]
    refine callK_of ct ?_
    by_cases c : p.Valves[q].Station = s
    · have hq2 : valveAt p s w.Shuts[i] = true := by simp [valveAt, e2, c]
      rw [hq2, if_pos rfl] at ha
      simp [-vcPlan_any, hκ, hκ', hlt, hq, c, chunk]
      refine andK_i (by omega) fun _ => andK_i (by omega) fun _ => ?_
      exact again_i hJ3 (m := w.Shuts.length - (i + 1)) (by omega) ⟨i + 1, u ++ [w.Shuts[i]], rfl, by omega, by simp; omega, by rw [ha, List.append_assoc]; rfl, by simp⟩
    · have hq2 : valveAt p s w.Shuts[i] = false := by simp [valveAt, e2, c]
      rw [hq2] at ha
      simp [-vcPlan_any, hκ, hκ', hlt, hq, c]
      refine andK_i (by omega) fun _ => ?_
      exact again_i hJ3 (m := w.Shuts.length - (i + 1)) (by omega) ⟨i + 1, u, rfl, by omega, by omega, by simpa using ha, by simp⟩
  obtain rfl : i = w.Shuts.length := by omega
  rw [List.drop_length, List.filter_nil, List.append_nil] at ha
  subst ha
  clear hi hu
  simp [-vcPlan_any, hκ, hκ']
  simp [shareOf]
end Go.HT
end
section
namespace Go.HT
open Go Go.Proofs
set_option maxRecDepth 100000
set_option maxHeartbeats 4000000
set_option linter.unusedSimpArgs false
set_option linter.unusedVariables false
theorem ins_fold_len : ∀ (l o : List Str), (l.foldl (fun l s => insF s l) o).length ≤ o.length + l.length
  | [], o => by simp
  | s :: r, o => by
    have := ins_fold_len r (insF s o)
    have := insF_len s o
    simp; omega
theorem stationsS_len (p : GPlant) : (stationsS p).length ≤ p.Places.length + p.Valves.length := by
  unfold stationsS
  split
  · have h1 := ins_fold_len (p.Places.map GPlantPlace.Station) []
    have h2 := ins_fold_len (p.Valves.map GPlantValve.Station) ((p.Places.map GPlantPlace.Station).foldl (fun l s => insF s l) [])
    simp at h1 h2 ⊢; omega
  · simp
def md54 : Modes where
  call := callM
  br := fun _ => false
  plan := fun i => match i with
    | 6 => .take 0 (.take 1 (.take 2 (.take 3 (.take 4 (.take 5 (.any 6 (.any 7 (.any 8 (.fin) (.non)) (.non)) (.any 7 (.any 6 (.any 8 (.fin) (.non)) (.non)) (.non))))))))
    | 8 => .take 0 (.take 1 (.take 2 (.take 3 (.take 4 (.take 5 (.take 6 (.any 7 (.any 8 (.take 9 (.fin)) (.non)) (.non))))))))
    | _ => .fin
@[simp] theorem md54_call (f i : Nat) : md54.call f i = callM f i := rfl
@[simp] theorem md54_br : md54.br = fun _ => false := rfl
@[simp] theorem md54_p6 : md54.plan 6 = .take 0 (.take 1 (.take 2 (.take 3 (.take 4 (.take 5 (.any 6 (.any 7 (.any 8 (.fin) (.non)) (.non)) (.any 7 (.any 6 (.any 8 (.fin) (.non)) (.non)) (.non)))))))) := rfl
@[simp] theorem md54_p8 : md54.plan 8 = .take 0 (.take 1 (.take 2 (.take 3 (.take 4 (.take 5 (.take 6 (.any 7 (.any 8 (.take 9 (.fin)) (.non)) (.non)))))))) := rfl
set_option maxHeartbeats 16000000 in
theorem l31Asks_ok (κ κ' : Knd) (hκ : κ ≠ .own) (hκ' : κ' ≠ .own) (p : GPlant) (w : GClaimWant) (hb : PB p) (hw : WOk p w) (hpl : p.Places.length ≤ 1000) (hv : p.Valves.length ≤ 1000) (h1 : w.Stuffs.length ≤ 100000000) (h2 : w.Uses.length ≤ 100000000) (h3 : w.Opens.length ≤ 100000000) (h4 : w.Shuts.length ≤ 100000000) :
    ACall PP 54 [.tmp (.agg [.tr (.sl κ () 1 (enc cS p.Stuffs)), .tr (.sl κ () 2 (enc cPlantFoe p.Foes)), .tr (.sl κ () 3 (enc cPlantPlace p.Places)), .tr (.sl κ () 4 (enc cPlantValve p.Valves))]), .tmp (.agg [.tr (.int .i64 w.Number), .tr (.int .i64 w.Kind), .tr (.sl κ' () 1 (enc cS w.Stuffs)), .tr (.sl κ' () 3 (enc cClaimUse w.Uses)), .tr (.sl κ' () 1 (enc cS w.Opens)), .tr (.sl κ' () 1 (enc cS w.Shuts))])] [] (.tmp (.tr (.sl .own () 7 (enc (cCtlAsk .own) (sharedL p w (stationsS p)))))) [] [] := by
  refine ACall_intro md54 (na := 2) (bx := []) (by kernel_rfl) Tryz.func54 rfl rfl rfl (by simp [noBoR, noBoV, noBoL, noBoT]) (by simp [noBoL, noBoT]) (by simp [noBoRow, noBoT]) rfl rfl ?_
  have hst := stationsS_len p
  simp [hκ, hκ', chunk]
  refine callK_of (CtlStations_ok _ (by simp [hκ]) p hb) ?_
  generalize stationsS p = L at *
  simp [hκ, hκ']
  refine vc_loop2 [2, 3, 5, 6, 7] (fun m S => ∃ (i : Nat) (o : List GCtlAsk), m = L.length - i ∧ i ≤ L.length ∧ o.length ≤ i ∧ sharedL p w L = o ++ sharedL p w (L.drop i) ∧
    S = [(2, .box () [.tr (.sl κ () 1 (enc cS p.Stuffs)), .tr (.sl κ () 2 (enc cPlantFoe p.Foes)), .tr (.sl κ () 3 (enc cPlantPlace p.Places)), .tr (.sl κ () 4 (enc cPlantValve p.Valves))]), (3, .box () [.tr (.int .i64 w.Number), .tr (.int .i64 w.Kind), .tr (.sl κ' () 1 (enc cS w.Stuffs)), .tr (.sl κ' () 3 (enc cClaimUse w.Uses)), .tr (.sl κ' () 1 (enc cS w.Opens)), .tr (.sl κ' () 1 (enc cS w.Shuts))]), (5, .tmp (.tr (.sl .own () 7 (enc (cCtlAsk .own) o)))), (6, .tmp (.tr (.sl .own () 1 (enc cS L)))), (7, .tmp (.tr (.int .i64 i)))]) L.length ?_ ?_
  · exact ⟨0, [], by simp, by simp, by simp, by simp, by simp⟩
  rintro J hJ m S ⟨i, o, rfl, hi, ho, ha, rfl⟩
  by_cases hlt : i < L.length
  · have hd : L.drop i = L[i] :: L.drop (i + 1) := by simp
    rw [hd] at ha
    have q := l31Of_ok κ κ' hκ hκ' p L[i] w hw hpl hv h1 h2 h3 h4
    simp [-vcPlan_any, hκ, hκ', hlt]
    refine any2 (S' := ?_) (fun K hK => ?_) (fun K hK => ?_) ?_
    rotate_left
    · simp [-vcPlan_any, hκ, hκ', hlt]
      refine callK_of q ?_
      simp [-vcPlan_any, hκ, hκ', hlt]
      exact hK
    · simp [-vcPlan_any, hκ, hκ', hlt]
      refine callK_of q ?_
      simp [-vcPlan_any, hκ, hκ', hlt]
      exact hK
    have hsh : sharedL p w (L[i] :: L.drop (i + 1)) = (if some1 ⟨L[i], shareOf p w L[i]⟩ = true then [(⟨L[i], shareOf p w L[i]⟩ : GCtlAsk)] else []) ++ sharedL p w (L.drop (i + 1)) := by
      simp only [sharedL, List.map_cons, List.filter_cons]
      split <;> simp
    rw [hsh] at ha
    have hl1 : (shareOf p w L[i]).Uses.length ≤ w.Uses.length := List.length_filter_le _ _
    have hl2 : (shareOf p w L[i]).Opens.length ≤ w.Opens.length := List.length_filter_le _ _
    have hl3 : (shareOf p w L[i]).Shuts.length ≤ w.Shuts.length := List.length_filter_le _ _
    have X : some1 ⟨L[i], shareOf p w L[i]⟩ = decide (0 < (shareOf p w L[i]).Uses.length + (shareOf p w L[i]).Opens.length + (shareOf p w L[i]).Shuts.length) := rfl
    generalize shareOf p w L[i] = Y at *
    simp [-vcPlan_any, hκ, hκ', hlt, chunk]
    refine andK_i (by omega) fun _ => andK_i (by omega) fun _ => condK_i (fun hp => ?_) (fun hp => ?_)
    · refine andK_i (by omega) fun _ => andK_i (by omega) fun _ => ?_
      have h1 : some1 ⟨L[i], Y⟩ = true := by rw [X, decide_eq_true_eq]; omega
      rw [if_pos h1] at ha
      exact again_i hJ (m := L.length - (i + 1)) (by omega) ⟨i + 1, o ++ [⟨L[i], Y⟩], rfl, by omega, by simp; omega, by rw [ha, List.append_assoc], by simp⟩
    · refine andK_i (by omega) fun _ => ?_
      have h1 : ¬ some1 ⟨L[i], Y⟩ = true := by rw [X, decide_eq_true_eq]; omega
      rw [if_neg h1] at ha
      exact again_i hJ (m := L.length - (i + 1)) (by omega) ⟨i + 1, o, rfl, by omega, by omega, by rw [ha]; simp, by simp⟩
  obtain rfl : i = L.length := by omega
  rw [List.drop_length, show sharedL p w [] = [] from rfl, List.append_nil] at ha
  simp [hκ, hκ', ha]
end Go.HT
end
section
namespace Go.HT
open Go Go.Proofs
set_option maxRecDepth 100000
set_option maxHeartbeats 4000000
set_option linter.unusedSimpArgs false
set_option linter.unusedVariables false
def plcQ (p : GPlant) (o : Option Str) (x : Str) : Bool := placeB p x && (match o with | none => true | some y => strLt y x)
def placesSF (p : GPlant) (l : List Str) : Bool := decide (1 ≤ l.length) && (decide (l.length ≤ 8) && allP (plcQ p) none l)
theorem ix_cases' {α : Type} (q : α → Bool) (l : List α) : (ixQ q l 0 < 0) = ((l.find? q).isSome = false) := by
  rcases ix_find q l with ⟨h1, h2⟩ | ⟨j, hj, h1, h2⟩
  · simp [h1, h2]
  · simp [h1, h2]
@[simp] theorem ixP_lt' (p : GPlant) (n : Str) : (ixQ (fun x : GPlantPlace => decide (x.Name = n)) p.Places 0 < 0) = (placeB p n = false) := ix_cases' _ _
def md55 : Modes where
  call := callM
  br := fun _ => false
  plan := fun i => match i with
    | 6 => .take 0 (.take 1 (.take 2 (.take 3 (.take 4 (.any 5 (.take 6 (.take 7 (.take 8 (.take 9 (.take 10 (.take 11 (.take 12 (.take 13 (.take 14 (.take 15 (.take 16 (.take 17 (.take 18 (.take 19 (.take 20 (.take 21 (.take 22 (.fin)))))))))))))))))) (.non))))))
    | _ => .fin
@[simp] theorem md55_call (f i : Nat) : md55.call f i = callM f i := rfl
@[simp] theorem md55_br : md55.br = fun _ => false := rfl
@[simp] theorem md55_p6 : md55.plan 6 = .take 0 (.take 1 (.take 2 (.take 3 (.take 4 (.any 5 (.take 6 (.take 7 (.take 8 (.take 9 (.take 10 (.take 11 (.take 12 (.take 13 (.take 14 (.take 15 (.take 16 (.take 17 (.take 18 (.take 19 (.take 20 (.take 21 (.take 22 (.fin)))))))))))))))))) (.non)))))) := rfl
theorem l31PlacesOk_ok (κ κ' : Knd) (hκ : κ ≠ .own) (hκ' : κ' ≠ .own) (p : GPlant) (l : List Str) (hl : p.Places.length ≤ 1048576) (h1 : l.length ≤ 1048576) :
    ACall PP 55 [.tmp (.agg [.tr (.sl κ () 1 (enc cS p.Stuffs)), .tr (.sl κ () 2 (enc cPlantFoe p.Foes)), .tr (.sl κ () 3 (enc cPlantPlace p.Places)), .tr (.sl κ () 4 (enc cPlantValve p.Valves))]), .tmp (.tr (.sl κ' () 1 (enc cS l)))] [] (.tmp (.tr (.bool (placesSF p l)))) [] [] := by
  refine ACall_intro md55 (na := 2) (bx := []) (by kernel_rfl) Tryz.func55 rfl rfl rfl (by simp [noBoR, noBoV, noBoL, noBoT]) (by simp [noBoL, noBoT]) (by simp [noBoRow, noBoT]) rfl rfl ?_
  by_cases c1 : l = []
  · subst c1
    simp [hκ, hκ']
    simp [placesSF]
  have c1' : ¬ l.length = 0 := by simpa using c1
  have c1'' : 1 ≤ l.length := by omega
  by_cases c2 : l.length ≤ 8
  case neg =>
    have c2' : (8 : Int) < l.length := by omega
    simp [hκ, hκ', c1, c2']
    simp [placesSF, c2]
  have c2' : ¬ (8 : Int) < l.length := by omega
  simp [hκ, hκ', c1, c2']
  refine vc_loop2 [1, 2, 5] (fun m S => ∃ (i : Nat), m = l.length - i ∧ i ≤ l.length ∧ allP (plcQ p) none l = allP (plcQ p) (prevAt l i) (l.drop i) ∧
    S = [(1, .tmp (.tr (.sl κ' () 1 (enc cS l)))), (2, .box () [.tr (.sl κ () 1 (enc cS p.Stuffs)), .tr (.sl κ () 2 (enc cPlantFoe p.Foes)), .tr (.sl κ () 3 (enc cPlantPlace p.Places)), .tr (.sl κ () 4 (enc cPlantValve p.Valves))]), (5, .tmp (.tr (.int .i64 i)))]) l.length ?_ ?_
  · exact ⟨0, by simp, by simp, by simp, by simp⟩
  rintro J hJ m S ⟨i, rfl, hi, ha, rfl⟩
  have bad : allP (plcQ p) none l = false → placesSF p l = false := fun h => by simp only [placesSF, h]; simp
  by_cases hlt : i < l.length
  · have hd : l.drop i = l[i] :: l.drop (i + 1) := by simp
    rw [hd, allP] at ha
    have fail : plcQ p (prevAt l i) l[i] = false → placesSF p l = false := fun h => bad (by rw [ha, h, Bool.false_and])
    simp [hκ, hκ', hlt]
    refine callK_of (l2Place_ok _ (by simp [hκ]) p _ (by omega)) ?_
    cases h1 : placeB p l[i]
    · simp [hκ, hκ', hlt, h1]
      rw [fail (by simp [plcQ, h1])]
    cases i with
    | zero =>
      simp [hκ, hκ', hlt, h1]
      refine again_i hJ (m := l.length - 1) (by omega) ⟨1, rfl, by omega, ?_, by simp⟩
      rw [ha]; simp [plcQ, h1, hlt]
    | succ j =>
      have hj : j < l.length := by omega
      have n1 : ((j : Int) + 1).toNat = j + 1 := by omega
      have n2 : ((0 : Int) ≤ (j : Int) + 1) = True := eq_true (by omega)
      have n3 : ((j : Int) + 1 < l.length) = True := eq_true (by omega)
      simp [hκ, hκ', hlt, h1, hj, n1, n2, n3]
      refine andK_i (by omega) fun _ => ?_
      cases h2 : strLt l[j] l[j + 1]
      · simp [hκ, hκ', hlt, hj, h1, h2, n1, n2, n3]
        rw [fail (by simp [plcQ, h1, h2, hj])]
      simp [hκ, hκ', hlt, hj, h1, h2, n1, n2, n3]
      refine andK_i (by omega) fun _ => ?_
      refine again_i hJ (m := l.length - (j + 1 + 1)) (by omega) ⟨j + 1 + 1, rfl, by omega, ?_, by simp⟩
      rw [ha]; simp [plcQ, h1, h2, hj, hlt, prevAt]
  obtain rfl : i = l.length := by omega
  have ha : allP (plcQ p) none l = true := by simpa [allP] using ha
  simp [hκ, hκ', placesSF, ha, c1'', c2]
end Go.HT
end
section
namespace Go.HT
open Go Go.Proofs
set_option maxRecDepth 100000
set_option maxHeartbeats 1000000
set_option linter.unusedSimpArgs false
def md56 : Modes where
  call := callM
  br := fun _ => false
  plan := fun _ => .fin
@[simp] theorem md56_call (f i : Nat) : md56.call f i = callM f i := rfl
@[simp] theorem md56_br : md56.br = fun _ => false := rfl
theorem l4Beside_ok (κ : Knd) (hκ : κ ≠ .own) (p : GPlant) (s : Str) (hl : p.Valves.length ≤ 1048576) :
    ACall PP 56 [.tmp (.agg [.tr (.sl κ () 1 (enc cS p.Stuffs)), .tr (.sl κ () 2 (enc cPlantFoe p.Foes)), .tr (.sl κ () 3 (enc cPlantPlace p.Places)), .tr (.sl κ () 4 (enc cPlantValve p.Valves))]), .tmp (.tr (.str s))] []
      (.tmp (.tr (.sl .own () 1 (enc cS (besideF p s))))) [] [] := by
  refine ACall_intro md56 (na := 2) (bx := []) (by kernel_rfl) Tryz.func56 rfl rfl rfl (by simp [noBoR, noBoV, noBoL, noBoT]) (by simp [noBoL, noBoT]) (by simp [noBoRow, noBoT]) rfl rfl ?_
  simp [hκ, chunk]
  refine vc_loop2 [1, 2, 5, 6] (fun m S => ∃ (i : Nat) (o : List Str), m = p.Valves.length - i ∧ i ≤ p.Valves.length ∧ o.length ≤ i ∧ besideF p s = o ++ ((p.Valves.drop i).filter (besQ s)).map GPlantValve.Name ∧
    S = [(1, .tmp (.tr (.str s))), (2, .box () [.tr (.sl κ () 1 (enc cS p.Stuffs)), .tr (.sl κ () 2 (enc cPlantFoe p.Foes)), .tr (.sl κ () 3 (enc cPlantPlace p.Places)), .tr (.sl κ () 4 (enc cPlantValve p.Valves))]), (5, .tmp (.tr (.sl .own () 1 (enc cS o)))), (6, .tmp (.tr (.int .i64 i)))]) p.Valves.length ?_ ?_
  · exact ⟨0, [], by simp, by simp, by simp, by simp [besideF], by simp⟩
  · rintro J hJ m S ⟨i, o, rfl, hi, ho, ha, rfl⟩
    by_cases hlt : i < p.Valves.length
    · have hd : p.Valves.drop i = p.Valves[i] :: p.Valves.drop (i + 1) := by simp
      rw [hd, List.filter_cons] at ha
      by_cases h1 : p.Valves[i].A = s
      · simp [besQ, h1] at ha
        simp [hκ, hlt, h1, chunk]
        refine andK_i (by omega) fun _ => andK_i (by omega) fun _ => ?_
        exact again_i hJ (m := p.Valves.length - (i + 1)) (by omega) ⟨i + 1, o ++ [p.Valves[i].Name], rfl, by omega, by simp; omega, by simpa [besQ] using ha, by simp⟩
      · by_cases h2 : p.Valves[i].B = s
        · simp [besQ, h1, h2] at ha
          simp [hκ, hlt, h1, h2, chunk]
          refine andK_i (by omega) fun _ => andK_i (by omega) fun _ => ?_
          exact again_i hJ (m := p.Valves.length - (i + 1)) (by omega) ⟨i + 1, o ++ [p.Valves[i].Name], rfl, by omega, by simp; omega, by simpa [besQ] using ha, by simp⟩
        · simp [besQ, h1, h2] at ha
          simp [hκ, hlt, h1, h2, chunk]
          refine andK_i (by omega) fun _ => ?_
          exact again_i hJ (m := p.Valves.length - (i + 1)) (by omega) ⟨i + 1, o, rfl, by omega, by omega, by simpa [besQ] using ha, by simp⟩
    · obtain rfl : i = p.Valves.length := by omega
      simp at ha
      simp [hκ, ha]
end Go.HT
end
section
namespace Go.HT
open Go Go.Proofs
set_option maxRecDepth 100000
set_option maxHeartbeats 4000000
set_option linter.unusedSimpArgs false
set_option linter.unusedVariables false
theorem ownOnly_enc {α : Type} {c : α → List UT} (h : ∀ x, ownOnlyRow (c x) = true) (l : List α) : ownOnlyRows (enc c l) = true := by
  induction l with
  | nil => rfl
  | cons s r ih => rw [enc_cons]; simp [ownOnlyRows, h, ih]
theorem ownOnly_S (l : List Str) : ownOnlyRows (enc cS l) = true := ownOnly_enc (fun x => by simp [ownOnlyRow, ownOnly]) l
theorem ownOnly_U (l : List GClaimUse) : ownOnlyRows (enc cClaimUse l) = true := ownOnly_enc (fun x => by simp [ownOnlyRow, ownOnly]) l
theorem ownOnly_A (l : List GCtlAsk) : ownOnlyRows (enc (cCtlAsk .own) l) = true := ownOnly_enc (fun x => by simp [ownOnlyRow, ownOnly, ownOnly_S, ownOnly_U]) l
theorem shRows_enc {α : Type} {c : α → List UT} (h : ∀ x, shRow (c x) = c x) (l : List α) : shRows (enc c l) = enc c l := by
  induction l with
  | nil => rfl
  | cons s r ih => rw [enc_cons, shRows, h, ih]
@[simp] theorem sh_S (l : List Str) : shRows (enc cS l) = enc cS l := shRows_enc (fun x => by simp [shRow, shT]) l
@[simp] theorem sh_U (l : List GClaimUse) : shRows (enc cClaimUse l) = enc cClaimUse l := shRows_enc (fun x => by simp [shRow, shT]) l
@[simp] theorem sh_F (l : List GPlantFoe) : shRows (enc cPlantFoe l) = enc cPlantFoe l := shRows_enc (fun x => by simp [shRow, shT]) l
@[simp] theorem sh_P (l : List GPlantPlace) : shRows (enc cPlantPlace l) = enc cPlantPlace l := shRows_enc (fun x => by simp [shRow, shT]) l
@[simp] theorem sh_V (l : List GPlantValve) : shRows (enc cPlantValve l) = enc cPlantValve l := shRows_enc (fun x => by simp [shRow, shT]) l
theorem shared_bo (p : GPlant) (w : GClaimWant) (hpl : p.Places.length ≤ 1000) (hv : p.Valves.length ≤ 1000) (h1 : w.Stuffs.length ≤ 1048576) (h2 : w.Uses.length ≤ 1048576) (h3 : w.Opens.length ≤ 1048576) (h4 : w.Shuts.length ≤ 1048576) :
    ACall PP 88 [.tmp (.agg [.tr (.sl .bo () 1 (enc cS p.Stuffs)), .tr (.sl .bo () 2 (enc cPlantFoe p.Foes)), .tr (.sl .bo () 3 (enc cPlantPlace p.Places)), .tr (.sl .bo () 4 (enc cPlantValve p.Valves))]), .tmp (.agg [.tr (.int .i64 w.Number), .tr (.int .i64 w.Kind), .tr (.sl .bo () 1 (enc cS w.Stuffs)), .tr (.sl .bo () 3 (enc cClaimUse w.Uses)), .tr (.sl .bo () 1 (enc cS w.Opens)), .tr (.sl .bo () 1 (enc cS w.Shuts))])] [] (.tmp (.tr (.sl .own () 7 (enc (cCtlAsk .own) (sharedL p w (stationsF p)))))) [] [] := by
  refine ACall_sh ?_ (by simp [plainE, plainV, plainC, plainT]) (by simp [ownOnlyR, ownOnly, ownOnly_A])
  simpa [shE, shV, shT] using shared_ok .sh (by simp) p w hpl hv h1 h2 h3 h4
end Go.HT
end
section
namespace Go.HT
open Go Go.Proofs
set_option maxRecDepth 100000
set_option maxHeartbeats 4000000
set_option linter.unusedSimpArgs false
set_option linter.unusedVariables false
def gdQ (r : GPlantRoute) (v : GPlantValve) : Bool := (decide (v.A ∈ r.Places) || decide (v.B ∈ r.Places)) && !decide (v.Name ∈ r.Valves)
def guardsF (p : GPlant) (r : GPlantRoute) : List Str := (p.Valves.filter (gdQ r)).map GPlantValve.Name
def md85 : Modes where
  call := callM
  br := fun _ => false
  plan := fun _ => .fin
@[simp] theorem md85_call (f i : Nat) : md85.call f i = callM f i := rfl
@[simp] theorem md85_br : md85.br = fun _ => false := rfl
theorem guards_ok (κ κ' : Knd) (hκ : κ ≠ .own) (hκ' : κ' ≠ .own) (p : GPlant) (r : GPlantRoute) (hl : p.Valves.length ≤ 1048576) (h1 : r.Places.length ≤ 1048576) (h2 : r.Valves.length ≤ 1048576) :
    ACall PP 85 [.tmp (.agg [.tr (.sl κ () 1 (enc cS p.Stuffs)), .tr (.sl κ () 2 (enc cPlantFoe p.Foes)), .tr (.sl κ () 3 (enc cPlantPlace p.Places)), .tr (.sl κ () 4 (enc cPlantValve p.Valves))]), .tmp (.agg [.tr (.sl κ' () 1 (enc cS r.Places)), .tr (.sl κ' () 1 (enc cS r.Valves))])] [] (.tmp (.tr (.sl .own () 1 (enc cS (guardsF p r))))) [] [] := by
  refine ACall_intro md85 (na := 2) (bx := []) (by kernel_rfl) Tryz.func85 rfl rfl rfl (by simp [noBoR, noBoV, noBoL, noBoT]) (by simp [noBoL, noBoT]) (by simp [noBoRow, noBoT]) rfl rfl ?_
  simp [hκ, hκ']
  refine vc_loop2 [3, 5, 9, 10, 11] (fun m S => ∃ (i : Nat) (o : List Str), m = p.Valves.length - i ∧ i ≤ p.Valves.length ∧ o.length ≤ i ∧ guardsF p r = o ++ ((p.Valves.drop i).filter (gdQ r)).map GPlantValve.Name ∧
    S = [(3, .box () [.tr (.sl κ' () 1 (enc cS r.Places)), .tr (.sl κ' () 1 (enc cS r.Valves))]), (5, .tmp (.tr (.sl .own () 1 (enc cS o)))), (9, .tmp (.tr (.sl κ () 4 (enc cPlantValve p.Valves)))), (10, .tmp (.tr (.int .i64 p.Valves.length))), (11, .tmp (.tr (.int .i64 i)))]) p.Valves.length ?_ ?_
  · exact ⟨0, [], by simp, by simp, by simp, by simp [guardsF], by simp⟩
  rintro J hJ m S ⟨i, o, rfl, hi, ho, ha, rfl⟩
  by_cases hlt : i < p.Valves.length
  · have hd : p.Valves.drop i = p.Valves[i] :: p.Valves.drop (i + 1) := by simp
    rw [hd, List.filter_cons] at ha
    have no : gdQ r p.Valves[i] = false → guardsF p r = o ++ ((p.Valves.drop (i + 1)).filter (gdQ r)).map GPlantValve.Name := fun h => by rw [ha, h]; simp
    have yes : gdQ r p.Valves[i] = true → guardsF p r = (o ++ [p.Valves[i].Name]) ++ ((p.Valves.drop (i + 1)).filter (gdQ r)).map GPlantValve.Name := fun h => by rw [ha, h]; simp
    simp [hκ, hκ', hlt]
    refine callK_of (has_ok _ (by simp [hκ']) _ _ (by omega)) ?_
    by_cases c1 : p.Valves[i].A ∈ r.Places
    · simp [hκ, hκ', hlt, c1]
      refine callK_of (has_ok _ (by simp [hκ']) _ _ (by omega)) ?_
      by_cases c3 : p.Valves[i].Name ∈ r.Valves
      · simp [hκ, hκ', hlt, c1, c3]
        refine andK_i (by omega) fun _ => ?_
        exact again_i hJ (m := p.Valves.length - (i + 1)) (by omega) ⟨i + 1, o, rfl, by omega, by omega, no (by simp [gdQ, c1, c3]), by simp⟩
      · simp [hκ, hκ', hlt, c1, c3, chunk]
        refine andK_i (by omega) fun _ => andK_i (by omega) fun _ => ?_
        exact again_i hJ (m := p.Valves.length - (i + 1)) (by omega) ⟨i + 1, o ++ [p.Valves[i].Name], rfl, by omega, by simp; omega, yes (by simp [gdQ, c1, c3]), by simp⟩
    · simp [hκ, hκ', hlt, c1]
      refine callK_of (has_ok _ (by simp [hκ']) _ _ (by omega)) ?_
      by_cases c2 : p.Valves[i].B ∈ r.Places
      · simp [hκ, hκ', hlt, c1, c2]
        refine callK_of (has_ok _ (by simp [hκ']) _ _ (by omega)) ?_
        by_cases c3 : p.Valves[i].Name ∈ r.Valves
        · simp [hκ, hκ', hlt, c1, c2, c3]
          refine andK_i (by omega) fun _ => ?_
          exact again_i hJ (m := p.Valves.length - (i + 1)) (by omega) ⟨i + 1, o, rfl, by omega, by omega, no (by simp [gdQ, c1, c2, c3]), by simp⟩
        · simp [hκ, hκ', hlt, c1, c2, c3, chunk]
          refine andK_i (by omega) fun _ => andK_i (by omega) fun _ => ?_
          exact again_i hJ (m := p.Valves.length - (i + 1)) (by omega) ⟨i + 1, o ++ [p.Valves[i].Name], rfl, by omega, by simp; omega, yes (by simp [gdQ, c1, c2, c3]), by simp⟩
      · simp [hκ, hκ', hlt, c1, c2]
        refine andK_i (by omega) fun _ => ?_
        exact again_i hJ (m := p.Valves.length - (i + 1)) (by omega) ⟨i + 1, o, rfl, by omega, by omega, no (by simp [gdQ, c1, c2]), by simp⟩
  obtain rfl : i = p.Valves.length := by omega
  simp at ha
  simp [hκ, hκ', ha]
def md89 : Modes where
  call := callM
  br := fun _ => false
  plan := fun _ => .fin
@[simp] theorem md89_call (f i : Nat) : md89.call f i = callM f i := rfl
@[simp] theorem md89_br : md89.br = fun _ => false := rfl
def placesOfF (p : GPlant) (l : List Str) : Bool := l.all (placeB p) && ((decide (1 ≤ l.length) && decide (l.length ≤ 8)) && rise l)
theorem placesOf_ok (κ κ' : Knd) (hκ : κ ≠ .own) (hκ' : κ' ≠ .own) (p : GPlant) (l : List Str) (hl : p.Places.length ≤ 1048576) (h1 : l.length ≤ 1048576) :
    ACall PP 89 [.tmp (.agg [.tr (.sl κ () 1 (enc cS p.Stuffs)), .tr (.sl κ () 2 (enc cPlantFoe p.Foes)), .tr (.sl κ () 3 (enc cPlantPlace p.Places)), .tr (.sl κ () 4 (enc cPlantValve p.Valves))]), .tmp (.tr (.sl κ' () 1 (enc cS l)))] [] (.tmp (.tr (.bool (placesOfF p l)))) [] [] := by
  refine ACall_intro md89 (na := 2) (bx := []) (by kernel_rfl) Tryz.func89 rfl rfl rfl (by simp [noBoR, noBoV, noBoL, noBoT]) (by simp [noBoL, noBoT]) (by simp [noBoRow, noBoT]) rfl rfl ?_
  simp [hκ, hκ']
  refine vc_loop2 [1, 2, 9, 10, 11] (fun m S => ∃ (i : Nat), m = l.length - i ∧ i ≤ l.length ∧ l.all (placeB p) = (l.drop i).all (placeB p) ∧
    S = [(1, .tmp (.tr (.sl κ' () 1 (enc cS l)))), (2, .box () [.tr (.sl κ () 1 (enc cS p.Stuffs)), .tr (.sl κ () 2 (enc cPlantFoe p.Foes)), .tr (.sl κ () 3 (enc cPlantPlace p.Places)), .tr (.sl κ () 4 (enc cPlantValve p.Valves))]), (9, .tmp (.tr (.sl κ' () 1 (enc cS l)))), (10, .tmp (.tr (.int .i64 l.length))), (11, .tmp (.tr (.int .i64 i)))]) l.length ?_ ?_
  · exact ⟨0, by simp, by simp, by simp, by simp⟩
  rintro J hJ m S ⟨i, rfl, hi, ha, rfl⟩
  by_cases hlt : i < l.length
  · have hd : l.drop i = l[i] :: l.drop (i + 1) := by simp
    rw [hd, List.all_cons] at ha
    simp [hκ, hκ', hlt]
    refine callK_of (place_ok _ (by simp [hκ]) p _ (by omega)) ?_
    cases c1 : placeB p l[i]
    · rw [c1, Bool.false_and] at ha
      simp [hκ, hκ', hlt]
      simp only [placesOfF, ha]; simp
    · rw [c1, Bool.true_and] at ha
      simp [hκ, hκ', hlt]
      refine andK_i (by omega) fun _ => ?_
      exact again_i hJ (m := l.length - (i + 1)) (by omega) ⟨i + 1, rfl, by omega, ha, by simp⟩
  obtain rfl : i = l.length := by omega
  have ha : l.all (placeB p) = true := by simpa using ha
  by_cases c1 : 1 ≤ l.length
  case neg =>
    have c1' : ¬ (1 : Int) ≤ l.length := by omega
    simp [hκ, hκ', c1']
    simp [placesOfF, c1]
  have c1' : (1 : Int) ≤ l.length := by omega
  by_cases c2 : l.length ≤ 8
  case neg =>
    have c2' : ¬ (l.length : Int) ≤ 8 := by omega
    simp [hκ, hκ', c1', c2']
    simp [placesOfF, c2]
  have c2' : (l.length : Int) ≤ 8 := by omega
  simp [hκ, hκ', c1', c2']
  refine callK_of (rising_ok _ (by simp [hκ']) _ (by omega)) ?_
  simp [hκ, hκ', placesOfF, ha, c1, c2]
end Go.HT
end
section
namespace Go.HT
open Go Go.Proofs
set_option maxRecDepth 100000
set_option maxHeartbeats 4000000
set_option linter.unusedSimpArgs false
set_option linter.unusedVariables false
/-- Right up to a number. -/
def allN (q : Nat → Bool) : Nat → Bool
  | 0 => true
  | n + 1 => allN q n && q n
theorem allN_true {q : Nat → Bool} : ∀ {n : Nat}, (∀ k, k < n → q k = true) → allN q n = true
  | 0, _ => rfl
  | n + 1, h => by rw [allN, allN_true fun k hk => h k (by omega), h n (by omega)]; rfl
theorem allN_false {q : Nat → Bool} {k : Nat} : ∀ {n : Nat}, k < n → q k = false → allN q n = false
  | 0, h, _ => absurd h (by omega)
  | n + 1, h, hq => by
    rw [allN]
    by_cases hk : k = n
    · subst hk; simp [hq]
    · rw [allN_false (by omega) hq]; rfl
theorem allN_spec {q : Nat → Bool} {n : Nat} : allN q n = true ↔ ∀ k, k < n → q k = true :=
  ⟨fun h k hk => by
    cases hq : q k
    · rw [allN_false hk hq] at h; cases h
    · rfl, allN_true⟩
def rtP (p : GPlant) (l : List Str) (k : Nat) : Bool := placeB p (l.getD k []) && ((decide (0 < (placeF p (l.getD k [])).Cap) == (decide (k = 0) || decide (k + 1 = l.length))) && !decide (l.getD k [] ∈ l.take k))
def minF (x y : Str) : Str := if strLt x y || decide (x = y) then x else y
def maxF (x y : Str) : Str := if strLt x y then y else x
@[simp] theorem min_fold (x y : Str) : (if strLt x y = true ∨ x = y then x else y) = minF x y := by simp [minF]
@[simp] theorem max_fold (x y : Str) : (if strLt x y = true then y else x) = maxF x y := rfl
def rtV (p : GPlant) (r : GPlantRoute) (k : Nat) : Bool := valveB p (r.Valves.getD k []) && (decide ((valveF p (r.Valves.getD k [])).A = minF (r.Places.getD k []) (r.Places.getD (k + 1) [])) && decide ((valveF p (r.Valves.getD k [])).B = maxF (r.Places.getD k []) (r.Places.getD (k + 1) [])))
def isRouteF (p : GPlant) (r : GPlantRoute) : Bool := decide (2 ≤ r.Places.length) && (decide (r.Valves.length + 1 = r.Places.length) && (allN (rtP p r.Places) r.Places.length && allN (rtV p r) r.Valves.length))
def md83 : Modes where
  call := callM
  br := fun _ => false
  plan := fun i => match i with
    | 15 => .take 0 (.take 1 (.take 2 (.take 3 (.take 4 (.take 5 (.take 6 (.take 7 (.take 8 (.take 9 (.take 10 (.take 11 (.take 12 (.take 13 (.take 14 (.take 15 (.take 16 (.take 17 (.take 18 (.take 19 (.take 20 (.take 21 (.take 22 (.take 23 (.take 24 (.take 25 (.fin))))))))))))))))))))))))))
    | _ => .fin
@[simp] theorem md83_call (f i : Nat) : md83.call f i = callM f i := rfl
@[simp] theorem md83_br : md83.br = fun _ => false := rfl
@[simp] theorem md83_p15 : md83.plan 15 = .take 0 (.take 1 (.take 2 (.take 3 (.take 4 (.take 5 (.take 6 (.take 7 (.take 8 (.take 9 (.take 10 (.take 11 (.take 12 (.take 13 (.take 14 (.take 15 (.take 16 (.take 17 (.take 18 (.take 19 (.take 20 (.take 21 (.take 22 (.take 23 (.take 24 (.take 25 (.fin)))))))))))))))))))))))))) := rfl
theorem isRoute_ok (κ κ' : Knd) (hκ : κ ≠ .own) (hκ' : κ' ≠ .own) (p : GPlant) (r : GPlantRoute) (hb : PB p) (hp : r.Places.length ≤ 1048576) (hv : r.Valves.length ≤ 1048576) :
    ACall PP 83 [.tmp (.agg [.tr (.sl κ () 1 (enc cS p.Stuffs)), .tr (.sl κ () 2 (enc cPlantFoe p.Foes)), .tr (.sl κ () 3 (enc cPlantPlace p.Places)), .tr (.sl κ () 4 (enc cPlantValve p.Valves))]), .tmp (.agg [.tr (.sl κ' () 1 (enc cS r.Places)), .tr (.sl κ' () 1 (enc cS r.Valves))])] [] (.tmp (.tr (.bool (isRouteF p r)))) [] [] := by
  refine ACall_intro md83 (na := 2) (bx := []) (by kernel_rfl) Tryz.func83 rfl rfl rfl (by simp [noBoR, noBoV, noBoL, noBoT]) (by simp [noBoL, noBoT]) (by simp [noBoRow, noBoT]) rfl rfl ?_
  have hpl := hb.pl
  have hvl := hb.vl
  by_cases h2 : 2 ≤ r.Places.length
  case neg =>
    have h2' : (r.Places.length : Int) < 2 := by omega
    simp [hκ, hκ', h2']
    simp [isRouteF, h2]
  have h2' : ¬ (r.Places.length : Int) < 2 := by omega
  by_cases h3 : r.Valves.length + 1 = r.Places.length
  case neg =>
    have h3' : ¬ (r.Valves.length : Int) = (r.Places.length : Int) - 1 := by omega
    simp [hκ, hκ', h2', h3']
    refine andK_i (by omega) fun _ => ?_
    simp [isRouteF, h2, h3]
  have h3' : (r.Valves.length : Int) = (r.Places.length : Int) - 1 := by omega
  simp [hκ, hκ', h2', h3']
  refine andK_i (by omega) fun _ => ?_
  refine vc_loop2 [2, 3, 5, 30, 31, 32] (fun m S => ∃ (i : Nat), m = r.Places.length - i ∧ i ≤ r.Places.length ∧ (∀ k, k < i → rtP p r.Places k = true) ∧
    S = [(2, .box () [.tr (.sl κ () 1 (enc cS p.Stuffs)), .tr (.sl κ () 2 (enc cPlantFoe p.Foes)), .tr (.sl κ () 3 (enc cPlantPlace p.Places)), .tr (.sl κ () 4 (enc cPlantValve p.Valves))]), (3, .box () [.tr (.sl κ' () 1 (enc cS r.Places)), .tr (.sl κ' () 1 (enc cS r.Valves))]), (5, .tmp (.tr (.int .i64 r.Places.length))), (30, .tmp (.tr (.sl κ' () 1 (enc cS r.Places)))), (31, .tmp (.tr (.int .i64 r.Places.length))), (32, .tmp (.tr (.int .i64 i)))]) r.Places.length ?_ ?_
  · exact ⟨0, by simp, by simp, by simp, by simp⟩
  · rintro J hJ m S ⟨i, rfl, hi, ha, rfl⟩
    by_cases hlt : i < r.Places.length
    · simp [hκ, hκ', hlt]
      refine callK_of (place_ok _ (by simp [hκ]) p r.Places[i] (by omega)) ?_
      have bad : rtP p r.Places i = false → isRouteF p r = false := fun h => by simp [isRouteF, allN_false hlt h]
      cases q1 : placeB p r.Places[i]
      · simp [hκ, hκ', hlt]
        rw [bad (by simp [rtP, hlt, q1])]
      by_cases q2 : 0 < (placeF p r.Places[i]).Cap
      · by_cases q3 : i = 0
        · subst q3
          have q4 : ¬ 1 = r.Places.length := by omega
          simp [hκ, hκ', hlt, q2]
          refine callK_of (has_ok _ (by simp [hκ']) ([] : List Str) _ (by simp)) ?_
          simp [hκ, hκ', hlt]
          refine again_i hJ (m := r.Places.length - 1) (by omega) ⟨1, rfl, by omega, fun k hk => ?_, by simp⟩
          obtain rfl : k = 0 := by omega
          simp [rtP, hlt, q1, q2]
        · by_cases q4 : i + 1 = r.Places.length
          · have q4' : ((i : Int) = (r.Places.length : Int) - 1) = True := eq_true (by omega)
            simp [hκ, hκ', hlt, q2, q3, q4']
            refine andK_i (by omega) fun _ => andK_i (by omega) fun _ => ?_
            refine callK_of (has_ok _ (by simp [hκ']) _ _ (by simp; omega)) ?_
            by_cases q5 : r.Places[i] ∈ r.Places.take i
            · simp [hκ, hκ', hlt, q5]
              rw [bad (by simp [rtP, hlt, q1, q2, q3, q4, q5])]
            · simp [hκ, hκ', hlt, q5]
              refine andK_i (by omega) fun _ => ?_
              refine again_i hJ (m := r.Places.length - (i + 1)) (by omega) ⟨i + 1, rfl, by omega, fun k hk => ?_, by simp⟩
              by_cases hki : k < i
              · exact ha k hki
              · obtain rfl : k = i := by omega
                simp [rtP, hlt, q1, q2, q3, q4, q5]
          · have q4' : ¬ (i : Int) = (r.Places.length : Int) - 1 := by omega
            simp [hκ, hκ', hlt, q2, q3, q4']
            refine andK_i (by omega) fun _ => ?_
            rw [bad (by simp [rtP, hlt, q1, q2, q3, q4])]
      · by_cases q3 : i = 0
        · subst q3
          simp [hκ, hκ', hlt, q2]
          rw [bad (by simp [rtP, hlt, q1, q2])]
        · by_cases q4 : i + 1 = r.Places.length
          · have q4' : ((i : Int) = (r.Places.length : Int) - 1) = True := eq_true (by omega)
            simp [hκ, hκ', hlt, q2, q3, q4']
            refine andK_i (by omega) fun _ => ?_
            rw [bad (by simp [rtP, hlt, q1, q2, q3, q4])]
          · have q4' : ¬ (i : Int) = (r.Places.length : Int) - 1 := by omega
            simp [hκ, hκ', hlt, q2, q3, q4']
            refine andK_i (by omega) fun _ => andK_i (by omega) fun _ => ?_
            refine callK_of (has_ok _ (by simp [hκ']) _ _ (by simp; omega)) ?_
            by_cases q5 : r.Places[i] ∈ r.Places.take i
            · simp [hκ, hκ', hlt, q5]
              rw [bad (by simp [rtP, hlt, q1, q2, q3, q4, q5])]
            · simp [hκ, hκ', hlt, q5]
              refine andK_i (by omega) fun _ => ?_
              refine again_i hJ (m := r.Places.length - (i + 1)) (by omega) ⟨i + 1, rfl, by omega, fun k hk => ?_, by simp⟩
              by_cases hki : k < i
              · exact ha k hki
              · obtain rfl : k = i := by omega
                simp [rtP, hlt, q1, q2, q3, q4, q5]
    · obtain rfl : i = r.Places.length := by omega
      have hP := allN_true ha
      simp [hκ, hκ']
      refine vc_loop2 [2, 3, 69, 70, 71] (fun m S => ∃ (i : Nat), m = r.Valves.length - i ∧ i ≤ r.Valves.length ∧ (∀ k, k < i → rtV p r k = true) ∧
        S = [(2, .box () [.tr (.sl κ () 1 (enc cS p.Stuffs)), .tr (.sl κ () 2 (enc cPlantFoe p.Foes)), .tr (.sl κ () 3 (enc cPlantPlace p.Places)), .tr (.sl κ () 4 (enc cPlantValve p.Valves))]), (3, .box () [.tr (.sl κ' () 1 (enc cS r.Places)), .tr (.sl κ' () 1 (enc cS r.Valves))]), (69, .tmp (.tr (.sl κ' () 1 (enc cS r.Valves)))), (70, .tmp (.tr (.int .i64 r.Valves.length))), (71, .tmp (.tr (.int .i64 i)))]) r.Valves.length ?_ ?_
      · exact ⟨0, by simp, by simp, by simp, by simp⟩
      · rintro J2 hJ2 m S ⟨i, rfl, hi2, hb2, rfl⟩
        by_cases hlt : i < r.Valves.length
        · have hl1 : i < r.Places.length := by omega
          have hl2 : i + 1 < r.Places.length := by omega
          have hl2' : (i : Int) + 1 < r.Places.length := by omega
          have hn0 : (0 : Int) ≤ (i : Int) + 1 := by omega
          have hn1 : ((i : Int) + 1).toNat = i + 1 := by omega
          simp [hκ, hκ', hlt]
          refine callK_of (valve_ok _ (by simp [hκ]) p r.Valves[i] (by omega)) ?_
          have bad : rtV p r i = false → isRouteF p r = false := fun h => by simp [isRouteF, allN_false hlt h]
          simp [hκ, hκ', hlt, hl1]
          refine andK_i (by omega) fun _ => ?_
          simp [hκ, hκ', hlt, hl1, hl2, hl2', hn0, hn1]
          refine andK_i (by omega) fun _ => ?_
          cases v1 : valveB p r.Valves[i]
          · simp [hκ, hκ', hlt, hl1, hl2, hl2', hn0, hn1]
            rw [bad (by simp [rtV, hlt, v1])]
          by_cases v2 : (valveF p r.Valves[i]).A = minF r.Places[i] r.Places[i + 1]
          case neg =>
            simp [hκ, hκ', hlt, hl1, hl2, hl2', hn0, hn1, v2]
            rw [bad (by simp [rtV, hlt, hl1, hl2, v1, v2])]
          by_cases v3 : (valveF p r.Valves[i]).B = maxF r.Places[i] r.Places[i + 1]
          case neg =>
            simp [hκ, hκ', hlt, hl1, hl2, hl2', hn0, hn1, v2, v3]
            rw [bad (by simp [rtV, hlt, hl1, hl2, v1, v2, v3])]
          simp [hκ, hκ', hlt, hl1, hl2, hl2', hn0, hn1, v2, v3]
          refine andK_i (by omega) fun _ => ?_
          refine again_i hJ2 (m := r.Valves.length - (i + 1)) (by omega) ⟨i + 1, rfl, by omega, fun k hk => ?_, by simp⟩
          by_cases hki : k < i
          · exact hb2 k hki
          · obtain rfl : k = i := by omega
            simp [rtV, hlt, hl1, hl2, v1, v2, v3]
        · obtain rfl : i = r.Valves.length := by omega
          simp [hκ, hκ', isRouteF, h2, h3, hP, allN_true hb2]
end Go.HT
end
