/- A part of the proof of: The law FnExactCtlJobAsks returns true, and its arguments read as before, for all arguments whose reading is together of bulk at most 1048576 (values and letters). -/
import Derived.Test.YtifbcpifgajdeaaGreatPf
set_option linter.all false
set_option linter.unusedSimpArgs false
set_option linter.unusedVariables false
section
namespace Go.HT
open Go Go.Proofs
set_option maxRecDepth 100000
set_option maxHeartbeats 4000000
set_option linter.unusedSimpArgs false
set_option linter.unusedVariables false
def rtS (p : GPlant) (r : GPlantRoute) (k : Nat) : Bool := decide (0 ≤ capF p (r.Places.getD k [])) && (!decide (r.Places.getD k [] ∈ r.Places.take k) && (!(decide (0 < k) && (decide (k + 1 < r.Places.length) && decide (0 < capF p (r.Places.getD k [])))) &&
  (decide (k = 0) || joinsF p (r.Valves.getD (k - 1) []) (r.Places.getD (k - 1) []) (r.Places.getD k []))))
def routeS (p : GPlant) (r : GPlantRoute) : Bool := decide (2 ≤ r.Places.length) && (decide (r.Valves.length + 1 = r.Places.length) && (decide (1 ≤ capF p (r.Places.getD 0 [])) && (decide (1 ≤ capF p (r.Places.getD (r.Places.length - 1) [])) && allN (rtS p r) r.Places.length)))
def md50 : Modes where
  call := callM
  br := fun _ => false
  plan := fun i => match i with
    | 2 => .take 0 (.take 1 (.take 2 (.take 3 (.take 4 (.take 5 (.take 6 (.take 7 (.take 8 (.take 9 (.take 10 (.take 11 (.take 12 (.take 13 (.take 14 (.take 15 (.any 16 (.take 17 (.take 18 (.take 19 (.take 20 (.take 21 (.take 22 (.take 23 (.take 24 (.take 25 (.take 26 (.any 27 (.take 28 (.take 29 (.fin))) (.non)))))))))))) (.non)))))))))))))))))
    | 7 => .take 0 (.take 1 (.take 2 (.take 3 (.take 4 (.take 5 (.any 6 (.take 7 (.take 8 (.take 9 (.take 10 (.take 11 (.take 12 (.take 13 (.take 14 (.take 15 (.take 16 (.take 17 (.any 18 (.take 19 (.take 20 (.take 21 (.take 22 (.take 23 (.take 24 (.take 25 (.take 26 (.take 27 (.take 28 (.take 29 (.take 30 (.take 31 (.take 32 (.take 33 (.take 34 (.take 35 (.any 36 (.take 37 (.take 38 (.take 39 (.fin)))) (.non))))))))))))))))))) (.non))))))))))))) (.non)))))))
    | 9 => .take 0 (.take 1 (.take 2 (.take 3 (.take 4 (.take 5 (.take 6 (.take 7 (.take 8 (.take 9 (.take 10 (.take 11 (.take 12 (.take 13 (.take 14 (.take 15 (.take 16 (.take 17 (.take 18 (.take 19 (.take 20 (.any 21 (.take 22 (.take 23 (.fin))) (.non))))))))))))))))))))))
    | _ => .fin
@[simp] theorem md50_call (f i : Nat) : md50.call f i = callM f i := rfl
@[simp] theorem md50_br : md50.br = fun _ => false := rfl
@[simp] theorem md50_p2 : md50.plan 2 = .take 0 (.take 1 (.take 2 (.take 3 (.take 4 (.take 5 (.take 6 (.take 7 (.take 8 (.take 9 (.take 10 (.take 11 (.take 12 (.take 13 (.take 14 (.take 15 (.any 16 (.take 17 (.take 18 (.take 19 (.take 20 (.take 21 (.take 22 (.take 23 (.take 24 (.take 25 (.take 26 (.any 27 (.take 28 (.take 29 (.fin))) (.non)))))))))))) (.non))))))))))))))))) := rfl
@[simp] theorem md50_p7 : md50.plan 7 = .take 0 (.take 1 (.take 2 (.take 3 (.take 4 (.take 5 (.any 6 (.take 7 (.take 8 (.take 9 (.take 10 (.take 11 (.take 12 (.take 13 (.take 14 (.take 15 (.take 16 (.take 17 (.any 18 (.take 19 (.take 20 (.take 21 (.take 22 (.take 23 (.take 24 (.take 25 (.take 26 (.take 27 (.take 28 (.take 29 (.take 30 (.take 31 (.take 32 (.take 33 (.take 34 (.take 35 (.any 36 (.take 37 (.take 38 (.take 39 (.fin)))) (.non))))))))))))))))))) (.non))))))))))))) (.non))))))) := rfl
@[simp] theorem md50_p9 : md50.plan 9 = .take 0 (.take 1 (.take 2 (.take 3 (.take 4 (.take 5 (.take 6 (.take 7 (.take 8 (.take 9 (.take 10 (.take 11 (.take 12 (.take 13 (.take 14 (.take 15 (.take 16 (.take 17 (.take 18 (.take 19 (.take 20 (.any 21 (.take 22 (.take 23 (.fin))) (.non)))))))))))))))))))))) := rfl
set_option maxHeartbeats 16000000 in
theorem l5RouteOk_ok (κ κ' : Knd) (hκ : κ ≠ .own) (hκ' : κ' ≠ .own) (p : GPlant) (r : GPlantRoute) (hb : PB p) (hp : r.Places.length ≤ 1048576) (hv : r.Valves.length ≤ 1048576) :
    ACall PP 50 [.tmp (.agg [.tr (.sl κ () 1 (enc cS p.Stuffs)), .tr (.sl κ () 2 (enc cPlantFoe p.Foes)), .tr (.sl κ () 3 (enc cPlantPlace p.Places)), .tr (.sl κ () 4 (enc cPlantValve p.Valves))]), .tmp (.agg [.tr (.sl κ' () 1 (enc cS r.Places)), .tr (.sl κ' () 1 (enc cS r.Valves))])] [] (.tmp (.tr (.bool (routeS p r)))) [] [] := by
  refine ACall_intro md50 (na := 2) (bx := []) (by kernel_rfl) Tryz.func50 rfl rfl rfl (by simp [noBoR, noBoV, noBoL, noBoT]) (by simp [noBoL, noBoT]) (by simp [noBoRow, noBoT]) rfl rfl ?_
  have hpl := hb.pl
  have hvl := hb.vl
  by_cases h2 : 2 ≤ r.Places.length
  case neg =>
    have h2' : (r.Places.length : Int) < 2 := by omega
    simp [hκ, hκ', h2']
    simp [routeS, h2]
  have h2' : ¬ (r.Places.length : Int) < 2 := by omega
  by_cases h3 : r.Valves.length + 1 = r.Places.length
  case neg =>
    have h3' : ¬ (r.Valves.length : Int) = (r.Places.length : Int) - 1 := by omega
    simp [hκ, hκ', h2', h3']
    refine andK_i (by omega) fun _ => ?_
    simp [routeS, h2, h3]
  have h3' : ((r.Valves.length : Int) = (r.Places.length : Int) - 1) = True := eq_true (by omega)
  have l0 : 0 < r.Places.length := by omega
  have l1 : r.Places.length - 1 < r.Places.length := by omega
  have e1 : ((r.Places.length : Int) - 1).toNat = r.Places.length - 1 := by omega
  have e2 : ((0 : Int) ≤ (r.Places.length : Int) - 1) = True := eq_true (by omega)
  have e3 : ((r.Places.length : Int) - 1 < r.Places.length) = True := eq_true (by omega)
  have e4 : (1 ≤ r.Places.length) = True := eq_true (by omega)
  simp [hκ, hκ', h2', h3', l0]
  refine andK_i (by omega) fun _ => ?_
  refine callK_of (l5Cap_ok _ (by simp [hκ]) p r.Places[0] (by omega)) ?_
  by_cases h4 : capF p r.Places[0] < 1
  · have h4' : ((1 : Int) ≤ capF p r.Places[0]) = False := eq_false (by omega)
    simp [hκ, hκ', h4]
    have q1 : r.Places.getD 0 [] = r.Places[0] := by simp [l0]
    simp only [routeS, q1, h4']
    simp
  have h4' : ((1 : Int) ≤ capF p r.Places[0]) = True := eq_true (by omega)
  simp [hκ, hκ', h4, l1, e1, e2, e3, e4]
  refine andK_i (by omega) fun _ => andK_i (by omega) fun _ => ?_
  refine callK_of (l5Cap_ok _ (by simp [hκ]) p r.Places[r.Places.length - 1] (by omega)) ?_
  by_cases h5 : capF p r.Places[r.Places.length - 1] < 1
  · have h5' : ((1 : Int) ≤ capF p r.Places[r.Places.length - 1]) = False := eq_false (by omega)
    simp [hκ, hκ', h5]
    have q1 : r.Places.getD (r.Places.length - 1) [] = r.Places[r.Places.length - 1] := by simp [l1]
    simp only [routeS, q1, h5']
    simp
  have h5' : ((1 : Int) ≤ capF p r.Places[r.Places.length - 1]) = True := eq_true (by omega)
  simp [hκ, hκ', h5]
  refine vc_loop2 [2, 3, 5, 6] (fun m S => ∃ (i : Nat), m = r.Places.length - i ∧ i ≤ r.Places.length ∧ (∀ k, k < i → rtS p r k = true) ∧
    S = [(2, .box () [.tr (.sl κ () 1 (enc cS p.Stuffs)), .tr (.sl κ () 2 (enc cPlantFoe p.Foes)), .tr (.sl κ () 3 (enc cPlantPlace p.Places)), .tr (.sl κ () 4 (enc cPlantValve p.Valves))]), (3, .box () [.tr (.sl κ' () 1 (enc cS r.Places)), .tr (.sl κ' () 1 (enc cS r.Valves))]), (5, .tmp (.tr (.int .i64 r.Places.length))), (6, .tmp (.tr (.int .i64 i)))]) r.Places.length ?_ ?_
  · exact ⟨0, by simp, by simp, by simp, by simp⟩
  rintro J hJ m S ⟨i, rfl, hi, ha, rfl⟩
  by_cases hlt : i < r.Places.length
  · have bad : rtS p r i = false → routeS p r = false := fun h => by simp [routeS, allN_false hlt h]
    have nxt : rtS p r i = true → ∀ k, k < i + 1 → rtS p r k = true := fun h k hk => by
      by_cases hki : k < i
      · exact ha k hki
      · obtain rfl : k = i := by omega
        exact h
    simp [hκ, hκ', hlt]
    refine callK_of (l5Cap_ok _ (by simp [hκ]) p r.Places[i] (by omega)) ?_
    by_cases c1 : capF p r.Places[i] < 0
    · have c1' : ((0 : Int) ≤ capF p r.Places[i]) = False := eq_false (by omega)
      simp [hκ, hκ', hlt, c1]
      rw [bad (by simp [rtS, hlt, c1'])]
    have c1' : ((0 : Int) ≤ capF p r.Places[i]) = True := eq_true (by omega)
    cases i with
    | zero =>
      simp [hκ, hκ', hlt, c1]
      refine callK_of (l2Has_ok _ (by simp [hκ']) ([] : List Str) _ (by simp)) ?_
      simp [hκ, hκ', hlt, c1]
      exact again_i hJ (m := r.Places.length - 1) (by omega) ⟨1, rfl, by omega, nxt (by simp [rtS, hlt, c1']), by simp⟩
    | succ j =>
      have hj : j < r.Places.length := by omega
      have hjv : j < r.Valves.length := by omega
      have n1 : ((j : Int) + 1).toNat = j + 1 := by omega
      have n2 : ((0 : Int) ≤ (j : Int) + 1) = True := eq_true (by omega)
      have n3 : ((j : Int) + 1 < r.Places.length) = True := eq_true (by omega)
      have n4 : (j + 1 ≤ r.Places.length) = True := eq_true (by omega)
      have n5 : ((j : Int) + 1 ≤ r.Places.length) = True := eq_true (by omega)
      simp [hκ, hκ', hlt, c1, n1, n2, n3, n4, n5]
      refine callK_of (l2Has_ok _ (by simp [hκ']) (r.Places.take (j + 1)) r.Places[j + 1] (by simp; omega)) ?_
      by_cases c2 : r.Places[j + 1] ∈ r.Places.take (j + 1)
      · simp [hκ, hκ', hlt, c1, c2, n1, n2, n3, n4, n5]
        rw [bad (by simp [rtS, hlt, c1', c2])]
      by_cases c3 : j + 1 + 1 < r.Places.length
      · have c3' : ((j : Int) + 1 < (r.Places.length : Int) - 1) = True := eq_true (by omega)
        simp [hκ, hκ', hlt, c1, c2, n1, n2, n3, n4, n5, c3']
        refine andK_i (by omega) fun _ => ?_
        refine callK_of (l5Cap_ok _ (by simp [hκ]) p r.Places[j + 1] (by omega)) ?_
        by_cases c4 : 0 < capF p r.Places[j + 1]
        · simp [hκ, hκ', hlt, c1, c2, n1, n2, n3, n4, n5, c4]
          rw [bad (by simp [rtS, hlt, c1', c2, c3, c4])]
        simp [hκ, hκ', hlt, c1, c2, n1, n2, n3, n4, n5, c4, hj, hjv]
        refine andK_i (by omega) fun _ => andK_i (by omega) fun _ => ?_
        refine callK_of (l5Joins_ok _ (by simp [hκ]) p r.Valves[j] r.Places[j] r.Places[j + 1] (by omega)) ?_
        cases c5 : joinsF p r.Valves[j] r.Places[j] r.Places[j + 1]
        · simp [hκ, hκ', hlt]
          rw [bad (by simp [rtS, hlt, hj, hjv, c5])]
        · simp [hκ, hκ', hlt]
          refine andK_i (by omega) fun _ => ?_
          exact again_i hJ (m := r.Places.length - (j + 1 + 1)) (by omega) ⟨j + 1 + 1, rfl, by omega, nxt (by simp [rtS, hlt, hj, hjv, c1', c2, c3, c4, c5]), by simp⟩
      · have c3' : ((j : Int) + 1 < (r.Places.length : Int) - 1) = False := eq_false (by omega)
        simp [hκ, hκ', hlt, c1, c2, n1, n2, n3, n4, n5, c3', hj, hjv]
        refine andK_i (by omega) fun _ => andK_i (by omega) fun _ => andK_i (by omega) fun _ => ?_
        refine callK_of (l5Joins_ok _ (by simp [hκ]) p r.Valves[j] r.Places[j] r.Places[j + 1] (by omega)) ?_
        cases c5 : joinsF p r.Valves[j] r.Places[j] r.Places[j + 1]
        · simp [hκ, hκ', hlt]
          rw [bad (by simp [rtS, hlt, hj, hjv, c5])]
        · simp [hκ, hκ', hlt]
          refine andK_i (by omega) fun _ => ?_
          exact again_i hJ (m := r.Places.length - (j + 1 + 1)) (by omega) ⟨j + 1 + 1, rfl, by omega, nxt (by simp [rtS, hlt, hj, hjv, c1', c2, c3, c5]), by simp⟩
  obtain rfl : i = r.Places.length := by omega
  simp [hκ, hκ', routeS, h2, h3, l0, l1, h4', h5', allN_true ha]
end Go.HT
end
section
namespace Go.HT
open Go Go.Proofs
set_option maxRecDepth 100000
set_option maxHeartbeats 4000000
set_option linter.unusedSimpArgs false
set_option linter.unusedVariables false
theorem bes_len (p : GPlant) (s : Str) : (besideF p s).length ≤ p.Valves.length := by
  unfold besideF
  rw [List.length_map]
  exact List.length_filter_le _ _
def useBy (s : Str) : GClaimUse := ⟨s, 3, 0⟩
def shutsI (p : GPlant) (l : List Str) : List Str := l.foldl (fun o s => withF o (besideF p s)) []
def placeW (p : GPlant) (n k : Int) (l : List Str) : GClaimWant := ⟨n, k, [], l.map useBy, [], shutsI p l⟩
def placeAsksF (p : GPlant) (n k : Int) (l : List Str) : List GCtlAsk := if (decide (k = 2) || decide (k = 3)) = true then (if placesOfF p l = true then sharedL p (placeW p n k l) (stationsF p) else []) else []
theorem shutsI_len (p : GPlant) : ∀ (l o : List Str), (l.foldl (fun o s => withF o (besideF p s)) o).length ≤ o.length + l.length * p.Valves.length
  | [], o => by simp
  | s :: t, o => by
    have h1 := shutsI_len p t (withF o (besideF p s))
    have h2 := withF_len o (besideF p s)
    have h3 := bes_len p s
    have h4 : (t.length + 1) * p.Valves.length = t.length * p.Valves.length + p.Valves.length := by rw [Nat.add_mul, Nat.one_mul]
    simp only [List.foldl_cons, List.length_cons, h4]
    omega
theorem by_snoc (l : List Str) (i : Nat) (h : i < l.length) : (l.take (i + 1)).map useBy = (l.take i).map useBy ++ [useBy l[i]] := by
  have : l.take (i + 1) = l.take i ++ [l[i]] := by simp
  rw [this, List.map_append]; rfl
@[simp] theorem boRows_nil2 : boRows ([] : List (List UT)) = [] := rfl
def md67 : Modes where
  call := callM
  br := fun _ => false
  plan := fun i => match i with
    | 8 => .take 0 (.take 1 (.take 2 (.take 3 (.any 4 (.any 5 (.take 6 (.any 7 (.fin) (.non))) (.non)) (.non)))))
    | _ => .fin
@[simp] theorem md67_call (f i : Nat) : md67.call f i = callM f i := rfl
@[simp] theorem md67_br : md67.br = fun _ => false := rfl
@[simp] theorem md67_p8 : md67.plan 8 = .take 0 (.take 1 (.take 2 (.take 3 (.any 4 (.any 5 (.take 6 (.any 7 (.fin) (.non))) (.non)) (.non))))) := rfl
theorem placeAsks_ok (p : GPlant) (n k : Int) (l : List Str) (hb : PB p) (hpl : p.Places.length ≤ 1000) (hvl : p.Valves.length ≤ 1000) (h1 : l.length ≤ 1048576) :
    ACall PP 67 [.tmp (.agg [.tr (.sl .bo () 1 (enc cS p.Stuffs)), .tr (.sl .bo () 2 (enc cPlantFoe p.Foes)), .tr (.sl .bo () 3 (enc cPlantPlace p.Places)), .tr (.sl .bo () 4 (enc cPlantValve p.Valves))]), .tmp (.tr (.int .i64 n)), .tmp (.tr (.int .i64 k)), .tmp (.tr (.sl .bo () 1 (enc cS l)))] [] (.tmp (.tr (.sl .own () 7 (enc (cCtlAsk .own) (placeAsksF p n k l))))) [] [] := by
  refine ACall_intro md67 (na := 4) (bx := []) (by kernel_rfl) Tryz.func67 rfl rfl rfl (by simp [noBoR, noBoV, noBoL, noBoT]) (by simp [noBoL, noBoT]) (by simp [noBoRow, noBoT]) rfl rfl ?_
  by_cases k2 : k = 2
  · subst k2
    simp
    refine callK_of (placesOf_ok .bo .bo (by simp) (by simp) p l (by omega) h1) ?_
    cases c1 : placesOfF p l
    · simp [placeAsksF, c1]
    have hl8 : l.length ≤ 8 := by
      simp only [placesOfF, Bool.and_eq_true, decide_eq_true_eq] at c1
      exact c1.2.1.2
    simp
    refine vc_loop2 [4, 9, 27, 28, 29] (fun m S => ∃ (i : Nat) (o : List Str), m = l.length - i ∧ i ≤ l.length ∧ o.length ≤ i * 1000 ∧ shutsI p l = (l.drop i).foldl (fun o s => withF o (besideF p s)) o ∧
      S = [(4, .box () [.tr (.sl .bo () 1 (enc cS p.Stuffs)), .tr (.sl .bo () 2 (enc cPlantFoe p.Foes)), .tr (.sl .bo () 3 (enc cPlantPlace p.Places)), .tr (.sl .bo () 4 (enc cPlantValve p.Valves))]), (9, .box () [.tr (.int .i64 n), .tr (.int .i64 2), .tr (.sl .own () 1 []), .tr (.sl .own () 3 (enc cClaimUse ((l.take i).map useBy))), .tr (.sl .own () 1 []), .tr (.sl .own () 1 (enc cS o))]),
        (27, .tmp (.tr (.sl .bo () 1 (enc cS l)))), (28, .tmp (.tr (.int .i64 l.length))), (29, .tmp (.tr (.int .i64 i)))]) l.length ?_ ?_
    · exact ⟨0, [], by simp, by simp, by simp, by simp [shutsI], by simp⟩
    rintro J hJ m S ⟨i, o, rfl, hi, ho, ha, rfl⟩
    by_cases hlt : i < l.length
    · have hd : l.drop i = l[i] :: l.drop (i + 1) := by simp
      rw [hd, List.foldl_cons] at ha
      have hbl := bes_len p l[i]
      have hwl := withF_len o (besideF p l[i])
      have hsn := by_snoc l i hlt
      simp [hlt, chunk, hi]
      refine andK_i (by omega) fun _ => ?_
      refine callK_of (beside_ok .bo (by simp) p l[i] (by omega)) ?_
      simp [hlt, hi]
      refine callK_of (with_ok .bo .bo (by simp) (by simp) o (besideF p l[i]) (by omega)) ?_
      simp [hlt, hi]
      refine andK_i (by omega) fun _ => ?_
      refine again_i hJ (m := l.length - (i + 1)) (by omega) ⟨i + 1, withF o (besideF p l[i]), rfl, by omega, by omega, ha, ?_⟩
      rw [hsn]
      simp [useBy]
    obtain rfl : i = l.length := by omega
    rw [List.drop_length, List.foldl_nil] at ha
    have hsl := shutsI_len p l []
    have hsl2 : l.length * p.Valves.length ≤ 8 * 1000 := Nat.mul_le_mul hl8 hvl
    have q := shared_bo p (placeW p n 2 l) hpl hvl (by simp [placeW]) (by simp [placeW]; omega) (by simp [placeW]) (by simp only [placeW, shutsI]; simp at hsl; omega)
    simp [placeW, ha] at q
    have htl : List.take l.length (List.map useBy l) = List.map useBy l := List.take_of_length_le (by simp)
    simp [htl]
    refine callK_of q ?_
    simp [placeAsksF, c1, placeW, ha]
  by_cases k3 : k = 3
  · subst k3
    simp
    refine callK_of (placesOf_ok .bo .bo (by simp) (by simp) p l (by omega) h1) ?_
    cases c1 : placesOfF p l
    · simp [placeAsksF, c1]
    have hl8 : l.length ≤ 8 := by
      simp only [placesOfF, Bool.and_eq_true, decide_eq_true_eq] at c1
      exact c1.2.1.2
    simp
    refine vc_loop2 [4, 9, 27, 28, 29] (fun m S => ∃ (i : Nat) (o : List Str), m = l.length - i ∧ i ≤ l.length ∧ o.length ≤ i * 1000 ∧ shutsI p l = (l.drop i).foldl (fun o s => withF o (besideF p s)) o ∧
      S = [(4, .box () [.tr (.sl .bo () 1 (enc cS p.Stuffs)), .tr (.sl .bo () 2 (enc cPlantFoe p.Foes)), .tr (.sl .bo () 3 (enc cPlantPlace p.Places)), .tr (.sl .bo () 4 (enc cPlantValve p.Valves))]), (9, .box () [.tr (.int .i64 n), .tr (.int .i64 3), .tr (.sl .own () 1 []), .tr (.sl .own () 3 (enc cClaimUse ((l.take i).map useBy))), .tr (.sl .own () 1 []), .tr (.sl .own () 1 (enc cS o))]),
        (27, .tmp (.tr (.sl .bo () 1 (enc cS l)))), (28, .tmp (.tr (.int .i64 l.length))), (29, .tmp (.tr (.int .i64 i)))]) l.length ?_ ?_
    · exact ⟨0, [], by simp, by simp, by simp, by simp [shutsI], by simp⟩
    rintro J hJ m S ⟨i, o, rfl, hi, ho, ha, rfl⟩
    by_cases hlt : i < l.length
    · have hd : l.drop i = l[i] :: l.drop (i + 1) := by simp
      rw [hd, List.foldl_cons] at ha
      have hbl := bes_len p l[i]
      have hwl := withF_len o (besideF p l[i])
      have hsn := by_snoc l i hlt
      simp [hlt, chunk, hi]
      refine andK_i (by omega) fun _ => ?_
      refine callK_of (beside_ok .bo (by simp) p l[i] (by omega)) ?_
      simp [hlt, hi]
      refine callK_of (with_ok .bo .bo (by simp) (by simp) o (besideF p l[i]) (by omega)) ?_
      simp [hlt, hi]
      refine andK_i (by omega) fun _ => ?_
      refine again_i hJ (m := l.length - (i + 1)) (by omega) ⟨i + 1, withF o (besideF p l[i]), rfl, by omega, by omega, ha, ?_⟩
      rw [hsn]
      simp [useBy]
    obtain rfl : i = l.length := by omega
    rw [List.drop_length, List.foldl_nil] at ha
    have hsl := shutsI_len p l []
    have hsl2 : l.length * p.Valves.length ≤ 8 * 1000 := Nat.mul_le_mul hl8 hvl
    have q := shared_bo p (placeW p n 3 l) hpl hvl (by simp [placeW]) (by simp [placeW]; omega) (by simp [placeW]) (by simp only [placeW, shutsI]; simp at hsl; omega)
    simp [placeW, ha] at q
    have htl : List.take l.length (List.map useBy l) = List.map useBy l := List.take_of_length_le (by simp)
    simp [htl]
    refine callK_of q ?_
    simp [placeAsksF, c1, placeW, ha]
  simp [k2, k3]
  simp [placeAsksF, k2, k3]
end Go.HT
end
section
namespace Go.HT
open Go Go.Proofs
set_option maxRecDepth 100000
set_option maxHeartbeats 4000000
set_option linter.unusedSimpArgs false
set_option linter.unusedVariables false
def insAll (o l : List Str) : List Str := l.foldl (fun o n => insF n o) o
def shutsS (p : GPlant) (l : List Str) : List Str := l.foldl (fun o s => insAll o (besideF p s)) []
theorem insF_mem (n x : Str) : ∀ l : List Str, x ∈ insF n l → x = n ∨ x ∈ l
  | [], h => by simp [insF] at h; exact .inl h
  | y :: r, h => by
    unfold insF at h
    split at h
    · rcases List.mem_cons.1 h with rfl | h
      · simp
      · rcases insF_mem n x r h with h | h
        · exact .inl h
        · simp [h]
    · split at h
      · exact .inr h
      · rcases List.mem_cons.1 h with rfl | h
        · exact .inl rfl
        · exact .inr h
theorem insAll_mem (x : Str) : ∀ (l o : List Str), x ∈ insAll o l → x ∈ o ∨ x ∈ l
  | [], o, h => .inl h
  | n :: r, o, h => by
    rcases insAll_mem x r (insF n o) h with h | h
    · rcases insF_mem n x o h with rfl | h
      · simp
      · exact .inl h
    · simp [h]
theorem insAll_len : ∀ (l o : List Str), (insAll o l).length ≤ o.length + l.length
  | [], o => by simp [insAll]
  | s :: r, o => by
    have h1 := insAll_len r (insF s o)
    have h2 := insF_len s o
    simp only [insAll, List.foldl_cons, List.length_cons] at h1 ⊢; omega
theorem beside_valve (p : GPlant) (s x : Str) (h : x ∈ besideF p s) : valveB p x = true := by
  obtain ⟨v, hv, rfl⟩ := List.mem_map.1 h
  simp only [valveB, List.find?_isSome]
  exact ⟨v, (List.mem_filter.1 hv).1, by simp⟩
theorem shutsS_mem (p : GPlant) : ∀ (l o : List Str), (∀ x ∈ o, valveB p x = true) → ∀ x ∈ l.foldl (fun o s => insAll o (besideF p s)) o, valveB p x = true
  | [], o, h => h
  | s :: r, o, h => shutsS_mem p r _ fun x hx => by
    rcases insAll_mem x _ _ hx with hx | hx
    · exact h x hx
    · exact beside_valve p s x hx
theorem allP_mem {α : Type} {q : Option α → α → Bool} {g : α → Prop} (h : ∀ o x, q o x = true → g x) : ∀ {l : List α} {o : Option α}, allP q o l = true → ∀ x ∈ l, g x
  | [], _, _, x, hx => by simp at hx
  | y :: r, o, ha, x, hx => by
    simp only [allP, Bool.and_eq_true] at ha
    rcases List.mem_cons.1 hx with rfl | hx
    · exact h _ _ ha.1
    · exact allP_mem h ha.2 x hx
def placeWS (p : GPlant) (n k : Int) (l : List Str) : GClaimWant := ⟨n, k, [], l.map useBy, [], shutsS p l⟩
def placeAsksS (p : GPlant) (n k : Int) (l : List Str) : List GCtlAsk := if validF p = true then (if placesSF p l = true then (if (decide (k = 2) || decide (k = 3)) = true then sharedL p (placeWS p n k l) (stationsS p) else []) else []) else []
@[simp] theorem boRows_nil3 : boRows ([] : List (List UT)) = [] := rfl
def md23 : Modes where
  call := callM
  br := fun _ => false
  plan := fun i => match i with
    | 7 => .take 0 (.take 1 (.take 2 (.take 3 (.take 4 (.take 5 (.take 6 (.any 7 (.any 8 (.take 9 (.any 10 (.fin) (.non))) (.non)) (.non))))))))
    | 8 => .take 0 (.take 1 (.take 2 (.take 3 (.take 4 (.any 5 (.take 6 (.fin)) (.non))))))
    | 12 => .take 0 (.take 1 (.take 2 (.take 3 (.take 4 (.take 5 (.any 6 (.take 7 (.any 8 (.fin) (.non))) (.non)))))))
    | _ => .fin
@[simp] theorem md23_call (f i : Nat) : md23.call f i = callM f i := rfl
@[simp] theorem md23_br : md23.br = fun _ => false := rfl
@[simp] theorem md23_p7 : md23.plan 7 = .take 0 (.take 1 (.take 2 (.take 3 (.take 4 (.take 5 (.take 6 (.any 7 (.any 8 (.take 9 (.any 10 (.fin) (.non))) (.non)) (.non)))))))) := rfl
@[simp] theorem md23_p8 : md23.plan 8 = .take 0 (.take 1 (.take 2 (.take 3 (.take 4 (.any 5 (.take 6 (.fin)) (.non)))))) := rfl
@[simp] theorem md23_p12 : md23.plan 12 = .take 0 (.take 1 (.take 2 (.take 3 (.take 4 (.take 5 (.any 6 (.take 7 (.any 8 (.fin) (.non))) (.non))))))) := rfl
set_option maxHeartbeats 16000000 in
theorem CtlPlaceAsks_ok (p : GPlant) (n k : Int) (l : List Str) (hb : PB p) (h1 : l.length ≤ 1048576) :
    ACall PP 23 [.tmp (.agg [.tr (.sl .bo () 1 (enc cS p.Stuffs)), .tr (.sl .bo () 2 (enc cPlantFoe p.Foes)), .tr (.sl .bo () 3 (enc cPlantPlace p.Places)), .tr (.sl .bo () 4 (enc cPlantValve p.Valves))]), .tmp (.tr (.int .i64 n)), .tmp (.tr (.int .i64 k)), .tmp (.tr (.sl .bo () 1 (enc cS l)))] [] (.tmp (.tr (.sl .own () 7 (enc (cCtlAsk .own) (placeAsksS p n k l))))) [] [] := by
  refine ACall_intro md23 (na := 4) (bx := []) (by kernel_rfl) Tryz.func23 rfl rfl rfl (by simp [noBoR, noBoV, noBoL, noBoT]) (by simp [noBoL, noBoT]) (by simp [noBoRow, noBoT]) rfl rfl ?_
  have b3 := hb.pl
  simp
  refine callK_of (PlantValidS_ok .bo (by simp) p hb) ?_
  cases c1 : validF p
  · simp [placeAsksS, c1, chunk]
  have hval : p.Places.length ≤ 14 ∧ p.Valves.length ≤ 18 := by
    simp only [validF, placesF, valvesF, Bool.and_eq_true, decide_eq_true_eq] at c1
    exact ⟨c1.2.1.1, c1.2.2.1⟩
  simp
  refine callK_of (l31PlacesOk_ok .bo .bo (by simp) (by simp) p l (by omega) h1) ?_
  cases c2 : placesSF p l
  · simp [placeAsksS, c1, c2, chunk]
  have hl8 : l.length ≤ 8 := by
    simp only [placesSF, Bool.and_eq_true, decide_eq_true_eq] at c2
    exact c2.2.1
  have hpl : ∀ x ∈ l, placeB p x = true := by
    simp only [placesSF, Bool.and_eq_true] at c2
    exact allP_mem (fun o x h => by simp only [plcQ, Bool.and_eq_true] at h; exact h.1) c2.2.2
  by_cases k2 : k = 2
  · subst k2
    simp
    refine vc_loop2 [3, 4, 9, 10] (fun m S => ∃ (i : Nat) (o : List Str), m = l.length - i ∧ i ≤ l.length ∧ o.length ≤ i * 18 ∧ shutsS p l = (l.drop i).foldl (fun o s => insAll o (besideF p s)) o ∧
      S = [(3, .tmp (.tr (.sl .bo () 1 (enc cS l)))), (4, .box () [.tr (.sl .bo () 1 (enc cS p.Stuffs)), .tr (.sl .bo () 2 (enc cPlantFoe p.Foes)), .tr (.sl .bo () 3 (enc cPlantPlace p.Places)), .tr (.sl .bo () 4 (enc cPlantValve p.Valves))]), (9, .box () [.tr (.int .i64 n), .tr (.int .i64 2), .tr (.sl .own () 1 []), .tr (.sl .own () 3 (enc cClaimUse ((l.take i).map useBy))), .tr (.sl .own () 1 []), .tr (.sl .own () 1 (enc cS o))]), (10, .tmp (.tr (.int .i64 i)))]) l.length ?_ ?_
    · exact ⟨0, [], by simp, by simp, by simp, by simp [shutsS], by simp⟩
    rintro J hJ m S ⟨i, o, rfl, hi, ho, ha, rfl⟩
    by_cases hlt : i < l.length
    · have hd : l.drop i = l[i] :: l.drop (i + 1) := by simp
      rw [hd, List.foldl_cons] at ha
      have hbl := bes_len p l[i]
      have hsn := by_snoc l i hlt
      simp [hlt, chunk, hi]
      refine andK_i (by omega) fun _ => ?_
      refine callK_of (l4Beside_ok .bo (by simp) p l[i] (by omega)) ?_
      generalize besideF p l[i] = L at *
      simp [hlt, hi]
      refine vc_loop2 [3, 4, 9, 10, 11, 12] (fun m S => ∃ (j : Nat) (o2 : List Str), m = L.length - j ∧ j ≤ L.length ∧ o2.length ≤ o.length + j ∧ insAll o L = insAll o2 (L.drop j) ∧
        S = [(3, .tmp (.tr (.sl .bo () 1 (enc cS l)))), (4, .box () [.tr (.sl .bo () 1 (enc cS p.Stuffs)), .tr (.sl .bo () 2 (enc cPlantFoe p.Foes)), .tr (.sl .bo () 3 (enc cPlantPlace p.Places)), .tr (.sl .bo () 4 (enc cPlantValve p.Valves))]), (9, .box () [.tr (.int .i64 n), .tr (.int .i64 2), .tr (.sl .own () 1 []), .tr (.sl .own () 3 (enc cClaimUse ((l.take (i + 1)).map useBy))), .tr (.sl .own () 1 []), .tr (.sl .own () 1 (enc cS o2))]), (10, .tmp (.tr (.int .i64 i))), (11, .tmp (.tr (.sl .own () 1 (enc cS L)))), (12, .tmp (.tr (.int .i64 j)))]) L.length ?_ ?_
      · exact ⟨0, o, by simp, by simp, by simp, by simp, by rw [hsn]; simp [useBy]⟩
      rintro J2 hJ2 m S ⟨j, o2, rfl, hj, ho2, hc, rfl⟩
      by_cases hlt2 : j < L.length
      · have hd2 : L.drop j = L[j] :: L.drop (j + 1) := by simp
        rw [hd2] at hc
        have hc' : insAll o L = insAll (insF L[j] o2) (L.drop (j + 1)) := hc
        have hw := insF_len L[j] o2
        simp [hlt2]
        refine callK_of (l4Insert_ok o2 L[j] (by omega)) ?_
        simp [hlt2]
        refine andK_i (by omega) fun _ => ?_
        exact again_i hJ2 (m := L.length - (j + 1)) (by omega) ⟨j + 1, insF L[j] o2, rfl, by omega, by omega, hc', by simp⟩
      obtain rfl : j = L.length := by omega
      rw [List.drop_length] at hc
      simp
      refine andK_i (by omega) fun _ => ?_
      exact again_i hJ (m := l.length - (i + 1)) (by omega) ⟨i + 1, o2, rfl, by omega, by omega, by rw [ha, hc]; rfl, by simp⟩
    obtain rfl : i = l.length := by omega
    rw [List.drop_length, List.foldl_nil] at ha
    have hwk : WOk p (placeWS p n 2 l) := ⟨fun x hx => by
        simp only [placeWS, List.mem_map] at hx
        obtain ⟨y, hy, rfl⟩ := hx
        exact hpl y hy, fun x hx => by simp [placeWS] at hx, fun x hx => shutsS_mem p l [] (by simp) x hx⟩
    have q := l31Asks_ok .bo .bo (by simp) (by simp) p (placeWS p n 2 l) hb hwk (by omega) (by omega) (by simp [placeWS]) (by simp [placeWS]; omega) (by simp [placeWS]) (by simp only [placeWS, ha]; omega)
    simp [placeWS, ha] at q
    have htl : List.take l.length (List.map useBy l) = List.map useBy l := List.take_of_length_le (by simp)
    simp [htl]
    refine callK_of q ?_
    simp [placeAsksS, c1, c2, placeWS, ha]
  by_cases k3 : k = 3
  · subst k3
    simp
    refine vc_loop2 [3, 4, 9, 10] (fun m S => ∃ (i : Nat) (o : List Str), m = l.length - i ∧ i ≤ l.length ∧ o.length ≤ i * 18 ∧ shutsS p l = (l.drop i).foldl (fun o s => insAll o (besideF p s)) o ∧
      S = [(3, .tmp (.tr (.sl .bo () 1 (enc cS l)))), (4, .box () [.tr (.sl .bo () 1 (enc cS p.Stuffs)), .tr (.sl .bo () 2 (enc cPlantFoe p.Foes)), .tr (.sl .bo () 3 (enc cPlantPlace p.Places)), .tr (.sl .bo () 4 (enc cPlantValve p.Valves))]), (9, .box () [.tr (.int .i64 n), .tr (.int .i64 3), .tr (.sl .own () 1 []), .tr (.sl .own () 3 (enc cClaimUse ((l.take i).map useBy))), .tr (.sl .own () 1 []), .tr (.sl .own () 1 (enc cS o))]), (10, .tmp (.tr (.int .i64 i)))]) l.length ?_ ?_
    · exact ⟨0, [], by simp, by simp, by simp, by simp [shutsS], by simp⟩
    rintro J hJ m S ⟨i, o, rfl, hi, ho, ha, rfl⟩
    by_cases hlt : i < l.length
    · have hd : l.drop i = l[i] :: l.drop (i + 1) := by simp
      rw [hd, List.foldl_cons] at ha
      have hbl := bes_len p l[i]
      have hsn := by_snoc l i hlt
      simp [hlt, chunk, hi]
      refine andK_i (by omega) fun _ => ?_
      refine callK_of (l4Beside_ok .bo (by simp) p l[i] (by omega)) ?_
      generalize besideF p l[i] = L at *
      simp [hlt, hi]
      refine vc_loop2 [3, 4, 9, 10, 11, 12] (fun m S => ∃ (j : Nat) (o2 : List Str), m = L.length - j ∧ j ≤ L.length ∧ o2.length ≤ o.length + j ∧ insAll o L = insAll o2 (L.drop j) ∧
        S = [(3, .tmp (.tr (.sl .bo () 1 (enc cS l)))), (4, .box () [.tr (.sl .bo () 1 (enc cS p.Stuffs)), .tr (.sl .bo () 2 (enc cPlantFoe p.Foes)), .tr (.sl .bo () 3 (enc cPlantPlace p.Places)), .tr (.sl .bo () 4 (enc cPlantValve p.Valves))]), (9, .box () [.tr (.int .i64 n), .tr (.int .i64 3), .tr (.sl .own () 1 []), .tr (.sl .own () 3 (enc cClaimUse ((l.take (i + 1)).map useBy))), .tr (.sl .own () 1 []), .tr (.sl .own () 1 (enc cS o2))]), (10, .tmp (.tr (.int .i64 i))), (11, .tmp (.tr (.sl .own () 1 (enc cS L)))), (12, .tmp (.tr (.int .i64 j)))]) L.length ?_ ?_
      · exact ⟨0, o, by simp, by simp, by simp, by simp, by rw [hsn]; simp [useBy]⟩
      rintro J2 hJ2 m S ⟨j, o2, rfl, hj, ho2, hc, rfl⟩
      by_cases hlt2 : j < L.length
      · have hd2 : L.drop j = L[j] :: L.drop (j + 1) := by simp
        rw [hd2] at hc
        have hc' : insAll o L = insAll (insF L[j] o2) (L.drop (j + 1)) := hc
        have hw := insF_len L[j] o2
        simp [hlt2]
        refine callK_of (l4Insert_ok o2 L[j] (by omega)) ?_
        simp [hlt2]
        refine andK_i (by omega) fun _ => ?_
        exact again_i hJ2 (m := L.length - (j + 1)) (by omega) ⟨j + 1, insF L[j] o2, rfl, by omega, by omega, hc', by simp⟩
      obtain rfl : j = L.length := by omega
      rw [List.drop_length] at hc
      simp
      refine andK_i (by omega) fun _ => ?_
      exact again_i hJ (m := l.length - (i + 1)) (by omega) ⟨i + 1, o2, rfl, by omega, by omega, by rw [ha, hc]; rfl, by simp⟩
    obtain rfl : i = l.length := by omega
    rw [List.drop_length, List.foldl_nil] at ha
    have hwk : WOk p (placeWS p n 3 l) := ⟨fun x hx => by
        simp only [placeWS, List.mem_map] at hx
        obtain ⟨y, hy, rfl⟩ := hx
        exact hpl y hy, fun x hx => by simp [placeWS] at hx, fun x hx => shutsS_mem p l [] (by simp) x hx⟩
    have q := l31Asks_ok .bo .bo (by simp) (by simp) p (placeWS p n 3 l) hb hwk (by omega) (by omega) (by simp [placeWS]) (by simp [placeWS]; omega) (by simp [placeWS]) (by simp only [placeWS, ha]; omega)
    simp [placeWS, ha] at q
    have htl : List.take l.length (List.map useBy l) = List.map useBy l := List.take_of_length_le (by simp)
    simp [htl]
    refine callK_of q ?_
    simp [placeAsksS, c1, c2, placeWS, ha]
  simp [k2, k3, chunk]
  simp [placeAsksS, c1, c2, k2, k3]
end Go.HT
end
section
namespace Go.HT
open Go Go.Proofs
set_option maxRecDepth 100000
set_option maxHeartbeats 4000000
set_option linter.unusedSimpArgs false
set_option linter.unusedVariables false
def addG (r : GPlantRoute) (o : List Str) (n : Str) : List Str := if n ∈ r.Valves then o else insF n o
theorem addG_len (r : GPlantRoute) : ∀ (l o : List Str), (l.foldl (addG r) o).length ≤ o.length + l.length
  | [], o => by simp
  | s :: t, o => by
    have := addG_len r t (addG r o s)
    have := insF_len s o
    have : (addG r o s).length ≤ o.length + 1 := by unfold addG; split <;> omega
    simp; omega
theorem beside_len (p : GPlant) (s : Str) : (besideF p s).length ≤ p.Valves.length := by
  unfold besideF
  rw [List.length_map]
  exact List.length_filter_le _ _
def guardsS (p : GPlant) (r : GPlantRoute) : List Str := if (validF p && routeS p r) = true then r.Places.foldl (fun o s => (besideF p s).foldl (addG r) o) [] else []
def md51 : Modes where
  call := callM
  br := fun _ => false
  plan := fun i => match i with
    | 7 => .take 0 (.take 1 (.take 2 (.take 3 (.take 4 (.take 5 (.any 6 (.take 7 (.fin)) (.non)))))))
    | 11 => .take 0 (.take 1 (.take 2 (.take 3 (.take 4 (.take 5 (.any 6 (.take 7 (.fin)) (.non)))))))
    | _ => .fin
@[simp] theorem md51_call (f i : Nat) : md51.call f i = callM f i := rfl
@[simp] theorem md51_br : md51.br = fun _ => false := rfl
@[simp] theorem md51_p7 : md51.plan 7 = .take 0 (.take 1 (.take 2 (.take 3 (.take 4 (.take 5 (.any 6 (.take 7 (.fin)) (.non))))))) := rfl
@[simp] theorem md51_p11 : md51.plan 11 = .take 0 (.take 1 (.take 2 (.take 3 (.take 4 (.take 5 (.any 6 (.take 7 (.fin)) (.non))))))) := rfl
theorem PlantGuards_ok (κ κ' : Knd) (hκ : κ ≠ .own) (hκ' : κ' ≠ .own) (p : GPlant) (r : GPlantRoute) (hb : PB p) (hp : r.Places.length ≤ 1048576) (hv : r.Valves.length ≤ 1048576) (hvv : validF p = true → p.Valves.length ≤ 100000) :
    ACall PP 51 [.tmp (.agg [.tr (.sl κ () 1 (enc cS p.Stuffs)), .tr (.sl κ () 2 (enc cPlantFoe p.Foes)), .tr (.sl κ () 3 (enc cPlantPlace p.Places)), .tr (.sl κ () 4 (enc cPlantValve p.Valves))]), .tmp (.agg [.tr (.sl κ' () 1 (enc cS r.Places)), .tr (.sl κ' () 1 (enc cS r.Valves))])] [] (.tmp (.tr (.sl .own () 1 (enc cS (guardsS p r))))) [] [] := by
  refine ACall_intro md51 (na := 2) (bx := []) (by kernel_rfl) Tryz.func51 rfl rfl rfl (by simp [noBoR, noBoV, noBoL, noBoT]) (by simp [noBoL, noBoT]) (by simp [noBoRow, noBoT]) rfl rfl ?_
  have b4 := hb.vl
  simp [hκ, hκ', chunk]
  refine callK_of (PlantValidS_ok _ (by simp [hκ]) p hb) ?_
  cases c1 : validF p
  · simp [hκ, hκ', guardsS, c1]
  have hvv := hvv c1
  simp [hκ, hκ']
  refine callK_of (l5RouteOk_ok _ _ (by simp [hκ]) (by simp [hκ']) p r hb (by omega) (by omega)) ?_
  cases c2 : routeS p r
  · simp [hκ, hκ', guardsS, c1, c2]
  simp [hκ, hκ']
  refine vc_loop2 [2, 3, 5, 6] (fun m S => ∃ (i : Nat) (o : List Str), m = r.Places.length - i ∧ i ≤ r.Places.length ∧ o.length ≤ i * 100000 ∧ r.Places.foldl (fun o s => (besideF p s).foldl (addG r) o) [] = (r.Places.drop i).foldl (fun o s => (besideF p s).foldl (addG r) o) o ∧
    S = [(2, .box () [.tr (.sl κ () 1 (enc cS p.Stuffs)), .tr (.sl κ () 2 (enc cPlantFoe p.Foes)), .tr (.sl κ () 3 (enc cPlantPlace p.Places)), .tr (.sl κ () 4 (enc cPlantValve p.Valves))]), (3, .box () [.tr (.sl κ' () 1 (enc cS r.Places)), .tr (.sl κ' () 1 (enc cS r.Valves))]), (5, .tmp (.tr (.sl .own () 1 (enc cS o)))), (6, .tmp (.tr (.int .i64 i)))]) r.Places.length ?_ ?_
  · exact ⟨0, [], by simp, by simp, by simp, by simp, by simp⟩
  rintro J hJ m S ⟨i, o, rfl, hi, ho, ha, rfl⟩
  by_cases hlt : i < r.Places.length
  · have hd : r.Places.drop i = r.Places[i] :: r.Places.drop (i + 1) := by simp
    rw [hd, List.foldl_cons] at ha
    simp [hκ, hκ', hlt]
    refine callK_of (l4Beside_ok _ (by simp [hκ]) p r.Places[i] (by omega)) ?_
    have hbl := beside_len p r.Places[i]
    generalize besideF p r.Places[i] = L at *
    simp [hκ, hκ', hlt]
    refine vc_loop2 [2, 3, 5, 6, 7, 8] (fun m S => ∃ (j : Nat) (o2 : List Str), m = L.length - j ∧ j ≤ L.length ∧ o2.length ≤ o.length + j ∧ L.foldl (addG r) o = (L.drop j).foldl (addG r) o2 ∧
      S = [(2, .box () [.tr (.sl κ () 1 (enc cS p.Stuffs)), .tr (.sl κ () 2 (enc cPlantFoe p.Foes)), .tr (.sl κ () 3 (enc cPlantPlace p.Places)), .tr (.sl κ () 4 (enc cPlantValve p.Valves))]), (3, .box () [.tr (.sl κ' () 1 (enc cS r.Places)), .tr (.sl κ' () 1 (enc cS r.Valves))]), (5, .tmp (.tr (.sl .own () 1 (enc cS o2)))), (6, .tmp (.tr (.int .i64 i))), (7, .tmp (.tr (.sl .own () 1 (enc cS L)))), (8, .tmp (.tr (.int .i64 j)))]) L.length ?_ ?_
    · exact ⟨0, o, by simp, by simp, by simp, by simp, by simp⟩
    rintro J2 hJ2 m S ⟨j, o2, rfl, hj, ho2, hc, rfl⟩
    by_cases hlt2 : j < L.length
    · have hd2 : L.drop j = L[j] :: L.drop (j + 1) := by simp
      rw [hd2, List.foldl_cons] at hc
      have hw := insF_len L[j] o2
      simp [hκ, hκ', hlt2]
      refine callK_of (l2Has_ok _ (by simp [hκ']) _ _ (by omega)) ?_
      by_cases hm : L[j] ∈ r.Valves
      · simp [addG, hm] at hc
        simp [hκ, hκ', hlt2, hm]
        refine andK_i (by omega) fun _ => ?_
        exact again_i hJ2 (m := L.length - (j + 1)) (by omega) ⟨j + 1, o2, rfl, by omega, by omega, by simpa [addG] using hc, by simp⟩
      · simp [addG, hm] at hc
        simp [hκ, hκ', hlt2, hm]
        refine callK_of (l4Insert_ok o2 L[j] (by omega)) ?_
        simp [hκ, hκ', hlt2, hm]
        refine andK_i (by omega) fun _ => ?_
        exact again_i hJ2 (m := L.length - (j + 1)) (by omega) ⟨j + 1, insF L[j] o2, rfl, by omega, by omega, by simpa [addG] using hc, by simp⟩
    obtain rfl : j = L.length := by omega
    simp at hc
    simp [hκ, hκ']
    refine andK_i (by omega) fun _ => ?_
    exact again_i hJ (m := r.Places.length - (i + 1)) (by omega) ⟨i + 1, o2, rfl, by omega, by omega, by rw [ha, hc], by simp⟩
  obtain rfl : i = r.Places.length := by omega
  simp at ha
  simp [hκ, hκ', guardsS, c1, c2, ha]
end Go.HT
end
section
namespace Go.HT
open Go Go.Proofs
set_option maxRecDepth 100000
set_option maxHeartbeats 4000000
set_option linter.unusedSimpArgs false
set_option linter.unusedVariables false
def useN (l : List Str) (am : Int) (i : Nat) : GClaimUse := if i = 0 then ⟨l.getD i [], 1, am⟩ else if i + 1 = l.length then ⟨l.getD i [], 2, am⟩ else ⟨l.getD i [], 3, 0⟩
def usesL (l : List Str) (am : Int) : List GClaimUse := (List.range l.length).map (useN l am)
def routeW (p : GPlant) (n : Int) (r : GPlantRoute) (st : List Str) (am : Int) : GClaimWant := ⟨n, 1, st, sortU (usesL r.Places am), withF [] r.Valves, guardsF p r⟩
def routeAsksF (p : GPlant) (n : Int) (r : GPlantRoute) (st : List Str) (am : Int) : List GCtlAsk := if isRouteF p r = true then sharedL p (routeW p n r st am) (stationsF p) else []
theorem guards_len (p : GPlant) (r : GPlantRoute) : (guardsF p r).length ≤ p.Valves.length := by
  unfold guardsF
  rw [List.length_map]
  exact List.length_filter_le _ _
@[simp] theorem flat_U (l : List GClaimUse) : flatRows (enc cClaimUse l) = true := flat_enc (fun x => by simp [Tr.flat]) l
theorem use_snoc (l : List Str) (am : Int) (i : Nat) : (List.range (i + 1)).map (useN l am) = (List.range i).map (useN l am) ++ [useN l am i] := by
  rw [List.range_succ, List.map_append]; rfl
@[simp] theorem boRows_nil' : boRows ([] : List (List UT)) = [] := rfl
def md66 : Modes where
  call := callM
  br := fun _ => false
  plan := fun i => match i with
    | 3 => .take 0 (.take 1 (.take 2 (.take 3 (.take 5 (.take 6 (.any 4 (.any 7 (.take 8 (.any 9 (.any 10 (.fin) (.non)) (.non))) (.any 9 (.any 7 (.take 8 (.any 10 (.fin) (.non))) (.non)) (.non))) (.any 9 (.any 4 (.any 7 (.take 8 (.any 10 (.fin) (.non))) (.non)) (.non)) (.non))))))))
    | _ => .fin
@[simp] theorem md66_call (f i : Nat) : md66.call f i = callM f i := rfl
@[simp] theorem md66_br : md66.br = fun _ => false := rfl
@[simp] theorem md66_p3 : md66.plan 3 = .take 0 (.take 1 (.take 2 (.take 3 (.take 5 (.take 6 (.any 4 (.any 7 (.take 8 (.any 9 (.any 10 (.fin) (.non)) (.non))) (.any 9 (.any 7 (.take 8 (.any 10 (.fin) (.non))) (.non)) (.non))) (.any 9 (.any 4 (.any 7 (.take 8 (.any 10 (.fin) (.non))) (.non)) (.non)) (.non)))))))) := rfl
set_option maxHeartbeats 16000000 in
theorem routeAsks_ok (p : GPlant) (n : Int) (r : GPlantRoute) (st : List Str) (am : Int) (hb : PB p) (hpl : p.Places.length ≤ 1000) (hvl : p.Valves.length ≤ 1000) (h1 : r.Places.length ≤ 1048576) (h2 : r.Valves.length ≤ 1048576) (h3 : st.length ≤ 1048576) :
    ACall PP 66 [.tmp (.agg [.tr (.sl .bo () 1 (enc cS p.Stuffs)), .tr (.sl .bo () 2 (enc cPlantFoe p.Foes)), .tr (.sl .bo () 3 (enc cPlantPlace p.Places)), .tr (.sl .bo () 4 (enc cPlantValve p.Valves))]), .tmp (.tr (.int .i64 n)), .tmp (.agg [.tr (.sl .bo () 1 (enc cS r.Places)), .tr (.sl .bo () 1 (enc cS r.Valves))]), .tmp (.tr (.sl .bo () 1 (enc cS st))), .tmp (.tr (.int .i64 am))] [] (.tmp (.tr (.sl .own () 7 (enc (cCtlAsk .own) (routeAsksF p n r st am))))) [] [] := by
  refine ACall_intro md66 (na := 5) (bx := []) (by kernel_rfl) Tryz.func66 rfl rfl rfl (by simp [noBoR, noBoV, noBoL, noBoT]) (by simp [noBoL, noBoT]) (by simp [noBoRow, noBoT]) rfl rfl ?_
  simp
  refine callK_of (isRoute_ok .bo .bo (by simp) (by simp) p r hb h1 h2) ?_
  cases c1 : isRouteF p r
  · simp [routeAsksF, c1]
  have hn2 : 2 ≤ r.Places.length := by
    simp only [isRouteF, Bool.and_eq_true, decide_eq_true_eq] at c1
    exact c1.1
  simp [-vcPlan_any]
  have q1 := with_ok .bo .bo (by simp) (by simp) [] r.Valves (by simp; omega)
  have q2 := guards_ok .bo .bo (by simp) (by simp) p r (by omega) h1 h2
  simp only [enc_nil] at q1
  refine any2 (S' := ?_) (fun K hK => ?_) (fun K hK => ?_) ?_
  rotate_left
  · simp [-vcPlan_any]
    refine callK_of q1 ?_
    simp [-vcPlan_any]
    refine any2 (S' := ?_) (fun K2 hK2 => ?_) (fun K2 hK2 => ?_) ?_
    rotate_left
    · simp [-vcPlan_any]
      refine callK_of q2 ?_
      simp [-vcPlan_any]
      exact hK2
    · simp [-vcPlan_any]
      refine callK_of q2 ?_
      simp [-vcPlan_any]
      exact hK2
    exact hK
  · simp [-vcPlan_any]
    refine callK_of q1 ?_
    simp [-vcPlan_any]
    refine callK_of q2 ?_
    simp [-vcPlan_any]
    exact hK
  simp [-vcPlan_any]
  refine vc_loop2 [4, 5, 7, 11, 29, 30, 31] (fun m S => ∃ (i : Nat), m = r.Places.length - i ∧ i ≤ r.Places.length ∧
    S = [(4, .tmp (.tr (.int .i64 am))), (5, .box () [.tr (.sl .bo () 1 (enc cS p.Stuffs)), .tr (.sl .bo () 2 (enc cPlantFoe p.Foes)), .tr (.sl .bo () 3 (enc cPlantPlace p.Places)), .tr (.sl .bo () 4 (enc cPlantValve p.Valves))]), (7, .box () [.tr (.sl .bo () 1 (enc cS r.Places)), .tr (.sl .bo () 1 (enc cS r.Valves))]), (11, .box () [.tr (.int .i64 n), .tr (.int .i64 1), .tr (.sl .bo () 1 (enc cS st)), .tr (.sl .own () 3 (enc cClaimUse ((List.range i).map (useN r.Places am)))), .tr (.sl .own () 1 (enc cS (withF [] r.Valves))), .tr (.sl .own () 1 (enc cS (guardsF p r)))]),
      (29, .tmp (.tr (.sl .bo () 1 (enc cS r.Places)))), (30, .tmp (.tr (.int .i64 r.Places.length))), (31, .tmp (.tr (.int .i64 i)))]) r.Places.length ?_ ?_
  · exact ⟨0, by simp, by simp, by simp⟩
  rintro J hJ m S ⟨i, rfl, hi, rfl⟩
  by_cases hlt : i < r.Places.length
  · have hg : r.Places.getD i [] = r.Places[i] := by simp [hlt]
    have hs := use_snoc r.Places am i
    by_cases z : i = 0
    · subst z
      simp [hlt, chunk]
      repeat' (refine andK_i (by omega) fun _ => ?_)
      refine again_i hJ (m := r.Places.length - 1) (by omega) ⟨1, rfl, by omega, ?_⟩
      simp [useN, hlt, enc]
    · have z' : ((i : Int) = 0) = False := eq_false (by omega)
      by_cases y : i + 1 = r.Places.length
      · have y' : ((i : Int) = (r.Places.length : Int) - 1) = True := eq_true (by omega)
        simp [hlt, z, y', chunk]
        refine andK_i (by omega) fun _ => andK_i (by omega) fun _ => andK_i (by omega) fun _ => ?_
        refine again_i hJ (m := r.Places.length - (i + 1)) (by omega) ⟨i + 1, rfl, by omega, ?_⟩
        rw [hs]
        simp [useN, hlt, z, y]
        try omega
      · have y' : ((i : Int) = (r.Places.length : Int) - 1) = False := eq_false (by omega)
        simp [hlt, z, y', chunk]
        refine andK_i (by omega) fun _ => andK_i (by omega) fun _ => andK_i (by omega) fun _ => ?_
        refine again_i hJ (m := r.Places.length - (i + 1)) (by omega) ⟨i + 1, rfl, by omega, ?_⟩
        rw [hs]
        simp [useN, hlt, z, y]
        try omega
  obtain rfl : i = r.Places.length := by omega
  have hne : ¬ enc cClaimUse (List.map (useN r.Places am) (List.range r.Places.length)) = [] := by
    rw [enc_eq_nil]
    intro h
    have h0 : (List.map (useN r.Places am) (List.range r.Places.length)).length = r.Places.length := by simp
    rw [h, List.length_nil] at h0
    omega
  simp [hne]
  refine andK_i (by decide +kernel) fun _ => ?_
  refine sortK_of (useSort_ok (List.map (useN r.Places am) (List.range r.Places.length)) (by simpa using hn2) (by simp; omega)) (by simp) (by simp) ?_
  simp
  have hso : (sortU (List.map (useN r.Places am) (List.range r.Places.length))).length ≤ 1048576 := by rw [sortU_length]; simpa using h1
  have hwl := withF_len [] r.Valves
  have hgl := guards_len p r
  refine callK_of (shared_bo p (routeW p n r st am) hpl hvl h3 hso (by simp only [routeW]; simp at hwl; omega) (by simp only [routeW]; omega)) ?_
  simp [routeAsksF, c1]
end Go.HT
end
section
namespace Go.HT
open Go Go.Proofs
set_option maxRecDepth 100000
set_option maxHeartbeats 4000000
set_option linter.unusedSimpArgs false
set_option linter.unusedVariables false
/-- A use, put among others. -/
def insU (u : GClaimUse) : List GClaimUse → List GClaimUse
  | [] => [u]
  | x :: r => if strLt x.Name u.Name = true then x :: insU u r else u :: x :: r
theorem insU_len (u : GClaimUse) : ∀ l : List GClaimUse, (insU u l).length = l.length + 1
  | [] => by simp [insU]
  | x :: r => by
    have := insU_len u r
    unfold insU
    split <;> simp [this]
def md52 : Modes where
  call := callM
  br := fun _ => false
  plan := fun i => match i with
    | 2 => .take 0 (.take 1 (.take 2 (.take 3 (.take 4 (.take 5 (.take 6 (.take 7 (.take 8 (.take 9 (.take 10 (.take 11 (.take 12 (.take 13 (.fin))))))))))))))
    | 4 => .take 1 (.take 2 (.take 3 (.take 8 (.take 9 (.take 10 (.any 0 (.any 4 (.take 5 (.any 6 (.any 7 (.any 11 (.take 12 (.fin)) (.non)) (.non)) (.non))) (.any 5 (.any 4 (.any 6 (.any 7 (.any 11 (.take 12 (.fin)) (.non)) (.non)) (.non)) (.any 6 (.any 4 (.any 7 (.any 11 (.take 12 (.fin)) (.non)) (.non)) (.non)) (.non))) (.non))) (.any 5 (.any 0 (.any 4 (.any 6 (.any 7 (.any 11 (.take 12 (.fin)) (.non)) (.non)) (.non)) (.any 6 (.any 4 (.any 7 (.any 11 (.take 12 (.fin)) (.non)) (.non)) (.non)) (.non))) (.any 6 (.any 0 (.any 4 (.any 7 (.any 11 (.take 12 (.fin)) (.non)) (.non)) (.non)) (.non)) (.non))) (.non))))))))
    | _ => .fin
@[simp] theorem md52_call (f i : Nat) : md52.call f i = callM f i := rfl
@[simp] theorem md52_br : md52.br = fun _ => false := rfl
@[simp] theorem md52_p2 : md52.plan 2 = .take 0 (.take 1 (.take 2 (.take 3 (.take 4 (.take 5 (.take 6 (.take 7 (.take 8 (.take 9 (.take 10 (.take 11 (.take 12 (.take 13 (.fin)))))))))))))) := rfl
@[simp] theorem md52_p4 : md52.plan 4 = .take 1 (.take 2 (.take 3 (.take 8 (.take 9 (.take 10 (.any 0 (.any 4 (.take 5 (.any 6 (.any 7 (.any 11 (.take 12 (.fin)) (.non)) (.non)) (.non))) (.any 5 (.any 4 (.any 6 (.any 7 (.any 11 (.take 12 (.fin)) (.non)) (.non)) (.non)) (.any 6 (.any 4 (.any 7 (.any 11 (.take 12 (.fin)) (.non)) (.non)) (.non)) (.non))) (.non))) (.any 5 (.any 0 (.any 4 (.any 6 (.any 7 (.any 11 (.take 12 (.fin)) (.non)) (.non)) (.non)) (.any 6 (.any 4 (.any 7 (.any 11 (.take 12 (.fin)) (.non)) (.non)) (.non)) (.non))) (.any 6 (.any 0 (.any 4 (.any 7 (.any 11 (.take 12 (.fin)) (.non)) (.non)) (.non)) (.non)) (.non))) (.non)))))))) := rfl
theorem l31Use_ok (κ : Knd) (hκ : κ ≠ .own) (l : List GClaimUse) (u : GClaimUse) (hl : l.length ≤ 1099511627776) :
    ACall PP 52 [.tmp (.tr (.sl κ () 3 (enc cClaimUse l))), .tmp (.agg [.tr (.str u.Name), .tr (.int .i64 u.Role), .tr (.int .i64 u.Amount)])] [] (.tmp (.tr (.sl .own () 3 (enc cClaimUse (insU u l))))) [] [] := by
  refine ACall_intro md52 (na := 2) (bx := []) (by kernel_rfl) Tryz.func52 rfl rfl rfl (by simp [noBoR, noBoV, noBoL, noBoT]) (by simp [noBoL, noBoT]) (by simp [noBoRow, noBoT]) rfl rfl ?_
  simp [hκ]
  refine vc_loop2 [0, 3, 5] (fun m S => ∃ (i : Nat), m = l.length - i ∧ i ≤ l.length ∧ insU u l = l.take i ++ insU u (l.drop i) ∧
    S = [(0, .tmp (.tr (.sl κ () 3 (enc cClaimUse l)))), (3, .box () [.tr (.str u.Name), .tr (.int .i64 u.Role), .tr (.int .i64 u.Amount)]), (5, .tmp (.tr (.int .i64 i)))]) l.length ?_ ?_
  · exact ⟨0, by simp, by simp, by simp, by simp⟩
  · rintro J hJ m S ⟨i, rfl, hi, ha, rfl⟩
    by_cases hlt : i < l.length
    · have hd : l.drop i = l[i] :: l.drop (i + 1) := by simp
      have ht : l.take (i + 1) = l.take i ++ [l[i]] := by simp
      rw [hd, insU] at ha
      have hdl : List.take (l.length - i) (List.drop i l) = List.drop i l := List.take_of_length_le (by simp)
      cases hs : strLt l[i].Name u.Name
      · rw [if_neg (by simp [hs]), ← hd] at ha
        simp [-vcPlan_any, hκ, hlt, hs, chunk, hi]
        repeat' (first
          | (rw [vcPlan_any]; refine ⟨?_, ?_⟩)
          | (refine andK_i (by first | omega | (simp; omega)) fun _ => ?_)
          | (simp [-vcPlan_any, hκ, hlt, hs, chunk, hi, ha, hdl]))
        all_goals trace_state
      · rw [if_pos hs] at ha
        simp [hκ, hlt, hs]
        refine andK_i (by omega) fun _ => ?_
        exact again_i hJ (m := l.length - (i + 1)) (by omega) ⟨i + 1, rfl, by omega, by rw [ha, ht, List.append_assoc]; rfl, by simp⟩
    · obtain rfl : i = l.length := by omega
      simp [insU] at ha
      simp [-vcPlan_any, hκ, chunk]
      repeat' (first
        | (rw [vcPlan_any]; refine ⟨?_, ?_⟩)
        | (refine andK_i (by first | omega | (simp; omega)) fun _ => ?_)
        | (simp [-vcPlan_any, hκ, chunk, ha]))
      all_goals trace_state
end Go.HT
end
section
namespace Go.HT
open Go Go.Proofs
set_option maxRecDepth 100000
set_option maxHeartbeats 4000000
set_option linter.unusedSimpArgs false
set_option linter.unusedVariables false
def usesS (l : List Str) (am : Int) : List GClaimUse := (List.range l.length).foldl (fun o i => insU (useN l am i) o) []
def routeWS (p : GPlant) (n : Int) (r : GPlantRoute) (st : List Str) (am : Int) : GClaimWant := ⟨n, 1, st, usesS r.Places am, insAll [] r.Valves, guardsS p r⟩
def routeAsksS (p : GPlant) (n : Int) (r : GPlantRoute) (st : List Str) (am : Int) : List GCtlAsk := if validF p = true then (if routeS p r = true then sharedL p (routeWS p n r st am) (stationsS p) else []) else []
theorem insU_mem (u x : GClaimUse) : ∀ l : List GClaimUse, x ∈ insU u l → x = u ∨ x ∈ l
  | [], h => by simp [insU] at h; exact .inl h
  | y :: r, h => by
    unfold insU at h
    split at h
    · rcases List.mem_cons.1 h with rfl | h
      · simp
      · rcases insU_mem u x r h with h | h
        · exact .inl h
        · simp [h]
    · rcases List.mem_cons.1 h with rfl | h
      · exact .inl rfl
      · exact .inr h
theorem uses_mem (l : List Str) (am : Int) (x : GClaimUse) : ∀ (R : List Nat) (o : List GClaimUse), x ∈ R.foldl (fun o i => insU (useN l am i) o) o → x ∈ o ∨ ∃ i ∈ R, x = useN l am i
  | [], o, h => .inl h
  | i :: R, o, h => by
    rcases uses_mem l am x R _ h with h | ⟨j, hj, h⟩
    · rcases insU_mem _ _ _ h with rfl | h
      · exact .inr ⟨i, by simp, rfl⟩
      · exact .inl h
    · exact .inr ⟨j, by simp [hj], h⟩
theorem uses_len (l : List Str) (am : Int) : ∀ (R : List Nat) (o : List GClaimUse), (R.foldl (fun o i => insU (useN l am i) o) o).length = o.length + R.length
  | [], o => rfl
  | i :: R, o => by
    rw [List.foldl_cons, uses_len l am R, insU_len, List.length_cons]; omega
theorem useN_name (l : List Str) (am : Int) (i : Nat) : (useN l am i).Name = l.getD i [] := by
  unfold useN; split
  · rfl
  · split <;> rfl
theorem guardsS_mem (p : GPlant) (r : GPlantRoute) : ∀ x ∈ guardsS p r, valveB p x = true := by
  have h1 : ∀ (l o : List Str), (∀ x ∈ o, valveB p x = true) → (∀ x ∈ l, valveB p x = true) → ∀ x ∈ l.foldl (addG r) o, valveB p x = true := by
    intro l
    induction l with
    | nil => exact fun o h _ => h
    | cons n t ih =>
      intro o ho hl
      refine ih (addG r o n) (fun x hx => ?_) (fun x hx => hl x (by simp [hx]))
      unfold addG at hx
      split at hx
      · exact ho x hx
      · rcases insF_mem _ _ _ hx with rfl | hx
        · exact hl _ (by simp)
        · exact ho x hx
  have h2 : ∀ (l o : List Str), (∀ x ∈ o, valveB p x = true) → ∀ x ∈ l.foldl (fun o s => (besideF p s).foldl (addG r) o) o, valveB p x = true := by
    intro l
    induction l with
    | nil => exact fun o h => h
    | cons s t ih => exact fun o ho => ih _ (h1 _ _ ho (fun x hx => beside_valve p s x hx))
  unfold guardsS
  split
  · exact h2 _ _ (by simp)
  · simp
theorem guardsS_len (p : GPlant) (r : GPlantRoute) : (guardsS p r).length ≤ r.Places.length * p.Valves.length := by
  have h2 : ∀ (l o : List Str), (l.foldl (fun o s => (besideF p s).foldl (addG r) o) o).length ≤ o.length + l.length * p.Valves.length := by
    intro l
    induction l with
    | nil => intro o; simp
    | cons s t ih =>
      intro o
      have h1 := ih ((besideF p s).foldl (addG r) o)
      have h3 := addG_len r (besideF p s) o
      have h4 := beside_len p s
      have h5 : (t.length + 1) * p.Valves.length = t.length * p.Valves.length + p.Valves.length := by rw [Nat.add_mul, Nat.one_mul]
      simp only [List.foldl_cons, List.length_cons, h5]
      omega
  unfold guardsS
  split
  · simpa using h2 r.Places []
  · simp
theorem route_places (p : GPlant) (r : GPlantRoute) (h : routeS p r = true) (i : Nat) (hi : i < r.Places.length) : placeB p (r.Places.getD i []) = true := by
  simp only [routeS, Bool.and_eq_true] at h
  have h1 := allN_spec.1 h.2.2.2.2 i hi
  simp only [rtS, Bool.and_eq_true, decide_eq_true_eq] at h1
  have h2 := h1.1
  unfold capF at h2
  split at h2
  · assumption
  · omega
theorem route_valves (p : GPlant) (r : GPlantRoute) (h : routeS p r = true) : ∀ x ∈ r.Valves, valveB p x = true := by
  intro x hx
  simp only [routeS, Bool.and_eq_true, decide_eq_true_eq] at h
  obtain ⟨i, hi, rfl⟩ := List.getElem_of_mem hx
  have h1 := allN_spec.1 h.2.2.2.2 (i + 1) (by omega)
  simp only [rtS, Bool.and_eq_true, Bool.or_eq_true, decide_eq_true_eq] at h1
  have h2 := h1.2.2.2
  rcases h2 with h2 | h2
  · omega
  · simp only [joinsF, Bool.and_eq_true] at h2
    have h3 := h2.1
    simpa [hi] using h3
def md22 : Modes where
  call := callM
  br := fun _ => false
  plan := fun i => match i with
    | 19 => .take 0 (.take 1 (.take 2 (.take 3 (.take 4 (.take 5 (.take 6 (.any 7 (.take 8 (.any 9 (.fin) (.non))) (.non))))))))
    | _ => .fin
@[simp] theorem md22_call (f i : Nat) : md22.call f i = callM f i := rfl
@[simp] theorem md22_br : md22.br = fun _ => false := rfl
@[simp] theorem md22_p19 : md22.plan 19 = .take 0 (.take 1 (.take 2 (.take 3 (.take 4 (.take 5 (.take 6 (.any 7 (.take 8 (.any 9 (.fin) (.non))) (.non)))))))) := rfl
set_option maxHeartbeats 16000000 in
theorem CtlRouteAsks_ok (p : GPlant) (n : Int) (r : GPlantRoute) (st : List Str) (am : Int) (hb : PB p) (h1 : r.Places.length ≤ 1048576) (h2 : r.Valves.length ≤ 1048576) (h3 : st.length ≤ 1048576) :
    ACall PP 22 [.tmp (.agg [.tr (.sl .bo () 1 (enc cS p.Stuffs)), .tr (.sl .bo () 2 (enc cPlantFoe p.Foes)), .tr (.sl .bo () 3 (enc cPlantPlace p.Places)), .tr (.sl .bo () 4 (enc cPlantValve p.Valves))]), .tmp (.tr (.int .i64 n)), .tmp (.agg [.tr (.sl .bo () 1 (enc cS r.Places)), .tr (.sl .bo () 1 (enc cS r.Valves))]), .tmp (.tr (.sl .bo () 1 (enc cS st))), .tmp (.tr (.int .i64 am))] [] (.tmp (.tr (.sl .own () 7 (enc (cCtlAsk .own) (routeAsksS p n r st am))))) [] [] := by
  refine ACall_intro md22 (na := 5) (bx := []) (by kernel_rfl) Tryz.func22 rfl rfl rfl (by simp [noBoR, noBoV, noBoL, noBoT]) (by simp [noBoL, noBoT]) (by simp [noBoRow, noBoT]) rfl rfl ?_
  simp
  refine callK_of (PlantValidS_ok .bo (by simp) p hb) ?_
  cases c1 : validF p
  · simp [routeAsksS, c1, chunk]
  have hval : p.Places.length ≤ 14 ∧ p.Valves.length ≤ 18 := by
    simp only [validF, placesF, valvesF, Bool.and_eq_true, decide_eq_true_eq] at c1
    exact ⟨c1.2.1.1, c1.2.2.1⟩
  simp
  refine callK_of (l5RouteOk_ok .bo .bo (by simp) (by simp) p r hb h1 h2) ?_
  cases c2 : routeS p r
  · simp [routeAsksS, c1, c2, chunk]
  have hn2 : 2 ≤ r.Places.length := by
    simp only [routeS, Bool.and_eq_true, decide_eq_true_eq] at c2
    exact c2.1
  simp
  refine callK_of (PlantGuards_ok .bo .bo (by simp) (by simp) p r hb h1 h2 (fun _ => by omega)) ?_
  simp
  refine vc_loop2 [4, 5, 7, 11, 12, 13] (fun m S => ∃ (i : Nat) (o : List GClaimUse), m = r.Places.length - i ∧ i ≤ r.Places.length ∧ o.length = i ∧ o = (List.range i).foldl (fun o i => insU (useN r.Places am i) o) [] ∧
    S = [(4, .tmp (.tr (.int .i64 am))), (5, .box () [.tr (.sl .bo () 1 (enc cS p.Stuffs)), .tr (.sl .bo () 2 (enc cPlantFoe p.Foes)), .tr (.sl .bo () 3 (enc cPlantPlace p.Places)), .tr (.sl .bo () 4 (enc cPlantValve p.Valves))]), (7, .box () [.tr (.sl .bo () 1 (enc cS r.Places)), .tr (.sl .bo () 1 (enc cS r.Valves))]), (11, .box () [.tr (.int .i64 n), .tr (.int .i64 1), .tr (.sl .bo () 1 (enc cS st)), .tr (.sl .own () 3 (enc cClaimUse o)), .tr (.sl .own () 1 []), .tr (.sl .own () 1 (enc cS (guardsS p r)))]),
      (12, .tmp (.tr (.int .i64 r.Places.length))), (13, .tmp (.tr (.int .i64 i)))]) r.Places.length ?_ ?_
  · exact ⟨0, [], by simp, by simp, by simp, by simp, by simp⟩
  rintro J hJ m S ⟨i, o, rfl, hi, ho, ha, rfl⟩
  by_cases hlt : i < r.Places.length
  · have hs : insU (useN r.Places am i) o = (List.range (i + 1)).foldl (fun o i => insU (useN r.Places am i) o) [] := by
      rw [List.range_succ, List.foldl_append, ← ha]; rfl
    have hw := insU_len (useN r.Places am i) o
    have q := l31Use_ok .bo (by simp) o (useN r.Places am i) (by omega)
    by_cases z : i = 0
    · subst z
      have y' : ((0 : Int) = (r.Places.length : Int) - 1) = False := eq_false (by omega)
      simp [useN, hlt] at q
      simp [hlt, y']
      refine andK_i (by omega) fun _ => ?_
      refine callK_of q ?_
      simp [hlt]
      exact again_i hJ (m := r.Places.length - 1) (by omega) ⟨1, insU (useN r.Places am 0) o, rfl, by omega, by omega, hs, by simp [useN, hlt]⟩
    · by_cases y : i + 1 = r.Places.length
      · have y' : ((i : Int) = (r.Places.length : Int) - 1) = True := eq_true (by omega)
        simp [useN, hlt, z, y] at q
        simp [hlt, z, y']
        refine andK_i (by omega) fun _ => ?_
        refine callK_of q ?_
        simp [hlt]
        refine andK_i (by omega) fun _ => ?_
        refine again_i hJ (m := r.Places.length - (i + 1)) (by omega) ⟨i + 1, insU (useN r.Places am i) o, rfl, by omega, by omega, hs, ?_⟩
        simp [useN, hlt, z, y]
        try omega
      · have y' : ((i : Int) = (r.Places.length : Int) - 1) = False := eq_false (by omega)
        simp [useN, hlt, z, y] at q
        simp [hlt, z, y']
        refine andK_i (by omega) fun _ => ?_
        refine callK_of q ?_
        simp [hlt]
        refine andK_i (by omega) fun _ => ?_
        refine again_i hJ (m := r.Places.length - (i + 1)) (by omega) ⟨i + 1, insU (useN r.Places am i) o, rfl, by omega, by omega, hs, ?_⟩
        simp [useN, hlt, z, y]
        try omega
  obtain rfl : i = r.Places.length := by omega
  have hus : o = usesS r.Places am := ha
  subst hus
  simp
  refine vc_loop2 [5, 7, 11, 15] (fun m S => ∃ (i : Nat) (o : List Str), m = r.Valves.length - i ∧ i ≤ r.Valves.length ∧ o.length ≤ i ∧ insAll [] r.Valves = insAll o (r.Valves.drop i) ∧
    S = [(5, .box () [.tr (.sl .bo () 1 (enc cS p.Stuffs)), .tr (.sl .bo () 2 (enc cPlantFoe p.Foes)), .tr (.sl .bo () 3 (enc cPlantPlace p.Places)), .tr (.sl .bo () 4 (enc cPlantValve p.Valves))]), (7, .box () [.tr (.sl .bo () 1 (enc cS r.Places)), .tr (.sl .bo () 1 (enc cS r.Valves))]), (11, .box () [.tr (.int .i64 n), .tr (.int .i64 1), .tr (.sl .bo () 1 (enc cS st)), .tr (.sl .own () 3 (enc cClaimUse (usesS r.Places am))), .tr (.sl .own () 1 (enc cS o)), .tr (.sl .own () 1 (enc cS (guardsS p r)))]), (15, .tmp (.tr (.int .i64 i)))]) r.Valves.length ?_ ?_
  · exact ⟨0, [], by simp, by simp, by simp, by simp, by simp⟩
  rintro J2 hJ2 m S ⟨i, o, rfl, hi2, ho2, hc, rfl⟩
  by_cases hlt : i < r.Valves.length
  · have hd2 : r.Valves.drop i = r.Valves[i] :: r.Valves.drop (i + 1) := by simp
    rw [hd2] at hc
    have hc' : insAll [] r.Valves = insAll (insF r.Valves[i] o) (r.Valves.drop (i + 1)) := hc
    have hw := insF_len r.Valves[i] o
    simp [hlt]
    refine callK_of (l4Insert_ok o r.Valves[i] (by omega)) ?_
    simp [hlt]
    refine andK_i (by omega) fun _ => ?_
    exact again_i hJ2 (m := r.Valves.length - (i + 1)) (by omega) ⟨i + 1, insF r.Valves[i] o, rfl, by omega, by omega, hc', by simp⟩
  obtain rfl : i = r.Valves.length := by omega
  rw [List.drop_length] at hc
  have hc : insAll [] r.Valves = o := hc
  subst hc
  have hwk : WOk p (routeWS p n r st am) := ⟨fun x hx => by
      rcases uses_mem r.Places am x _ _ hx with hx | ⟨i, hi, rfl⟩
      · simp at hx
      · rw [useN_name]
        exact route_places p r c2 i (by simpa using hi), fun x hx => by
      rcases insAll_mem x r.Valves [] hx with hx | hx
      · simp at hx
      · exact route_valves p r c2 x hx, guardsS_mem p r⟩
  have hgl := guardsS_len p r
  have hg2 : r.Places.length * p.Valves.length ≤ 1048576 * 18 := Nat.mul_le_mul h1 hval.2
  have hul : (usesS r.Places am).length ≤ 100000000 := by unfold usesS; rw [uses_len]; simp; omega
  have hol := insAll_len r.Valves []
  have q := l31Asks_ok .bo .bo (by simp) (by simp) p (routeWS p n r st am) hb hwk (by omega) (by omega) (by simp only [routeWS]; omega) (by simpa only [routeWS] using hul) (by simp only [routeWS]; simp at hol; omega) (by simp only [routeWS]; omega)
  simp
  refine callK_of q ?_
  simp [routeAsksS, c1, c2]
end Go.HT
end
section
namespace Go.HT
open Go Go.Proofs
set_option maxRecDepth 100000
set_option maxHeartbeats 4000000
set_option linter.unusedSimpArgs false
set_option linter.unusedVariables false
def pairLt (y x : A2) : Bool := if y.1 = x.1 then strLt y.2 x.2 else strLt y.1 x.1
def fiQ (o : Option A2) (x : A2) : Bool := nameOk x.1 && (nameOk x.2 && (strLt x.1 x.2 && (match o with | none => true | some y => pairLt y x)))
def md61 : Modes where
  call := callM
  br := fun _ => false
  plan := fun i => match i with
    | 6 => .take 0 (.take 1 (.take 2 (.take 3 (.take 4 (.take 5 (.take 6 (.take 7 (.take 8 (.take 9 (.take 10 (.take 11 (.take 12 (.take 13 (.take 14 (.take 15 (.take 16 (.take 17 (.take 18 (.take 19 (.take 20 (.take 21 (.take 22 (.take 23 (.take 24 (.take 25 (.take 26 (.take 27 (.take 28 (.take 29 (.take 30 (.take 31 (.take 32 (.take 33 (.take 34 (.fin)))))))))))))))))))))))))))))))))))
    | _ => .fin
@[simp] theorem md61_call (f i : Nat) : md61.call f i = callM f i := rfl
@[simp] theorem md61_br : md61.br = fun _ => false := rfl
@[simp] theorem md61_p6 : md61.plan 6 = .take 0 (.take 1 (.take 2 (.take 3 (.take 4 (.take 5 (.take 6 (.take 7 (.take 8 (.take 9 (.take 10 (.take 11 (.take 12 (.take 13 (.take 14 (.take 15 (.take 16 (.take 17 (.take 18 (.take 19 (.take 20 (.take 21 (.take 22 (.take 23 (.take 24 (.take 25 (.take 26 (.take 27 (.take 28 (.take 29 (.take 30 (.take 31 (.take 32 (.take 33 (.take 34 (.fin))))))))))))))))))))))))))))))))))) := rfl
theorem foesOk_ok (κ : Knd) (hκ : κ ≠ .own) (l : List A2) (hl : l.length ≤ 1048576) (hz : ∀ x ∈ l, x.1.length ≤ 1048576 ∧ x.2.length ≤ 1048576) :
    ACall PP 61 [.tmp (.tr (.sl κ () 2 (enc cA2 l))), .tmp (.tr (.int .i64 12))] [] (.tmp (.tr (.bool (allP fiQ none l && decide (l.length ≤ 12))))) [] [] := by
  refine ACall_intro md61 (na := 2) (bx := []) (by kernel_rfl) Tryz.func61 rfl rfl rfl (by simp [noBoR, noBoV, noBoL, noBoT]) (by simp [noBoL, noBoT]) (by simp [noBoRow, noBoT]) rfl rfl ?_
  simp [hκ]
  refine vc_loop2 [0, 1, 7, 8, 9] (fun m S => ∃ (i : Nat), m = l.length - i ∧ i ≤ l.length ∧ allP fiQ none l = allP fiQ (prevAt l i) (l.drop i) ∧
    S = [(0, .tmp (.tr (.sl κ () 2 (enc cA2 l)))), (1, .tmp (.tr (.int .i64 12))), (7, .tmp (.tr (.sl κ () 2 (enc cA2 l)))), (8, .tmp (.tr (.int .i64 l.length))), (9, .tmp (.tr (.int .i64 i)))]) l.length ?_ ?_
  · exact ⟨0, by simp, by simp, by simp, by simp⟩
  · rintro J hJ m S ⟨i, rfl, hi, ha, rfl⟩
    by_cases hlt : i < l.length
    · have hd : l.drop i = l[i] :: l.drop (i + 1) := by simp
      have hm := hz _ (List.getElem_mem hlt)
      rw [hd, allP] at ha
      simp [hκ, hlt]
      refine callK_of (isName_ok _ hm.1) ?_
      cases h1 : nameOk l[i].1
      · simp [hκ, hlt, h1, fiQ] at ha ⊢
        simp [ha]
      simp [hκ, hlt, h1]
      refine callK_of (isName_ok _ hm.2) ?_
      cases h2 : nameOk l[i].2
      · simp [hκ, hlt, h1, h2, fiQ] at ha ⊢
        simp [ha]
      simp [hκ, hlt, h1, h2]
      cases h3 : strLt l[i].1 l[i].2
      · simp [hκ, hlt, h1, h2, h3, fiQ] at ha ⊢
        simp [ha]
      cases i with
      | zero =>
        simp [hκ, hlt, h1, h2, h3, fiQ] at ha ⊢
        exact again_i hJ (m := l.length - 1) (by omega) ⟨1, rfl, by omega, by simpa [prevAt, hlt, fiQ] using ha, by simp⟩
      | succ j =>
        have hj : j < l.length := by omega
        simp [hκ, hlt, h1, h2, h3, hj]
        refine andK_i (by omega) fun _ => ?_
        by_cases he : l[j].1 = l[j + 1].1
        · cases h4 : strLt l[j].2 l[j + 1].2
          · simp [hκ, hlt, hj, h1, h2, h3, he, h4, fiQ, pairLt] at ha ⊢
            repeat' (refine andK_i (by omega) fun _ => ?_)
            all_goals first | trivial | simp [ha]
          · simp [hκ, hlt, hj, h1, h2, h3, he, h4, fiQ, pairLt] at ha ⊢
            refine andK_i (by omega) fun _ => ?_
            refine andK_i (by omega) fun _ => ?_
            refine andK_i (by omega) fun _ => ?_
            exact again_i hJ (m := l.length - (j + 1 + 1)) (by omega) ⟨j + 1 + 1, rfl, by omega, by simpa [prevAt, hlt, fiQ, pairLt] using ha, by simp⟩
        · cases h4 : strLt l[j].1 l[j + 1].1
          · simp [hκ, hlt, hj, h1, h2, h3, he, h4, fiQ, pairLt] at ha ⊢
            simp [ha]
          · simp [hκ, hlt, hj, h1, h2, h3, he, h4, fiQ, pairLt] at ha ⊢
            refine andK_i (by omega) fun _ => ?_
            refine andK_i (by omega) fun _ => ?_
            exact again_i hJ (m := l.length - (j + 1 + 1)) (by omega) ⟨j + 1 + 1, rfl, by omega, by simpa [prevAt, hlt, fiQ, pairLt] using ha, by simp⟩
    · obtain rfl : i = l.length := by omega
      simp [allP] at ha
      simp [hκ, ha]
      omega
end Go.HT
end
section
namespace Go.HT
open Go Go.Proofs
set_option maxRecDepth 100000
set_option maxHeartbeats 4000000
set_option linter.unusedSimpArgs false
set_option linter.unusedVariables false
def plI (o : Option GPlantPlace) (x : GPlantPlace) : Bool := nameOk x.Name && (!decide (x.Cap < 0) && (!decide (1000 < x.Cap) && (nameOk x.Station && ltO (o.map GPlantPlace.Name) x.Name)))
def vlI (p : GPlant) (o : Option GPlantValve) (x : GPlantValve) : Bool := nameOk x.Name && (placeB p x.A && (placeB p x.B && (strLt x.A x.B && (nameOk x.Station && ltO (o.map GPlantValve.Name) x.Name))))
def foB (st : List Str) (f : GPlantFoe) : Bool := decide (f.A ∈ st) && decide (f.B ∈ st)
def validI (p : GPlant) : Bool := decide (p.Stuffs.length ≤ 8) && (names p.Stuffs && ((allP fiQ none (pairs p) && decide ((pairs p).length ≤ 12)) && (decide (p.Places.length ≤ 14) && (decide (p.Valves.length ≤ 18) && (p.Foes.all (foB p.Stuffs) && (allP plI none p.Places && allP (vlI p) none p.Valves))))))
def md29 : Modes where
  call := callM
  br := fun _ => false
  plan := fun i => match i with
    | 12 => .take 0 (.take 1 (.any 2 (.take 3 (.take 4 (.take 5 (.take 6 (.take 7 (.take 8 (.take 9 (.take 10 (.take 11 (.take 12 (.take 13 (.take 14 (.take 15 (.take 16 (.any 17 (.take 18 (.take 19 (.take 20 (.take 21 (.take 22 (.take 23 (.take 24 (.take 25 (.take 26 (.take 27 (.take 28 (.take 29 (.take 30 (.take 31 (.take 32 (.take 33 (.take 34 (.take 35 (.fin))))))))))))))))))) (.non)))))))))))))))) (.non)))
    | 20 => .take 0 (.take 1 (.any 2 (.take 3 (.take 4 (.take 5 (.take 6 (.take 7 (.take 8 (.take 9 (.take 10 (.take 11 (.take 12 (.take 13 (.take 14 (.take 15 (.take 16 (.take 17 (.take 18 (.take 19 (.take 20 (.take 21 (.any 22 (.take 23 (.take 24 (.take 25 (.take 26 (.take 27 (.take 28 (.take 29 (.take 30 (.take 31 (.take 32 (.take 33 (.take 34 (.take 35 (.take 36 (.take 37 (.take 38 (.take 39 (.take 40 (.fin))))))))))))))))))) (.non))))))))))))))))))))) (.non)))
    | _ => .fin
@[simp] theorem md29_call (f i : Nat) : md29.call f i = callM f i := rfl
@[simp] theorem md29_br : md29.br = fun _ => false := rfl
@[simp] theorem md29_p12 : md29.plan 12 = .take 0 (.take 1 (.any 2 (.take 3 (.take 4 (.take 5 (.take 6 (.take 7 (.take 8 (.take 9 (.take 10 (.take 11 (.take 12 (.take 13 (.take 14 (.take 15 (.take 16 (.any 17 (.take 18 (.take 19 (.take 20 (.take 21 (.take 22 (.take 23 (.take 24 (.take 25 (.take 26 (.take 27 (.take 28 (.take 29 (.take 30 (.take 31 (.take 32 (.take 33 (.take 34 (.take 35 (.fin))))))))))))))))))) (.non)))))))))))))))) (.non))) := rfl
@[simp] theorem md29_p20 : md29.plan 20 = .take 0 (.take 1 (.any 2 (.take 3 (.take 4 (.take 5 (.take 6 (.take 7 (.take 8 (.take 9 (.take 10 (.take 11 (.take 12 (.take 13 (.take 14 (.take 15 (.take 16 (.take 17 (.take 18 (.take 19 (.take 20 (.take 21 (.any 22 (.take 23 (.take 24 (.take 25 (.take 26 (.take 27 (.take 28 (.take 29 (.take 30 (.take 31 (.take 32 (.take 33 (.take 34 (.take 35 (.take 36 (.take 37 (.take 38 (.take 39 (.take 40 (.fin))))))))))))))))))) (.non))))))))))))))))))))) (.non))) := rfl
set_option maxHeartbeats 16000000 in
theorem PlantValidI_ok (κ : Knd) (hκ : κ ≠ .own) (p : GPlant) (hb : PB p) :
    ACall PP 29 [.tmp (.agg [.tr (.sl κ () 1 (enc cS p.Stuffs)), .tr (.sl κ () 2 (enc cPlantFoe p.Foes)), .tr (.sl κ () 3 (enc cPlantPlace p.Places)), .tr (.sl κ () 4 (enc cPlantValve p.Valves))])] [] (.tmp (.tr (.bool (validI p)))) [] [] := by
  refine ACall_intro md29 (na := 1) (bx := []) (by kernel_rfl) Tryz.func29 rfl rfl rfl (by simp [noBoR, noBoV, noBoL, noBoT]) (by simp [noBoL, noBoT]) (by simp [noBoRow, noBoT]) rfl rfl ?_
  have b1 := hb.sl
  have b2 := hb.fl
  have b3 := hb.pl
  have b4 := hb.vl
  by_cases c1 : p.Stuffs.length ≤ 8
  case neg =>
    have c1' : (8 : Int) < p.Stuffs.length := by omega
    simp [hκ, c1']
    simp [validI, c1]
  have c1' : ¬ (8 : Int) < p.Stuffs.length := by omega
  simp [hκ, c1']
  refine callK_of (names_ok _ (by simp [hκ]) _ (by omega) hb.sm) ?_
  cases c2 : names p.Stuffs
  · simp [hκ]
    simp [validI, c2]
  simp [hκ]
  refine callK_of (pairs_ok _ (by simp [hκ]) p b2) ?_
  simp [hκ]
  have hpz : ∀ x ∈ pairs p, x.1.length ≤ 1048576 ∧ x.2.length ≤ 1048576 := by
    intro x hx
    obtain ⟨f, hf, rfl⟩ := List.mem_map.1 hx
    exact hb.fm f hf
  refine callK_of (foesOk_ok .bo (by simp) _ (by simp [pairs]; omega) hpz) ?_
  generalize c3 : (allP fiQ none (pairs p) && decide ((pairs p).length ≤ 12)) = b
  cases b
  · simp [hκ]
    simp only [validI, c3]
    simp
  by_cases c4 : p.Places.length ≤ 14
  case neg =>
    have c4' : (14 : Int) < p.Places.length := by omega
    simp [hκ, c4']
    simp [validI, c4]
  have c4' : ¬ (14 : Int) < p.Places.length := by omega
  by_cases c5 : p.Valves.length ≤ 18
  case neg =>
    have c5' : (18 : Int) < p.Valves.length := by omega
    simp [hκ, c4', c5']
    simp [validI, c5]
  have c5' : ¬ (18 : Int) < p.Valves.length := by omega
  simp [hκ, c4', c5']
  refine vc_loop2 [1, 42, 43, 44] (fun m S => ∃ (i : Nat), m = p.Foes.length - i ∧ i ≤ p.Foes.length ∧ p.Foes.all (foB p.Stuffs) = (p.Foes.drop i).all (foB p.Stuffs) ∧
    S = [(1, .box () [.tr (.sl κ () 1 (enc cS p.Stuffs)), .tr (.sl κ () 2 (enc cPlantFoe p.Foes)), .tr (.sl κ () 3 (enc cPlantPlace p.Places)), .tr (.sl κ () 4 (enc cPlantValve p.Valves))]), (42, .tmp (.tr (.sl κ () 2 (enc cPlantFoe p.Foes)))), (43, .tmp (.tr (.int .i64 p.Foes.length))), (44, .tmp (.tr (.int .i64 i)))]) p.Foes.length ?_ ?_
  · exact ⟨0, by simp, by simp, by simp, by simp⟩
  rintro J hJ m S ⟨i, rfl, hi, ha, rfl⟩
  have bad : p.Foes.all (foB p.Stuffs) = false → validI p = false := fun h => by simp only [validI, h]; simp
  by_cases hlt : i < p.Foes.length
  · have hd : p.Foes.drop i = p.Foes[i] :: p.Foes.drop (i + 1) := by simp
    rw [hd, List.all_cons] at ha
    simp [hκ, hlt]
    refine callK_of (has_ok _ (by simp [hκ]) _ _ (by omega)) ?_
    by_cases e1 : p.Foes[i].A ∈ p.Stuffs
    case neg =>
      have hf : foB p.Stuffs p.Foes[i] = false := by simp [foB, e1]
      rw [hf, Bool.false_and] at ha
      simp [hκ, hlt, e1]
      rw [bad ha]
    simp [hκ, hlt, e1]
    refine callK_of (has_ok _ (by simp [hκ]) _ _ (by omega)) ?_
    by_cases e2 : p.Foes[i].B ∈ p.Stuffs
    case neg =>
      have hf : foB p.Stuffs p.Foes[i] = false := by simp [foB, e2]
      rw [hf, Bool.false_and] at ha
      simp [hκ, hlt, e1, e2]
      rw [bad ha]
    simp [hκ, hlt, e1, e2, foB] at ha ⊢
    refine andK_i (by omega) fun _ => ?_
    exact again_i hJ (m := p.Foes.length - (i + 1)) (by omega) ⟨i + 1, rfl, by omega, by simpa [foB] using ha, by simp⟩
  obtain rfl : i = p.Foes.length := by omega
  have c6 : p.Foes.all (foB p.Stuffs) = true := by simpa using ha
  clear ha hJ hi hlt
  simp [hκ]
  refine vc_loop2 [1, 64, 65, 66] (fun m S => ∃ (i : Nat), m = p.Places.length - i ∧ i ≤ p.Places.length ∧ allP plI none p.Places = allP plI (prevAt p.Places i) (p.Places.drop i) ∧
    S = [(1, .box () [.tr (.sl κ () 1 (enc cS p.Stuffs)), .tr (.sl κ () 2 (enc cPlantFoe p.Foes)), .tr (.sl κ () 3 (enc cPlantPlace p.Places)), .tr (.sl κ () 4 (enc cPlantValve p.Valves))]), (64, .tmp (.tr (.sl κ () 3 (enc cPlantPlace p.Places)))), (65, .tmp (.tr (.int .i64 p.Places.length))), (66, .tmp (.tr (.int .i64 i)))]) p.Places.length ?_ ?_
  · exact ⟨0, by simp, by simp, by simp, by simp⟩
  rintro J hJ m S ⟨i, rfl, hi, ha, rfl⟩
  have bad : allP plI none p.Places = false → validI p = false := fun h => by simp only [validI, h]; simp
  by_cases hlt : i < p.Places.length
  · have hd : p.Places.drop i = p.Places[i] :: p.Places.drop (i + 1) := by simp
    have hm := hb.pm _ (List.getElem_mem hlt)
    rw [hd, allP] at ha
    have fail : plI (prevAt p.Places i) p.Places[i] = false → validI p = false := fun h => bad (by rw [ha, h, Bool.false_and])
    simp [hκ, hlt]
    refine callK_of (isName_ok _ hm.1) ?_
    cases h1 : nameOk p.Places[i].Name
    · simp [hκ, hlt, h1]
      rw [fail (by simp [plI, h1])]
    by_cases h2 : p.Places[i].Cap < 0
    · simp [hκ, hlt, h1, h2]
      rw [fail (by simp [plI, h1, h2])]
    by_cases h3 : 1000 < p.Places[i].Cap
    · simp [hκ, hlt, h1, h2, h3]
      rw [fail (by simp [plI, h1, h2, h3])]
    simp [hκ, hlt, h1, h2, h3]
    refine callK_of (isName_ok _ hm.2) ?_
    cases h4 : nameOk p.Places[i].Station
    · simp [hκ, hlt, h1, h2, h3, h4]
      rw [fail (by simp [plI, h1, h2, h3, h4])]
    cases i with
    | zero =>
      simp [hκ, hlt, h1, h2, h3, h4]
      refine again_i hJ (m := p.Places.length - 1) (by omega) ⟨1, rfl, by omega, ?_, by simp⟩
      rw [ha]; simp [plI, h1, h2, h3, h4, hlt]
    | succ j =>
      have hj : j < p.Places.length := by omega
      simp [hκ, hlt, h1, h2, h3, h4, hj]
      refine andK_i (by omega) fun _ => ?_
      cases h5 : strLt p.Places[j].Name p.Places[j + 1].Name
      · simp [hκ, hlt, hj, h1, h2, h3, h4, h5]
        rw [fail (by simp [plI, h1, h2, h3, h4, h5, hj])]
      simp [hκ, hlt, hj, h1, h2, h3, h4, h5]
      refine andK_i (by omega) fun _ => ?_
      refine again_i hJ (m := p.Places.length - (j + 1 + 1)) (by omega) ⟨j + 1 + 1, rfl, by omega, ?_, by simp⟩
      rw [ha]; simp [plI, h1, h2, h3, h4, h5, hj, hlt, prevAt]
  obtain rfl : i = p.Places.length := by omega
  have c7 : allP plI none p.Places = true := by simpa [allP] using ha
  clear ha hJ hi hlt bad
  simp [hκ]
  refine vc_loop2 [1, 109, 110, 111] (fun m S => ∃ (i : Nat), m = p.Valves.length - i ∧ i ≤ p.Valves.length ∧ allP (vlI p) none p.Valves = allP (vlI p) (prevAt p.Valves i) (p.Valves.drop i) ∧
    S = [(1, .box () [.tr (.sl κ () 1 (enc cS p.Stuffs)), .tr (.sl κ () 2 (enc cPlantFoe p.Foes)), .tr (.sl κ () 3 (enc cPlantPlace p.Places)), .tr (.sl κ () 4 (enc cPlantValve p.Valves))]), (109, .tmp (.tr (.sl κ () 4 (enc cPlantValve p.Valves)))), (110, .tmp (.tr (.int .i64 p.Valves.length))), (111, .tmp (.tr (.int .i64 i)))]) p.Valves.length ?_ ?_
  · exact ⟨0, by simp, by simp, by simp, by simp⟩
  rintro J hJ m S ⟨i, rfl, hi, ha, rfl⟩
  have bad : allP (vlI p) none p.Valves = false → validI p = false := fun h => by simp only [validI, h]; simp
  by_cases hlt : i < p.Valves.length
  · have hd : p.Valves.drop i = p.Valves[i] :: p.Valves.drop (i + 1) := by simp
    have hm := hb.vm _ (List.getElem_mem hlt)
    rw [hd, allP] at ha
    have fail : vlI p (prevAt p.Valves i) p.Valves[i] = false → validI p = false := fun h => bad (by rw [ha, h, Bool.false_and])
    simp [hκ, hlt]
    refine callK_of (place_ok _ (by simp [hκ]) p _ (by omega)) ?_
    simp [hκ, hlt]
    refine callK_of (place_ok _ (by simp [hκ]) p _ (by omega)) ?_
    simp [hκ, hlt]
    refine callK_of (isName_ok _ hm.1) ?_
    cases h1 : nameOk p.Valves[i].Name
    · simp [hκ, hlt, h1]
      rw [fail (by simp [vlI, h1])]
    cases h2 : placeB p p.Valves[i].A
    · simp [hκ, hlt, h1, h2]
      rw [fail (by simp [vlI, h1, h2])]
    cases h3 : placeB p p.Valves[i].B
    · simp [hκ, hlt, h1, h2, h3]
      rw [fail (by simp [vlI, h1, h2, h3])]
    cases h4 : strLt p.Valves[i].A p.Valves[i].B
    · simp [hκ, hlt, h1, h2, h3, h4]
      rw [fail (by simp [vlI, h1, h2, h3, h4])]
    simp [hκ, hlt, h1, h2, h3, h4]
    refine callK_of (isName_ok _ hm.2.2.2) ?_
    cases h5 : nameOk p.Valves[i].Station
    · simp [hκ, hlt, h1, h2, h3, h4, h5]
      rw [fail (by simp [vlI, h1, h2, h3, h4, h5])]
    cases i with
    | zero =>
      simp [hκ, hlt, h1, h2, h3, h4, h5]
      refine again_i hJ (m := p.Valves.length - 1) (by omega) ⟨1, rfl, by omega, ?_, by simp⟩
      rw [ha]; simp [vlI, h1, h2, h3, h4, h5, hlt]
    | succ j =>
      have hj : j < p.Valves.length := by omega
      simp [hκ, hlt, h1, h2, h3, h4, h5, hj]
      refine andK_i (by omega) fun _ => ?_
      cases h6 : strLt p.Valves[j].Name p.Valves[j + 1].Name
      · simp [hκ, hlt, hj, h1, h2, h3, h4, h5, h6]
        rw [fail (by simp [vlI, h1, h2, h3, h4, h5, h6, hj])]
      simp [hκ, hlt, hj, h1, h2, h3, h4, h5, h6]
      refine andK_i (by omega) fun _ => ?_
      refine again_i hJ (m := p.Valves.length - (j + 1 + 1)) (by omega) ⟨j + 1 + 1, rfl, by omega, ?_, by simp⟩
      rw [ha]; simp [vlI, h1, h2, h3, h4, h5, h6, hj, hlt, prevAt]
  obtain rfl : i = p.Valves.length := by omega
  have c8 : allP (vlI p) none p.Valves = true := by simpa [allP] using ha
  simp [hκ]
  simp only [validI, c1, c2, c3, c4, c5, c6, c7, c8]
  simp
end Go.HT
end
section
namespace Go.HT
open Go Go.Proofs
set_option maxRecDepth 100000
set_option maxHeartbeats 4000000
set_option linter.unusedSimpArgs false
set_option linter.unusedVariables false
/-- What a bounded job's parts come to. -/
structure JB (j : GCtlJob) : Prop where
  rp : j.Route.Places.length ≤ 100000
  rv : j.Route.Valves.length ≤ 100000
  pl : j.Places.length ≤ 1048576
  st : j.Stuffs.length ≤ 1048576
def asksF (p : GPlant) (j : GCtlJob) : List GCtlAsk := if j.Kind = 1 then routeAsksF p j.Number j.Route j.Stuffs j.Amount else placeAsksF p j.Number j.Kind j.Places
def jobI (p : GPlant) (j : GCtlJob) : List GCtlAsk := if validI p = true then asksF p j else []
def md30 : Modes where
  call := callM
  br := fun _ => false
  plan := fun _ => .fin
@[simp] theorem md30_call (f i : Nat) : md30.call f i = callM f i := rfl
@[simp] theorem md30_br : md30.br = fun _ => false := rfl
theorem asksOf_ok (p : GPlant) (j : GCtlJob) (hb : PB p) (hpl : p.Places.length ≤ 1000) (hvl : p.Valves.length ≤ 1000) (hj : j.Route.Places.length ≤ 1048576 ∧ j.Route.Valves.length ≤ 1048576 ∧ j.Places.length ≤ 1048576 ∧ j.Stuffs.length ≤ 1048576) :
    ACall PP 30 [.tmp (.agg [.tr (.sl .bo () 1 (enc cS p.Stuffs)), .tr (.sl .bo () 2 (enc cPlantFoe p.Foes)), .tr (.sl .bo () 3 (enc cPlantPlace p.Places)), .tr (.sl .bo () 4 (enc cPlantValve p.Valves))]), .tmp (.agg [.tr (.int .i64 j.Number), .tr (.int .i64 j.Kind), .tr (.sl .bo () 1 (enc cS j.Route.Places)), .tr (.sl .bo () 1 (enc cS j.Route.Valves)), .tr (.sl .bo () 1 (enc cS j.Places)), .tr (.sl .bo () 1 (enc cS j.Stuffs)), .tr (.int .i64 j.Amount), .tr (.int .i64 j.State), .tr (.sl .bo () 1 (enc cS j.Heard)), .tr (.int .i64 j.Moved), .tr (.bool j.Done)])] [] (.tmp (.tr (.sl .own () 7 (enc (cCtlAsk .own) (asksF p j))))) [] [] := by
  refine ACall_intro md30 (na := 2) (bx := []) (by kernel_rfl) Tryz.func30 rfl rfl rfl (by simp [noBoR, noBoV, noBoL, noBoT]) (by simp [noBoL, noBoT]) (by simp [noBoRow, noBoT]) rfl rfl ?_
  by_cases k : j.Kind = 1
  · simp [k]
    refine callK_of (routeAsks_ok p j.Number j.Route j.Stuffs j.Amount hb hpl hvl hj.1 hj.2.1 hj.2.2.2) ?_
    simp [asksF, k]
  · simp [k]
    refine callK_of (placeAsks_ok p j.Number j.Kind j.Places hb hpl hvl hj.2.2.1) ?_
    simp [asksF, k]
def md9 : Modes where
  call := callM
  br := fun _ => false
  plan := fun _ => .fin
@[simp] theorem md9_call (f i : Nat) : md9.call f i = callM f i := rfl
@[simp] theorem md9_br : md9.br = fun _ => false := rfl
theorem CtlJobAsksI_ok (p : GPlant) (j : GCtlJob) (hb : PB p) (hj : j.Route.Places.length ≤ 1048576 ∧ j.Route.Valves.length ≤ 1048576 ∧ j.Places.length ≤ 1048576 ∧ j.Stuffs.length ≤ 1048576) :
    ACall PP 9 [.tmp (.agg [.tr (.sl .bo () 1 (enc cS p.Stuffs)), .tr (.sl .bo () 2 (enc cPlantFoe p.Foes)), .tr (.sl .bo () 3 (enc cPlantPlace p.Places)), .tr (.sl .bo () 4 (enc cPlantValve p.Valves))]), .tmp (.agg [.tr (.int .i64 j.Number), .tr (.int .i64 j.Kind), .tr (.sl .bo () 1 (enc cS j.Route.Places)), .tr (.sl .bo () 1 (enc cS j.Route.Valves)), .tr (.sl .bo () 1 (enc cS j.Places)), .tr (.sl .bo () 1 (enc cS j.Stuffs)), .tr (.int .i64 j.Amount), .tr (.int .i64 j.State), .tr (.sl .bo () 1 (enc cS j.Heard)), .tr (.int .i64 j.Moved), .tr (.bool j.Done)])] [] (.tmp (.tr (.sl .own () 7 (enc (cCtlAsk .own) (jobI p j))))) [] [] := by
  refine ACall_intro md9 (na := 2) (bx := []) (by kernel_rfl) Tryz.func9 rfl rfl rfl (by simp [noBoR, noBoV, noBoL, noBoT]) (by simp [noBoL, noBoT]) (by simp [noBoRow, noBoT]) rfl rfl ?_
  simp
  refine callK_of (PlantValidI_ok .bo (by simp) p hb) ?_
  cases c : validI p
  · simp [jobI, c]
  have hv : p.Places.length ≤ 14 ∧ p.Valves.length ≤ 18 := by
    simp only [validI, Bool.and_eq_true, decide_eq_true_eq] at c
    exact ⟨c.2.2.2.1, c.2.2.2.2.1⟩
  simp
  refine callK_of (asksOf_ok p j hb (by omega) (by omega) hj) ?_
  simp [jobI, c]
end Go.HT
end
section
namespace Go.HT
open Go Go.Proofs
set_option maxRecDepth 100000
set_option maxHeartbeats 4000000
set_option linter.unusedSimpArgs false
set_option linter.unusedVariables false
def jobS (p : GPlant) (j : GCtlJob) : List GCtlAsk := if j.Kind = 1 then routeAsksS p j.Number j.Route j.Stuffs j.Amount else placeAsksS p j.Number j.Kind j.Places
def md6 : Modes where
  call := callM
  br := fun _ => false
  plan := fun _ => .fin
@[simp] theorem md6_call (f i : Nat) : md6.call f i = callM f i := rfl
@[simp] theorem md6_br : md6.br = fun _ => false := rfl
theorem CtlJobAsksS_ok (p : GPlant) (j : GCtlJob) (hb : PB p) (hj : j.Route.Places.length ≤ 1048576 ∧ j.Route.Valves.length ≤ 1048576 ∧ j.Places.length ≤ 1048576 ∧ j.Stuffs.length ≤ 1048576) :
    ACall PP 6 [.tmp (.agg [.tr (.sl .bo () 1 (enc cS p.Stuffs)), .tr (.sl .bo () 2 (enc cPlantFoe p.Foes)), .tr (.sl .bo () 3 (enc cPlantPlace p.Places)), .tr (.sl .bo () 4 (enc cPlantValve p.Valves))]), .tmp (.agg [.tr (.int .i64 j.Number), .tr (.int .i64 j.Kind), .tr (.sl .bo () 1 (enc cS j.Route.Places)), .tr (.sl .bo () 1 (enc cS j.Route.Valves)), .tr (.sl .bo () 1 (enc cS j.Places)), .tr (.sl .bo () 1 (enc cS j.Stuffs)), .tr (.int .i64 j.Amount), .tr (.int .i64 j.State), .tr (.sl .bo () 1 (enc cS j.Heard)), .tr (.int .i64 j.Moved), .tr (.bool j.Done)])] [] (.tmp (.tr (.sl .own () 7 (enc (cCtlAsk .own) (jobS p j))))) [] [] := by
  refine ACall_intro md6 (na := 2) (bx := []) (by kernel_rfl) Tryz.func6 rfl rfl rfl (by simp [noBoR, noBoV, noBoL, noBoT]) (by simp [noBoL, noBoT]) (by simp [noBoRow, noBoT]) rfl rfl ?_
  by_cases k : j.Kind = 1
  · simp [k]
    refine callK_of (CtlRouteAsks_ok p j.Number j.Route j.Stuffs j.Amount hb hj.1 hj.2.1 hj.2.2.2) ?_
    simp [jobS, k]
  · simp [k]
    refine callK_of (CtlPlaceAsks_ok p j.Number j.Kind j.Places hb hj.2.2.1) ?_
    simp [jobS, k]
/-- Asks are not many, and not long. -/
structure AB (l : List GCtlAsk) : Prop where
  len : l.length ≤ 1000
  m : ∀ a ∈ l, a.Want.Stuffs.length ≤ 100000000 ∧ a.Want.Uses.length ≤ 100000000 ∧ a.Want.Opens.length ≤ 100000000 ∧ a.Want.Shuts.length ≤ 100000000
theorem AB_nil : AB [] := ⟨by simp, by simp⟩
theorem AB_shared (p : GPlant) (w : GClaimWant) (L : List Str) (hL : L.length ≤ 1000) (h1 : w.Stuffs.length ≤ 100000000) (h2 : w.Uses.length ≤ 100000000) (h3 : w.Opens.length ≤ 100000000) (h4 : w.Shuts.length ≤ 100000000) : AB (sharedL p w L) := by
  refine ⟨?_, fun a ha => ?_⟩
  · unfold sharedL
    refine Nat.le_trans (List.length_filter_le _ _) ?_
    simpa using hL
  · unfold sharedL at ha
    obtain ⟨s, hs, rfl⟩ := List.mem_map.1 (List.mem_filter.1 ha).1
    exact ⟨h1, Nat.le_trans (List.length_filter_le _ _) h2, Nat.le_trans (List.length_filter_le _ _) h3, Nat.le_trans (List.length_filter_le _ _) h4⟩
theorem valid_len {p : GPlant} (c1 : validF p = true) : p.Places.length ≤ 14 ∧ p.Valves.length ≤ 18 := by
  simp only [validF, placesF, valvesF, Bool.and_eq_true, decide_eq_true_eq] at c1
  exact ⟨c1.2.1.1, c1.2.2.1⟩
theorem shutsS_len (p : GPlant) : ∀ (l o : List Str), (l.foldl (fun o s => insAll o (besideF p s)) o).length ≤ o.length + l.length * p.Valves.length
  | [], o => by simp
  | s :: t, o => by
    have h1 := shutsS_len p t (insAll o (besideF p s))
    have h2 := insAll_len (besideF p s) o
    have h3 := bes_len p s
    have h4 : (t.length + 1) * p.Valves.length = t.length * p.Valves.length + p.Valves.length := by rw [Nat.add_mul, Nat.one_mul]
    simp only [List.foldl_cons, List.length_cons, h4]
    omega
theorem AB_job (p : GPlant) (j : GCtlJob) (hj : j.Route.Places.length ≤ 1048576 ∧ j.Route.Valves.length ≤ 1048576 ∧ j.Places.length ≤ 1048576 ∧ j.Stuffs.length ≤ 1048576) : AB (jobS p j) := by
  have hst := stationsS_len p
  unfold jobS
  split
  · unfold routeAsksS
    split
    · rename_i hv
      obtain ⟨v1, v2⟩ := valid_len hv
      split
      · have hgl := guardsS_len p j.Route
        have hg2 : j.Route.Places.length * p.Valves.length ≤ 1048576 * 18 := Nat.mul_le_mul hj.1 v2
        have hol := insAll_len j.Route.Valves []
        refine AB_shared p _ _ (by omega) (by simp only [routeWS]; omega) ?_ (by simp only [routeWS]; simp at hol; omega) (by simp only [routeWS]; omega)
        simp only [routeWS, usesS]; rw [uses_len]; simp; omega
      · exact AB_nil
    · exact AB_nil
  · unfold placeAsksS
    split
    · rename_i hv
      obtain ⟨v1, v2⟩ := valid_len hv
      split
      · split
        · have hsl := shutsS_len p j.Places []
          have hg2 : j.Places.length * p.Valves.length ≤ 1048576 * 18 := Nat.mul_le_mul hj.2.2.1 v2
          exact AB_shared p _ _ (by omega) (by simp [placeWS]) (by simp [placeWS]; omega) (by simp [placeWS]) (by simp only [placeWS, shutsS]; simp at hsl; omega)
        · exact AB_nil
      · exact AB_nil
    · exact AB_nil
theorem cntL_le {α : Type} {cnt : α → Nat} {c : Nat} : ∀ {l : List α}, (∀ x ∈ l, cnt x ≤ c) → cntL cnt l ≤ l.length * c
  | [], _ => by simp [cntL]
  | x :: r, h => by
    have h1 := cntL_le (l := r) fun y hy => h y (by simp [hy])
    have h2 := h x (by simp)
    simp only [cntL, List.length_cons, Nat.add_mul, Nat.one_mul]; omega
theorem AB_cnt {l : List GCtlAsk} (h : AB l) : cntL ctCtlAsk l ≤ 1000000000000 := by
  have h1 : ∀ x ∈ l, ctCtlAsk x ≤ 1000000000 := fun x hx => by
    obtain ⟨a1, a2, a3, a4⟩ := h.m x hx
    have b1 := cntL_le (cnt := ctS) (c := 1) (l := x.Want.Stuffs) (fun _ _ => by simp [ctS])
    have b2 := cntL_le (cnt := ctClaimUse) (c := 3) (l := x.Want.Uses) (fun _ _ => by simp [ctClaimUse])
    have b3 := cntL_le (cnt := ctS) (c := 1) (l := x.Want.Opens) (fun _ _ => by simp [ctS])
    have b4 := cntL_le (cnt := ctS) (c := 1) (l := x.Want.Shuts) (fun _ _ => by simp [ctS])
    simp only [ctCtlAsk]
    omega
  have h2 := cntL_le h1
  have h3 : l.length * 1000000000 ≤ 1000 * 1000000000 := Nat.mul_le_mul_right _ h.len
  omega
end Go.HT
end
section
namespace Go.HT
open Go Go.Proofs
set_option maxRecDepth 100000
set_option maxHeartbeats 4000000
set_option linter.unusedSimpArgs false
set_option linter.unusedVariables false
structure LB (p : GPlant) (j : GCtlJob) : Prop where
  pb : PB p
  jb : j.Route.Places.length ≤ 1048576 ∧ j.Route.Valves.length ≤ 1048576 ∧ j.Places.length ≤ 1048576 ∧ j.Stuffs.length ≤ 1048576
  jh : j.Heard.length ≤ 1048576
theorem LB_of {p : GPlant} {j : GCtlJob} (h : zPlant p + zCtlJob j ≤ 1048576) : LB p j := by
  have h1 := szL_len List.length j.Route.Places
  have h2 := szL_len List.length j.Route.Valves
  have h3 := szL_len List.length j.Places
  have h4 := szL_len List.length j.Stuffs
  have h5 := szL_len List.length j.Heard
  refine ⟨PB_of (by omega), ⟨?_, ?_, ?_, ?_⟩, ?_⟩ <;> (simp only [zCtlJob, zPlantRoute] at h; omega)
theorem ctvP_le {p : GPlant} (h : PB p) : ctvPlant p ≤ 100000000 := by
  have a1 := cntL_le (cnt := ctS) (c := 1) (l := p.Stuffs) (fun _ _ => by simp [ctS])
  have a2 := cntL_le (cnt := ctPlantFoe) (c := 2) (l := p.Foes) (fun _ _ => by simp [ctPlantFoe])
  have a3 := cntL_le (cnt := ctPlantPlace) (c := 3) (l := p.Places) (fun _ _ => by simp [ctPlantPlace])
  have a4 := cntL_le (cnt := ctPlantValve) (c := 4) (l := p.Valves) (fun _ _ => by simp [ctPlantValve])
  have := h.sl; have := h.fl; have := h.pl; have := h.vl
  simp only [ctvPlant]; omega
theorem ctvJ_le {p : GPlant} {j : GCtlJob} (h : LB p j) : ctvCtlJob j ≤ 100000000 := by
  have a1 := cntL_le (cnt := ctS) (c := 1) (l := j.Route.Places) (fun _ _ => by simp [ctS])
  have a2 := cntL_le (cnt := ctS) (c := 1) (l := j.Route.Valves) (fun _ _ => by simp [ctS])
  have a3 := cntL_le (cnt := ctS) (c := 1) (l := j.Places) (fun _ _ => by simp [ctS])
  have a4 := cntL_le (cnt := ctS) (c := 1) (l := j.Stuffs) (fun _ _ => by simp [ctS])
  have a5 := cntL_le (cnt := ctS) (c := 1) (l := j.Heard) (fun _ _ => by simp [ctS])
  have := h.jb; have := h.jh
  simp only [ctvCtlJob]; omega
def md3 : Modes where
  call := callM
  br := fun _ => false
  plan := fun i => match i with
    | 8 => .take 0 (.take 2 (.any 1 (.any 3 (.any 4 (.take 5 (.fin)) (.non)) (.non)) (.non)))
    | 14 => .take 0 (.take 1 (.any 2 (.any 3 (.take 4 (.fin)) (.non)) (.non)))
    | 16 => .take 0 (.take 1 (.any 2 (.any 3 (.take 4 (.fin)) (.non)) (.non)))
    | 31 => .take 0 (.take 2 (.any 1 (.any 3 (.any 4 (.take 5 (.fin)) (.non)) (.non)) (.non)))
    | _ => .fin
@[simp] theorem md3_call (f i : Nat) : md3.call f i = callM f i := rfl
@[simp] theorem md3_br : md3.br = fun _ => false := rfl
@[simp] theorem md3_p8 : md3.plan 8 = .take 0 (.take 2 (.any 1 (.any 3 (.any 4 (.take 5 (.fin)) (.non)) (.non)) (.non))) := rfl
@[simp] theorem md3_p14 : md3.plan 14 = .take 0 (.take 1 (.any 2 (.any 3 (.take 4 (.fin)) (.non)) (.non))) := rfl
@[simp] theorem md3_p16 : md3.plan 16 = .take 0 (.take 1 (.any 2 (.any 3 (.take 4 (.fin)) (.non)) (.non))) := rfl
@[simp] theorem md3_p31 : md3.plan 31 = .take 0 (.take 2 (.any 1 (.any 3 (.any 4 (.take 5 (.fin)) (.non)) (.non)) (.non))) := rfl
set_option maxHeartbeats 16000000 in
theorem law_ok (κ : Knd) (hκ : κ ≠ .own) (p : GPlant) (j : GCtlJob) (hz : zPlant p + zCtlJob j ≤ 1048576) (heq : jobI p j = jobS p j) :
    ACall PP 3 [.tmp (.agg [.tr (.sl κ () 1 (enc cS p.Stuffs)), .tr (.sl κ () 2 (enc cPlantFoe p.Foes)), .tr (.sl κ () 3 (enc cPlantPlace p.Places)), .tr (.sl κ () 4 (enc cPlantValve p.Valves))]), .tmp (.agg [.tr (.int .i64 j.Number), .tr (.int .i64 j.Kind), .tr (.sl κ () 1 (enc cS j.Route.Places)), .tr (.sl κ () 1 (enc cS j.Route.Valves)), .tr (.sl κ () 1 (enc cS j.Places)), .tr (.sl κ () 1 (enc cS j.Stuffs)), .tr (.int .i64 j.Amount), .tr (.int .i64 j.State), .tr (.sl κ () 1 (enc cS j.Heard)), .tr (.int .i64 j.Moved), .tr (.bool j.Done)])] [] (.tmp (.tr (.bool true))) [] [] := by
  refine ACall_intro md3 (na := 2) (bx := []) (by kernel_rfl) Tryz.func3 rfl rfl rfl (by simp [noBoR, noBoV, noBoL, noBoT]) (by simp [noBoL, noBoT]) (by simp [noBoRow, noBoT]) rfl rfl ?_
  have hl := LB_of hz
  have hb := hl.pb
  have hj := hl.jb
  have hcP := ctvP_le hb
  have hcJ := ctvJ_le hl
  have hA := AB_job p j hj
  have hcA := AB_cnt hA
  have qI := CtlJobAsksI_ok p j hb hj
  have qS := CtlJobAsksS_ok p j hb hj
  rw [heq] at qI
  have qP : qPlant p := ⟨by have := hb.sl; omega, by have := hb.fl; omega, by have := hb.pl; omega, by have := hb.vl; omega⟩
  have qJ : qCtlJob j := ⟨⟨by omega, by omega⟩, by omega, by omega, by have := hl.jh; omega⟩
  have qA : ∀ x ∈ jobS p j, qCtlAsk x := fun x hx => by
    obtain ⟨a1, a2, a3, a4⟩ := hA.m x hx
    exact ⟨by omega, by omega, by omega, by omega⟩
  have lA : (jobS p j).length ≤ 1152921504606846976 := by have := hA.len; omega
  generalize jobS p j = A at *
  clear heq
  have tP := toPlant_ok κ hκ p (by omega)
  have tJ := toCtlJob_ok κ hκ j (by omega)
  simp [hκ]
  refine callK_of (szPlant_ok κ hκ p 1048576 (by omega) (by omega)) ?_
  simp [hκ]
  refine condK_i (fun h => by omega) fun _ => ?_
  refine callK_of (szCtlJob_ok κ hκ j _ (by omega) (by omega)) ?_
  simp [hκ]
  refine condK_i (fun h => by omega) fun _ => ?_
  refine callK_of tP ?_
  simp [hκ]
  refine callK_of tJ ?_
  simp [hκ]
  refine callK_of qS ?_
  simp [hκ]
  refine callK_of tP ?_
  simp [hκ]
  refine callK_of tJ ?_
  simp [hκ]
  refine callK_of qI ?_
  simp [hκ]
  refine callK_of (eqCtlAskS_ok .bo .bo (by simp) (by simp) A A lA qA) ?_
  simp [hκ]
  refine callK_of (tP) ?_
  simp [hκ]
  refine callK_of (eqPlant_ok .bo .bo (by simp) (by simp) p p qP) ?_
  simp [hκ]
  refine callK_of (tJ) ?_
  simp [hκ]
  refine callK_of (eqCtlJob_ok .bo .bo (by simp) (by simp) j j qJ) ?_
  simp [hκ]
  refine callK_of (markPlant_ok p 1 (by omega) (by omega)) ?_
  simp [hκ]
  refine callK_of (markCtlJob_ok j (1 + ctvPlant p) (by omega) (by omega)) ?_
  have neg : ((1 : Int) + (ctvPlant p : Int) + (ctvCtlJob j : Int) < 0) = False := eq_false (by omega)
  simp [hκ, neg]
  refine callK_of (eqCtlAskS_ok .bo .bo (by simp) (by simp) A A lA qA) ?_
  simp [hκ]
  refine callK_of (markCtlAskS_ok A 1 (by omega) (by omega)) ?_
  have htk : List.take A.length (mkL mkCtlAsk ctCtlAsk A 1) = mkL mkCtlAsk ctCtlAsk A 1 := List.take_of_length_le (by simp)
  have neg2 : ((1 : Int) + (cntL ctCtlAsk A : Int) < 0) = False := eq_false (by omega)
  simp [hκ, htk]
  refine callK_of (heldCtlAskS_ok .bo (by simp) A 1 (by omega) (by omega)) ?_
  simp [hκ, neg2]
  refine callK_of (tP) ?_
  simp [hκ]
  refine callK_of (tJ) ?_
  simp [hκ]
  refine callK_of (qI) ?_
  simp [hκ]
  refine callK_of (eqCtlAskS_ok .bo .bo (by simp) (by simp) A A lA qA) ?_
  simp [hκ, htk]
  refine callK_of (heldCtlAskS_ok .bo (by simp) A 1 (by omega) (by omega)) ?_
  simp [hκ, neg2]
end Go.HT
end
section
namespace Go.HT
open Go Go.Proofs
set_option maxRecDepth 100000
set_option linter.unusedSimpArgs false
set_option linter.unusedVariables false
/-! ### The order of texts -/
theorem lt_irr (a : Str) : strLt a a = false := by rw [strLt_dec]; simp
theorem lt_tr {a b c : Str} (h1 : strLt a b = true) (h2 : strLt b c = true) : strLt a c = true := by
  rw [strLt_dec, decide_eq_true_eq] at *
  exact List.lt_trans h1 h2
theorem lt_as {a b : Str} (h1 : strLt a b = true) : strLt b a = false := by
  cases h : strLt b a
  · rfl
  · have := lt_tr h1 h; rw [lt_irr] at this; cases this
theorem lt_tri {a b : Str} (h1 : strLt a b = false) (h2 : a ≠ b) : strLt b a = true := by
  rw [strLt_dec, decide_eq_false_iff_not, List.not_lt] at h1
  rw [strLt_dec, decide_eq_true_eq]
  rcases List.le_iff_lt_or_eq.1 h1 with h | h
  · exact h
  · exact absurd h.symm h2
/-- Strictly rising. -/
def SR (l : List Str) : Prop := l.Pairwise fun a b => strLt a b = true
theorem SR_nodup {l : List Str} (h : SR l) : l.Nodup := h.imp fun hab he => by subst he; rw [lt_irr] at hab; cases hab
theorem SR_uniq : ∀ {a b : List Str}, SR a → SR b → (∀ x, x ∈ a ↔ x ∈ b) → a = b
  | [], [], _, _, _ => rfl
  | [], y :: b, _, _, h => absurd ((h y).2 (by simp)) (by simp)
  | x :: a, [], _, _, h => absurd ((h x).1 (by simp)) (by simp)
  | x :: a, y :: b, ha, hb, h => by
    have ha' := List.pairwise_cons.1 ha
    have hb' := List.pairwise_cons.1 hb
    have hxy : x = y := by
      rcases List.mem_cons.1 ((h x).1 (by simp)) with e | e
      · exact e
      · rcases List.mem_cons.1 ((h y).2 (by simp)) with e2 | e2
        · exact e2.symm
        · have h1 := hb'.1 x e
          have h2 := ha'.1 y e2
          rw [lt_as h1] at h2; cases h2
    subst hxy
    rw [SR_uniq ha'.2 hb'.2 fun z => ?_]
    constructor
    · intro hz
      rcases List.mem_cons.1 ((h z).1 (by simp [hz])) with e | e
      · subst e; have := ha'.1 z hz; rw [lt_irr] at this; cases this
      · exact e
    · intro hz
      rcases List.mem_cons.1 ((h z).2 (by simp [hz])) with e | e
      · subst e; have := hb'.1 z hz; rw [lt_irr] at this; cases this
      · exact e
/-! ### insF, withF -/
theorem insF_iff (n x : Str) : ∀ l : List Str, x ∈ insF n l ↔ x = n ∨ x ∈ l
  | [] => by simp [insF]
  | y :: r => by
    unfold insF
    split
    · rw [List.mem_cons, insF_iff n x r, List.mem_cons]
      constructor
      · rintro (h | h | h) <;> simp [h]
      · rintro (h | h | h) <;> simp [h]
    · split
      · rename_i h; subst h; simp
      · simp
theorem insF_SR (n : Str) : ∀ {l : List Str}, SR l → SR (insF n l)
  | [], _ => by simp [insF, SR]
  | y :: r, h => by
    have h' := List.pairwise_cons.1 h
    unfold insF
    split
    · rename_i hy
      refine List.pairwise_cons.2 ⟨fun z hz => ?_, insF_SR n h'.2⟩
      rcases (insF_iff n z r).1 hz with rfl | hz
      · exact hy
      · exact h'.1 z hz
    · rename_i hy
      split
      · exact h
      · rename_i hne
        have hny : strLt n y = true := lt_tri (by simpa using hy) hne
        refine List.pairwise_cons.2 ⟨fun z hz => ?_, h⟩
        rcases List.mem_cons.1 hz with rfl | hz
        · exact hny
        · exact lt_tr hny (h'.1 z hz)
theorem insAll_SR : ∀ (l : List Str) {o : List Str}, SR o → SR (insAll o l)
  | [], _, h => h
  | n :: r, _, h => insAll_SR r (insF_SR n h)
theorem insAll_iff (x : Str) : ∀ (l o : List Str), x ∈ insAll o l ↔ x ∈ o ∨ x ∈ l
  | [], o => by simp [insAll]
  | n :: r, o => by
    have h := insAll_iff x r (insF n o)
    have h2 : insAll o (n :: r) = insAll (insF n o) r := rfl
    rw [h2, h, insF_iff, List.mem_cons]
    constructor
    · rintro ((h | h) | h) <;> simp [h]
    · rintro (h | h | h) <;> simp [h]
theorem fold_iff (x : Str) : ∀ (l o : List Str), x ∈ l.foldl addO o ↔ x ∈ o ∨ x ∈ l
  | [], o => by simp
  | n :: r, o => by
    rw [List.foldl_cons, fold_iff x r, List.mem_cons]
    unfold addO
    split
    · rename_i h
      constructor
      · rintro (h | h) <;> simp [h]
      · rintro (h | h | h)
        · simp [h]
        · subst h; simp [*]
        · simp [h]
    · simp only [List.mem_append, List.mem_singleton]
      constructor
      · rintro ((h | h) | h) <;> simp [h]
      · rintro (h | h | h) <;> simp [h]
theorem fold_nodup : ∀ (l : List Str) {o : List Str}, o.Nodup → (l.foldl addO o).Nodup
  | [], _, h => h
  | n :: r, o, h => by
    refine fold_nodup r ?_
    unfold addO
    split
    · exact h
    · rename_i hn
      exact List.nodup_append.2 ⟨h, by simp, fun a ha b hb => by simp at hb; subst hb; rintro rfl; exact hn ha⟩
theorem sort_SR {l : List Str} (h : l.Nodup) : SR (l.mergeSort fun x y => decide (x ≤ y)) := by
  have h1 := List.pairwise_mergeSort (le := fun x y : Str => decide (x ≤ y)) (fun a b c h1 h2 => by simp only [decide_eq_true_eq] at *; exact List.le_trans h1 h2) (fun a b => by simp only [Bool.or_eq_true, decide_eq_true_eq]; exact List.le_total a b) l
  have h2 : (l.mergeSort fun x y => decide (x ≤ y)).Nodup := (List.mergeSort_perm l _).nodup_iff.2 h
  refine (h1.and h2).imp fun {a b} hab => ?_
  obtain ⟨k1, k2⟩ := hab
  simp only [decide_eq_true_eq] at k1
  rw [strLt_dec, decide_eq_true_eq]
  rcases List.le_iff_lt_or_eq.1 k1 with h | h
  · exact h
  · exact absurd h k2
theorem withF_SR {l : List Str} (more : List Str) (h : l.Nodup) : SR (withF l more) := sort_SR (fold_nodup more h)
theorem withF_iff (l more : List Str) (x : Str) : x ∈ withF l more ↔ x ∈ l ∨ x ∈ more := by
  unfold withF
  rw [(List.mergeSort_perm _ _).mem_iff, fold_iff]
theorem with_ins {o : List Str} (h : SR o) (l : List Str) : withF o l = insAll o l :=
  SR_uniq (withF_SR l (SR_nodup h)) (insAll_SR l h) fun x => by rw [withF_iff, insAll_iff]
theorem with_one {o : List Str} (h : SR o) (s : Str) : withF o [s] = insF s o := with_ins h [s]
theorem fold_with : ∀ (l : List Str) {o : List Str}, SR o → l.foldl (fun l s => withF l [s]) o = l.foldl (fun l s => insF s l) o ∧ SR (l.foldl (fun l s => insF s l) o)
  | [], o, h => ⟨rfl, h⟩
  | s :: r, o, h => by
    simp only [List.foldl_cons]
    rw [with_one h]
    exact fold_with r (insF_SR s h)
theorem SR_nil : SR [] := List.Pairwise.nil
theorem stations_eq {p : GPlant} (h : validF p = true) : stationsF p = stationsS p := by
  unfold stationsF stationsS
  rw [if_pos h]
  obtain ⟨h1, h2⟩ := fold_with (p.Places.map GPlantPlace.Station) SR_nil
  rw [h1]
  exact (fold_with (p.Valves.map GPlantValve.Station) h2).1
theorem shuts_eq (p : GPlant) (l : List Str) : shutsI p l = shutsS p l := by
  have : ∀ (l : List Str) {o : List Str}, SR o → l.foldl (fun o s => withF o (besideF p s)) o = l.foldl (fun o s => insAll o (besideF p s)) o := by
    intro l
    induction l with
    | nil => exact fun _ => rfl
    | cons s r ih =>
      intro o h
      simp only [List.foldl_cons]
      rw [with_ins h]
      exact ih (insAll_SR _ h)
  exact this l SR_nil
theorem opens_eq (l : List Str) : withF [] l = insAll [] l := with_ins SR_nil l
end Go.HT
end
section
namespace Go.HT
open Go Go.Proofs
set_option maxRecDepth 100000
set_option linter.unusedSimpArgs false
set_option linter.unusedVariables false
/-! ### allP -/
theorem allP_and {α : Type} (q q' : Option α → α → Bool) : ∀ (l : List α) (o : Option α), allP (fun o x => q o x && q' o x) o l = (allP q o l && allP q' o l)
  | [], o => rfl
  | x :: r, o => by
    simp only [allP, allP_and q q' r]
    cases q o x <;> cases q' o x <;> cases allP q (some x) r <;> rfl
theorem allP_all {α : Type} (g : α → Bool) : ∀ (l : List α) (o : Option α), allP (fun _ x => g x) o l = l.all g
  | [], o => rfl
  | x :: r, o => by simp [allP, allP_all g r]
theorem allP_map {α β : Type} (f : α → β) (q : Option β → β → Bool) : ∀ (l : List α) (o : Option α), allP q (o.map f) (l.map f) = allP (fun o x => q (o.map f) (f x)) o l
  | [], o => rfl
  | x :: r, o => by
    have := allP_map f q r (some x)
    simp only [Option.map_some] at this
    simp only [List.map_cons, allP, this]
theorem allP_congr {α : Type} {q q' : Option α → α → Bool} : ∀ {l : List α} {o : Option α}, (∀ o x, x ∈ l → q o x = q' o x) → allP q o l = allP q' o l
  | [], o, _ => rfl
  | x :: r, o, h => by rw [allP, allP, h o x (by simp), allP_congr fun o y hy => h o y (by simp [hy])]
theorem stQ_names (l : List Str) : allP stQ none l = names l := by
  have h1 : stQ = fun o x => nameOk x && riseQ o x := by
    funext o x
    cases o <;> rfl
  rw [h1, allP_and, allP_all]
  rfl
theorem plc_places (p : GPlant) (l : List Str) : allP (plcQ p) none l = (l.all (placeB p) && rise l) := by
  have h1 : plcQ p = fun o x => placeB p x && riseQ o x := by
    funext o x
    cases o <;> rfl
  rw [h1, allP_and, allP_all]
  rfl
theorem placesOf_eq (p : GPlant) (l : List Str) : placesOfF p l = placesSF p l := by
  unfold placesOfF placesSF
  rw [plc_places]
  cases l.all (placeB p) <;> cases decide (1 ≤ l.length) <;> cases decide (l.length ≤ 8) <;> cases rise l <;> rfl
theorem pl_eq : plI = plQ := by
  funext o x
  unfold plI plQ capOk
  have h1 : (!decide (x.Cap < 0)) = decide (0 ≤ x.Cap) := by by_cases h : x.Cap < 0 <;> simp [h] <;> omega
  have h2 : (!decide (1000 < x.Cap)) = decide (x.Cap ≤ 1000) := by by_cases h : 1000 < x.Cap <;> simp [h] <;> omega
  rw [h1, h2]
  cases nameOk x.Name <;> cases decide (0 ≤ x.Cap) <;> cases decide (x.Cap ≤ 1000) <;> cases nameOk x.Station <;> cases ltO (o.map GPlantPlace.Name) x.Name <;> rfl
theorem vl_eq (p : GPlant) : vlI p = vlQ p := by
  funext o x
  unfold vlI vlQ
  cases nameOk x.Name <;> cases placeB p x.A <;> cases placeB p x.B <;> cases strLt x.A x.B <;> cases nameOk x.Station <;> cases ltO (o.map GPlantValve.Name) x.Name <;> rfl
theorem fo_eq {st : List Str} (h : ∀ s ∈ st, nameOk s = true) (o : Option GPlantFoe) (x : GPlantFoe) : (fiQ (o.map fun f => (f.A, f.B)) (x.A, x.B) && foB st x) = foQ st o x := by
  unfold fiQ foB foQ
  by_cases hA : x.A ∈ st
  case neg => simp [hA]
  by_cases hB : x.B ∈ st
  case neg => simp [hB]
  simp only [h _ hA, h _ hB, hA, hB, decide_true, Bool.true_and, Bool.and_true]
  cases o with
  | none => simp
  | some y =>
    simp only [Option.map_some, pairLt, beforeF]
    by_cases e : y.A = x.A
    · simp only [e, if_true, decide_true, Bool.true_and, lt_irr, Bool.false_or]
    · simp [e]
theorem valid_eq (p : GPlant) : validI p = validF p := by
  unfold validI validF stuffsF placesF valvesF
  rw [stQ_names, pl_eq, vl_eq]
  have hlen : (pairs p).length = p.Foes.length := by simp [pairs]
  rw [hlen]
  cases hn : names p.Stuffs
  · cases decide (p.Stuffs.length ≤ 8) <;> cases decide (p.Foes.length ≤ 12) <;> simp
  have hall : ∀ s ∈ p.Stuffs, nameOk s = true := by
    simp only [names, Bool.and_eq_true, List.all_eq_true] at hn
    exact hn.1
  have hf : (allP fiQ none (pairs p) && p.Foes.all (foB p.Stuffs)) = allP (foQ p.Stuffs) none p.Foes := by
    have h1 : allP fiQ none (pairs p) = allP (fun o x => fiQ (o.map fun f : GPlantFoe => (f.A, f.B)) (x.A, x.B)) none p.Foes := allP_map (fun f : GPlantFoe => (f.A, f.B)) fiQ p.Foes none
    have h2 : p.Foes.all (foB p.Stuffs) = allP (fun _ x => foB p.Stuffs x) none p.Foes := (allP_all _ _ _).symm
    rw [h1, h2, ← allP_and]
    exact allP_congr fun o x _ => fo_eq hall o x
  rw [← hf]
  cases decide (p.Stuffs.length ≤ 8) <;> cases decide (p.Foes.length ≤ 12) <;> cases allP fiQ none (pairs p) <;> cases p.Foes.all (foB p.Stuffs) <;> cases decide (p.Places.length ≤ 14) <;> cases decide (p.Valves.length ≤ 18) <;> cases allP plQ none p.Places <;> cases allP (vlQ p) none p.Valves <;> rfl
/-! ### Guards -/
theorem rise_SR : ∀ {l : List Str} {o : Option Str}, allP ltO o l = true → SR l ∧ ∀ y, o = some y → ∀ x ∈ l, strLt y x = true
  | [], o, _ => ⟨SR_nil, by simp⟩
  | x :: r, o, h => by
    simp only [allP, Bool.and_eq_true] at h
    obtain ⟨h1, h2⟩ := rise_SR h.2
    refine ⟨List.pairwise_cons.2 ⟨fun z hz => h2 x rfl z hz, h1⟩, ?_⟩
    rintro y rfl z hz
    rcases List.mem_cons.1 hz with rfl | hz
    · exact h.1
    · exact lt_tr h.1 (h2 x rfl z hz)
theorem valve_names {p : GPlant} (h : validF p = true) : SR (p.Valves.map GPlantValve.Name) := by
  simp only [validF, valvesF, Bool.and_eq_true] at h
  have h1 := h.2.2.2
  have h2 : allP ltO (Option.map GPlantValve.Name none) (p.Valves.map GPlantValve.Name) = true := by
    rw [allP_map]
    have h3 : vlQ p = fun o x => ltO (o.map GPlantValve.Name) x.Name && (nameOk x.Name && (strLt x.A x.B && (placeB p x.A && (placeB p x.B && nameOk x.Station)))) := by
      funext o x
      unfold vlQ
      cases nameOk x.Name <;> cases ltO (o.map GPlantValve.Name) x.Name <;> rfl
    rw [h3, allP_and, Bool.and_eq_true] at h1
    exact h1.1
  exact (rise_SR h2).1
theorem guardsF_SR {p : GPlant} (h : validF p = true) (r : GPlantRoute) : SR (guardsF p r) := by
  unfold guardsF
  exact (valve_names h).sublist (List.Sublist.map _ List.filter_sublist)
theorem addG_SR (r : GPlantRoute) : ∀ (l : List Str) {o : List Str}, SR o → SR (l.foldl (addG r) o)
  | [], _, h => h
  | n :: t, o, h => by
    refine addG_SR r t ?_
    unfold addG
    split
    · exact h
    · exact insF_SR n h
theorem addG_iff (r : GPlantRoute) (x : Str) : ∀ (l o : List Str), x ∈ l.foldl (addG r) o ↔ x ∈ o ∨ (x ∈ l ∧ x ∉ r.Valves)
  | [], o => by simp
  | n :: t, o => by
    rw [List.foldl_cons, addG_iff r x t, List.mem_cons]
    unfold addG
    split
    · rename_i hn
      constructor
      · rintro (h | ⟨h, h2⟩)
        · exact .inl h
        · exact .inr ⟨.inr h, h2⟩
      · rintro (h | ⟨rfl | h, h2⟩)
        · exact .inl h
        · exact absurd hn h2
        · exact .inr ⟨h, h2⟩
    · rename_i hn
      rw [insF_iff]
      constructor
      · rintro ((rfl | h) | ⟨h, h2⟩)
        · exact .inr ⟨.inl rfl, hn⟩
        · exact .inl h
        · exact .inr ⟨.inr h, h2⟩
      · rintro (h | ⟨rfl | h, h2⟩)
        · exact .inl (.inr h)
        · exact .inl (.inl rfl)
        · exact .inr ⟨h, h2⟩
theorem gfold (p : GPlant) (r : GPlantRoute) (x : Str) : ∀ (l : List Str) {o : List Str}, SR o → SR (l.foldl (fun o s => (besideF p s).foldl (addG r) o) o) ∧ (x ∈ l.foldl (fun o s => (besideF p s).foldl (addG r) o) o ↔ x ∈ o ∨ ∃ s ∈ l, x ∈ besideF p s ∧ x ∉ r.Valves)
  | [], o, h => ⟨h, by simp⟩
  | s :: t, o, h => by
    obtain ⟨h1, h2⟩ := gfold p r x t (addG_SR r (besideF p s) h)
    refine ⟨h1, ?_⟩
    rw [List.foldl_cons, h2, addG_iff]
    constructor
    · rintro ((h | h) | ⟨s', hs, h⟩)
      · exact .inl h
      · exact .inr ⟨s, by simp, h⟩
      · exact .inr ⟨s', by simp [hs], h⟩
    · rintro (h | ⟨s', hs, h⟩)
      · exact .inl (.inl h)
      · rcases List.mem_cons.1 hs with rfl | hs
        · exact .inl (.inr h)
        · exact .inr ⟨s', hs, h⟩
theorem guards_eq {p : GPlant} (h : validF p = true) {r : GPlantRoute} (hr : routeS p r = true) : guardsF p r = guardsS p r := by
  unfold guardsS
  rw [if_pos (by simp [h, hr])]
  refine SR_uniq (guardsF_SR h r) (gfold p r [] r.Places SR_nil).1 fun x => ?_
  rw [(gfold p r x r.Places SR_nil).2]
  unfold guardsF besideF
  simp only [List.mem_map, List.mem_filter, List.not_mem_nil, false_or, gdQ, besQ, Bool.and_eq_true, Bool.or_eq_true, decide_eq_true_eq, Bool.not_eq_true', decide_eq_false_iff_not]
  constructor
  · rintro ⟨v, ⟨hv, h1, h2⟩, rfl⟩
    rcases h1 with h1 | h1
    · exact ⟨v.A, h1, ⟨v, ⟨hv, .inl rfl⟩, rfl⟩, h2⟩
    · exact ⟨v.B, h1, ⟨v, ⟨hv, .inr rfl⟩, rfl⟩, h2⟩
  · rintro ⟨s, hs, ⟨v, ⟨hv, h1⟩, rfl⟩, h2⟩
    rcases h1 with rfl | rfl
    · exact ⟨v, ⟨hv, .inl hs, h2⟩, rfl⟩
    · exact ⟨v, ⟨hv, .inr hs, h2⟩, rfl⟩
end Go.HT
end
section
namespace Go.HT
open Go Go.Proofs Go.Sort
set_option maxRecDepth 100000
set_option linter.unusedSimpArgs false
set_option linter.unusedVariables false
/-! ### Uses, in order of their names -/
def SRU (l : List GClaimUse) : Prop := l.Pairwise fun a b => strLt a.Name b.Name = true
theorem SRU_uniq : ∀ {a b : List GClaimUse}, SRU a → SRU b → (∀ x, x ∈ a ↔ x ∈ b) → a = b
  | [], [], _, _, _ => rfl
  | [], y :: b, _, _, h => absurd ((h y).2 (by simp)) (by simp)
  | x :: a, [], _, _, h => absurd ((h x).1 (by simp)) (by simp)
  | x :: a, y :: b, ha, hb, h => by
    have ha' := List.pairwise_cons.1 ha
    have hb' := List.pairwise_cons.1 hb
    have hxy : x = y := by
      rcases List.mem_cons.1 ((h x).1 (by simp)) with e | e
      · exact e
      · rcases List.mem_cons.1 ((h y).2 (by simp)) with e2 | e2
        · exact e2.symm
        · have h1 := hb'.1 x e
          have h2 := ha'.1 y e2
          rw [lt_as h1] at h2; cases h2
    subst hxy
    rw [SRU_uniq ha'.2 hb'.2 fun z => ?_]
    constructor
    · intro hz
      rcases List.mem_cons.1 ((h z).1 (by simp [hz])) with e | e
      · subst e; have := ha'.1 z hz; rw [lt_irr] at this; cases this
      · exact e
    · intro hz
      rcases List.mem_cons.1 ((h z).2 (by simp [hz])) with e | e
      · subst e; have := hb'.1 z hz; rw [lt_irr] at this; cases this
      · exact e
theorem insU_iff (u x : GClaimUse) : ∀ l : List GClaimUse, x ∈ insU u l ↔ x = u ∨ x ∈ l
  | [] => by simp [insU]
  | y :: r => by
    unfold insU
    split
    · rw [List.mem_cons, insU_iff u x r, List.mem_cons]
      constructor
      · rintro (h | h | h) <;> simp [h]
      · rintro (h | h | h) <;> simp [h]
    · simp
theorem insU_SRU (u : GClaimUse) : ∀ {l : List GClaimUse}, SRU l → (∀ x ∈ l, u.Name ≠ x.Name) → SRU (insU u l)
  | [], _, _ => by simp [insU, SRU]
  | y :: r, h, hn => by
    have h' := List.pairwise_cons.1 h
    unfold insU
    split
    · rename_i hy
      refine List.pairwise_cons.2 ⟨fun z hz => ?_, insU_SRU u h'.2 fun x hx => hn x (by simp [hx])⟩
      rcases (insU_iff u z r).1 hz with rfl | hz
      · exact hy
      · exact h'.1 z hz
    · rename_i hy
      have huy : strLt u.Name y.Name = true := lt_tri (by simpa using hy) (fun e => hn y (by simp) e.symm)
      refine List.pairwise_cons.2 ⟨fun z hz => ?_, h⟩
      rcases List.mem_cons.1 hz with rfl | hz
      · exact huy
      · exact lt_tr huy (h'.1 z hz)
theorem fold_SRU : ∀ (U : List GClaimUse) {o : List GClaimUse}, SRU o → (∀ u ∈ U, ∀ x ∈ o, u.Name ≠ x.Name) → (U.map GClaimUse.Name).Nodup → SRU (U.foldl (fun o u => insU u o) o) ∧ ∀ x, x ∈ U.foldl (fun o u => insU u o) o ↔ x ∈ o ∨ x ∈ U
  | [], o, h, _, _ => ⟨h, by simp⟩
  | u :: U, o, h, hd, hn => by
    rw [List.map_cons, List.nodup_cons] at hn
    obtain ⟨h1, h2⟩ := fold_SRU U (insU_SRU u h (hd u (by simp))) (fun v hv x hx => by
      rcases (insU_iff u x o).1 hx with rfl | hx
      · exact fun e => hn.1 (e ▸ List.mem_map.2 ⟨v, hv, rfl⟩)
      · exact hd v (by simp [hv]) x hx) hn.2
    refine ⟨h1, fun x => ?_⟩
    rw [List.foldl_cons, h2, insU_iff, List.mem_cons]
    constructor
    · rintro ((h | h) | h) <;> simp [h]
    · rintro (h | h | h) <;> simp [h]
theorem uses_names (l : List Str) (am : Int) : (usesL l am).map GClaimUse.Name = l := by
  unfold usesL
  rw [List.map_map]
  apply List.ext_getElem
  · simp
  · intro i h1 h2
    simp only [List.getElem_map, List.getElem_range, Function.comp_apply, useN_name]
    simp [h2]
theorem sortU_mem (l : List GClaimUse) (x : GClaimUse) : x ∈ sortU l ↔ x ∈ l := by
  obtain ⟨⟨h1, h2, h3⟩, _⟩ := sortU_sorts l
  have e1 : (pdq ltU l.toArray 0 l.length (Lib.bitLen l.length) true true).extract 0 l.length = pdq ltU l.toArray 0 l.length (Lib.bitLen l.length) true true := by
    apply Array.extract_eq_self_of_le
    rw [h1]; simp
  have e2 : l.toArray.extract 0 l.length = l.toArray := by
    apply Array.extract_eq_self_of_le
    simp
  rw [e1, e2] at h3
  unfold sortU
  rw [h3.mem_iff]
theorem sortU_perm (l : List GClaimUse) : (sortU l).Perm l := by
  obtain ⟨⟨h1, h2, h3⟩, _⟩ := sortU_sorts l
  have e1 : (pdq ltU l.toArray 0 l.length (Lib.bitLen l.length) true true).extract 0 l.length = pdq ltU l.toArray 0 l.length (Lib.bitLen l.length) true true := by
    apply Array.extract_eq_self_of_le
    rw [h1]; simp
  have e2 : l.toArray.extract 0 l.length = l.toArray := by
    apply Array.extract_eq_self_of_le
    simp
  rw [e1, e2] at h3
  exact h3
theorem sortU_SRU {l : List GClaimUse} (h : (l.map GClaimUse.Name).Nodup) : SRU (sortU l) := by
  have hn : ((sortU l).map GClaimUse.Name).Nodup := ((sortU_perm l).map _).nodup_iff.2 h
  have hs := (sortU_sorts l).2
  have hlen := sortU_length l
  refine List.pairwise_iff_getElem.2 fun i j hi hj hij => ?_
  have h1 := hs i j (Nat.zero_le _) hij (by omega)
  have hsz : (pdq ltU l.toArray 0 l.length (Lib.bitLen l.length) true true).size = l.length := by simpa [sortU] using hlen
  rw [getElem!_pos _ j (by omega), getElem!_pos _ i (by omega)] at h1
  have h2 : strLt (sortU l)[j].Name (sortU l)[i].Name = false := by simpa [sortU, ltU] using h1
  refine lt_tri h2 fun e => ?_
  have h3 := List.pairwise_iff_getElem.1 hn i j (by simpa using hi) (by simpa using hj) hij
  simp only [List.getElem_map] at h3
  exact h3 e.symm
theorem uses_eq {l : List Str} (h : l.Nodup) (am : Int) : sortU (usesL l am) = usesS l am := by
  have hn : ((usesL l am).map GClaimUse.Name).Nodup := by rw [uses_names]; exact h
  have he : usesS l am = (usesL l am).foldl (fun o u => insU u o) [] := by
    unfold usesS usesL
    rw [List.foldl_map]
  obtain ⟨h1, h2⟩ := fold_SRU (usesL l am) (o := []) List.Pairwise.nil (by simp) hn
  rw [he]
  refine SRU_uniq (sortU_SRU hn) h1 fun x => ?_
  rw [sortU_mem, h2]
  simp
/-! ### Routes -/
theorem placeB_at {p : GPlant} {n : Str} (h : placeB p n = true) : ∃ x ∈ p.Places, placeF p n = x ∧ x.Name = n := by
  unfold placeB at h
  obtain ⟨x, hx⟩ := Option.isSome_iff_exists.1 h
  exact ⟨x, List.mem_of_find?_eq_some hx, by simp [placeF, hx], by simpa using List.find?_some hx⟩
theorem valveB_at {p : GPlant} {n : Str} (h : valveB p n = true) : ∃ x ∈ p.Valves, valveF p n = x ∧ x.Name = n := by
  unfold valveB at h
  obtain ⟨x, hx⟩ := Option.isSome_iff_exists.1 h
  exact ⟨x, List.mem_of_find?_eq_some hx, by simp [valveF, hx], by simpa using List.find?_some hx⟩
theorem place_facts {p : GPlant} (hv : validF p = true) {n : Str} (h : placeB p n = true) : 0 ≤ (placeF p n).Cap ∧ n ≠ [] := by
  obtain ⟨x, hx, h1, h2⟩ := placeB_at h
  simp only [validF, placesF, Bool.and_eq_true] at hv
  have h3 := allP_mem (g := fun x : GPlantPlace => nameOk x.Name = true ∧ 0 ≤ x.Cap) (fun o x h => by
    simp only [plQ, capOk, Bool.and_eq_true, decide_eq_true_eq] at h
    exact ⟨h.1, h.2.2.1.1⟩) hv.2.1.2 x hx
  refine ⟨by rw [h1]; exact h3.2, ?_⟩
  rintro rfl
  rw [h2] at h3
  simp [nameOk] at h3
theorem valve_facts {p : GPlant} (hv : validF p = true) {n : Str} (h : valveB p n = true) : strLt (valveF p n).A (valveF p n).B = true := by
  obtain ⟨x, hx, h1, h2⟩ := valveB_at h
  simp only [validF, valvesF, Bool.and_eq_true] at hv
  rw [h1]
  exact allP_mem (g := fun x : GPlantValve => strLt x.A x.B = true) (fun o x h => by
    simp only [vlQ, Bool.and_eq_true] at h
    exact h.2.2.1) hv.2.2.2 x hx
theorem nodup_take {l : List Str} (h : ∀ k, k < l.length → l.getD k [] ∉ l.take k) : l.Nodup := by
  refine List.pairwise_iff_getElem.2 fun i j hi hj hij e => ?_
  refine h j hj ?_
  have h1 : l.getD j [] = l[j] := by simp [hj]
  rw [h1, ← e]
  exact List.mem_take_iff_getElem.2 ⟨i, by omega, rfl⟩
theorem route_nodup {p : GPlant} {r : GPlantRoute} (h : routeS p r = true) : r.Places.Nodup := by
  simp only [routeS, Bool.and_eq_true] at h
  refine nodup_take fun k hk => ?_
  have h1 := allN_spec.1 h.2.2.2.2 k hk
  simp only [rtS, Bool.and_eq_true, Bool.not_eq_true', decide_eq_false_iff_not] at h1
  exact h1.2.1
theorem capF_pos {p : GPlant} {n : Str} (h : placeB p n = true) : capF p n = (placeF p n).Cap := by simp [capF, h]
theorem capF_neg {p : GPlant} {n : Str} (h : placeB p n = false) : capF p n = -1 := by simp [capF, h]
theorem route_eq {p : GPlant} (hv : validF p = true) (r : GPlantRoute) : isRouteF p r = routeS p r := by
  unfold isRouteF routeS
  by_cases h2 : 2 ≤ r.Places.length
  case neg => simp [h2]
  by_cases h3 : r.Valves.length + 1 = r.Places.length
  case neg => simp [h3]
  simp only [h2, h3, decide_true, Bool.true_and]
  rw [Bool.eq_iff_iff]
  simp only [Bool.and_eq_true, allN_spec, decide_eq_true_eq]
  constructor
  · rintro ⟨hP, hV⟩
    have P : ∀ k, k < r.Places.length → placeB p (r.Places.getD k []) = true ∧ (decide (0 < (placeF p (r.Places.getD k [])).Cap) = (decide (k = 0) || decide (k + 1 = r.Places.length))) ∧ r.Places.getD k [] ∉ r.Places.take k := fun k hk => by
      have := hP k hk
      simp only [rtP, Bool.and_eq_true, beq_iff_eq, Bool.not_eq_true', decide_eq_false_iff_not] at this
      exact ⟨this.1, this.2.1, this.2.2⟩
    refine ⟨?_, ?_, fun k hk => ?_⟩
    · obtain ⟨a, b, _⟩ := P 0 (by omega)
      rw [capF_pos a]
      have b' : decide (0 < (placeF p (r.Places.getD 0 [])).Cap) = true := by rw [b]; simp
      have := of_decide_eq_true b'; omega
    · obtain ⟨a, b, _⟩ := P (r.Places.length - 1) (by omega)
      rw [capF_pos a]
      have b' : decide (0 < (placeF p (r.Places.getD (r.Places.length - 1) [])).Cap) = true := by
        rw [b, Bool.or_eq_true]; right; rw [decide_eq_true_eq]; omega
      have := of_decide_eq_true b'; omega
    · obtain ⟨a, b, c⟩ := P k hk
      have hc := (place_facts hv a).1
      simp only [rtS, Bool.and_eq_true, Bool.or_eq_true, Bool.not_eq_true', decide_eq_true_eq, decide_eq_false_iff_not, capF_pos a]
      refine ⟨hc, c, ?_, ?_⟩
      · cases hh : (decide (0 < k) && (decide (k + 1 < r.Places.length) && decide (0 < (placeF p (r.Places.getD k [])).Cap)))
        · rfl
        · simp only [Bool.and_eq_true, decide_eq_true_eq] at hh
          obtain ⟨k1, k2, k3⟩ := hh
          rw [decide_eq_true k3] at b
          have : (decide (k = 0) || decide (k + 1 = r.Places.length)) = false := by simp; omega
          rw [this] at b; cases b
      · by_cases hk0 : k = 0
        · exact .inl hk0
        right
        have hv1 := hV (k - 1) (by omega)
        simp only [rtV, Bool.and_eq_true, decide_eq_true_eq] at hv1
        have hk1 : k - 1 + 1 = k := by omega
        rw [hk1] at hv1
        obtain ⟨v1, v2, v3⟩ := hv1
        simp only [joinsF, Bool.and_eq_true, decide_eq_true_eq]
        refine ⟨v1, ?_⟩
        simp only [otherF, v2, v3, minF, maxF]
        generalize r.Places.getD (k - 1) [] = x
        generalize r.Places.getD k [] = y
        by_cases e : x = y
        · subst e; simp [lt_irr]
        · cases hl : strLt x y
          · have hne : ¬ y = x := fun h => e h.symm
            simp [e, hne]
          · simp
  · rintro ⟨h0, h1, hS⟩
    have S : ∀ k, k < r.Places.length → 0 ≤ capF p (r.Places.getD k []) ∧ r.Places.getD k [] ∉ r.Places.take k ∧ ¬ (0 < k ∧ k + 1 < r.Places.length ∧ 0 < capF p (r.Places.getD k [])) ∧ (k = 0 ∨ joinsF p (r.Valves.getD (k - 1) []) (r.Places.getD (k - 1) []) (r.Places.getD k []) = true) := fun k hk => by
      have := hS k hk
      simp only [rtS, Bool.and_eq_true, Bool.or_eq_true, decide_eq_true_eq, Bool.not_eq_true', decide_eq_false_iff_not] at this
      refine ⟨this.1, this.2.1, fun hh => ?_, this.2.2.2⟩
      have h5 := this.2.2.1
      rw [decide_eq_true hh.1, decide_eq_true hh.2.1, decide_eq_true hh.2.2] at h5
      cases h5
    have B : ∀ k, k < r.Places.length → placeB p (r.Places.getD k []) = true := fun k hk => by
      have h5 := (S k hk).1
      cases hb : placeB p (r.Places.getD k [])
      · rw [capF_neg hb] at h5; omega
      · rfl
    refine ⟨fun k hk => ?_, fun k hk => ?_⟩
    · obtain ⟨a, b, c, _⟩ := S k hk
      have hB := B k hk
      rw [capF_pos hB] at a c
      simp only [rtP, Bool.and_eq_true, beq_iff_eq, Bool.not_eq_true', decide_eq_false_iff_not]
      refine ⟨hB, ?_, b⟩
      by_cases hk0 : k = 0
      · subst hk0
        rw [capF_pos hB] at h0
        have : 0 < (placeF p (r.Places.getD 0 [])).Cap := by omega
        rw [decide_eq_true this]; simp
      by_cases hk1 : k + 1 = r.Places.length
      · have hk2 : r.Places.length - 1 = k := by omega
        rw [hk2, capF_pos hB] at h1
        have : 0 < (placeF p (r.Places.getD k [])).Cap := by omega
        rw [decide_eq_true this, decide_eq_true hk1]; simp
      · have : ¬ 0 < (placeF p (r.Places.getD k [])).Cap := fun hh => c ⟨by omega, by omega, hh⟩
        rw [decide_eq_false this, decide_eq_false hk0, decide_eq_false hk1]; rfl
    · have h5 := (S (k + 1) (by omega)).2.2.2
      rcases h5 with h5 | h5
      · omega
      simp only [Nat.add_sub_cancel, joinsF, Bool.and_eq_true, decide_eq_true_eq] at h5
      obtain ⟨v1, v2⟩ := h5
      have hlt := valve_facts hv v1
      have hne := (place_facts hv (B (k + 1) (by omega))).2
      simp only [rtV, Bool.and_eq_true, decide_eq_true_eq]
      refine ⟨v1, ?_⟩
      generalize r.Places.getD (k + 1) [] = y at *
      generalize r.Places.getD k [] = x at *
      generalize valveF p (r.Valves.getD k []) = v at *
      simp only [otherF] at v2
      split at v2
      · rename_i e
        rw [e, v2] at hlt
        simp [minF, maxF, hlt, e, v2]
      · split at v2
        · rename_i e1 e2
          rw [e2, v2] at hlt
          have h6 := lt_as hlt
          have h7 : ¬ x = y := by rintro rfl; rw [lt_irr] at hlt; cases hlt
          simp [minF, maxF, h6, h7, e2, v2]
        · exact absurd v2.symm hne
/-- What the two compute is the same. -/
theorem job_eq (p : GPlant) (j : GCtlJob) : jobI p j = jobS p j := by
  unfold jobI jobS
  rw [valid_eq]
  cases hv : validF p
  · simp [routeAsksS, placeAsksS, hv]
  simp only [if_true]
  unfold asksF
  split
  · unfold routeAsksF routeAsksS
    rw [hv, route_eq hv, stations_eq hv]
    cases hr : routeS p j.Route
    · rfl
    · simp only [if_true]
      unfold routeW routeWS
      rw [uses_eq (route_nodup hr), opens_eq, guards_eq hv hr]
  · unfold placeAsksF placeAsksS
    rw [hv, placesOf_eq, stations_eq hv]
    unfold placeW placeWS
    rw [shuts_eq]
    cases placesSF p j.Places <;> cases (decide (j.Kind = 2) || decide (j.Kind = 3)) <;> rfl
end Go.HT
end
