/- A part of the proof of: The law FnExactCtlJobAsks returns true, and its arguments read as before, for all arguments whose reading is together of bulk at most 1048576 (values and letters). -/
import Derived.Test.YtifbcpifgajdeaaGreatPd
import Derived.Shelf.Sort.Plain
import Derived.Shelf.Slices.In.SortNone
import Derived.Shelf.Slices.In.SortNone2
import Derived.Shelf.SlSortFuncK.WholeK
import Derived.Test.YtifbcpifgajdeaaGreatProg
set_option linter.all false
set_option linter.unusedSimpArgs false
set_option linter.unusedVariables false
section
namespace Go.HT
open Go Go.Proofs
set_option maxRecDepth 100000
set_option maxHeartbeats 1000000
set_option linter.unusedSimpArgs false
/-- How much a list holds. -/
def szL {α : Type} (z : α → Nat) : List α → Nat
  | [] => 0
  | s :: r => z s + 1 + szL z r
theorem szL_len {α : Type} (z : α → Nat) : ∀ l : List α, l.length ≤ szL z l
  | [] => Nat.le_refl _
  | s :: r => by have := szL_len z r; simp [szL]; omega
theorem szL_mem {α : Type} (z : α → Nat) {x : α} : ∀ {l : List α}, x ∈ l → z x ≤ szL z l
  | s :: r, h => by
    simp only [List.mem_cons] at h
    rcases h with rfl | h
    · simp [szL]; omega
    · have := szL_mem z h; simp [szL]; omega
/-- A list that is being filled. -/
def fillL {α : Type} (z : α) (l : List α) (i : Nat) : List α := l.take i ++ List.replicate (l.length - i) z
section
variable {α : Type} (z : α) (l : List α)
@[simp] theorem fillL_0 : fillL z l 0 = List.replicate l.length z := by simp [fillL]
@[simp] theorem fillL_n : fillL z l l.length = l := by simp [fillL]
@[simp] theorem fillL_len (i : Nat) (h : i ≤ l.length) : (fillL z l i).length = l.length := by simp [fillL]; omega
theorem fillL_set (i : Nat) (h : i < l.length) : (fillL z l i).set i l[i] = fillL z l (i + 1) := by
  unfold fillL
  have h1 : List.replicate (l.length - i) z = z :: List.replicate (l.length - (i + 1)) z := by
    rw [← List.replicate_succ]; congr 1; omega
  rw [h1, List.set_append]
  have : (l.take i).length = i := by simp; omega
  have h2 : l.take (i + 1) = l.take i ++ [l[i]] := by simp
  rw [this, h2, if_neg (by omega), Nat.sub_self, List.set_cons_zero, List.append_assoc]
  rfl
end
def md17 : Modes where
  call := callM
  br := fun _ => false
  plan := fun _ => .fin
@[simp] theorem md17_call (f i : Nat) : md17.call f i = callM f i := rfl
@[simp] theorem md17_br : md17.br = fun _ => false := rfl
theorem szStringS_ok (κ : Knd) (hκ : κ ≠ .own) (l : List Str) (n : Int) (h : szL List.length l ≤ n) (hn : n ≤ 1048576) :
    ACall PP 17 [.tmp (.tr (.sl κ () 1 (enc cS l))), .tmp (.tr (.int .i64 n))] [] (.tmp (.tr (.int .i64 (n - szL List.length l)))) [] [] := by
  refine ACall_intro md17 (na := 2) (bx := []) (by kernel_rfl) Tryz.func17 rfl rfl rfl (by simp [noBoR, noBoV, noBoL, noBoT]) rfl (by simp [noBoRow, noBoT]) rfl rfl ?_
  have hl := szL_len List.length l
  simp [hκ]
  refine andK_i (by omega) fun _ => condK_i (fun h1 => by omega) fun _ => ?_
  refine vc_loop2 [0, 1, 5] (fun m S => ∃ (i : Nat) (k : Int), m = l.length - i ∧ i ≤ l.length ∧ k - szL List.length (l.drop i) + (l.drop i).length = n - szL List.length l ∧ k ≤ 1048576 ∧
    S = [(0, .tmp (.tr (.sl κ () 1 (enc cS l)))), (1, .tmp (.tr (.int .i64 k))), (5, .tmp (.tr (.int .i64 i)))]) l.length ?_ ?_
  · exact ⟨0, n - l.length, by simp, by simp, by simp; omega, by omega, by simp⟩
  · rintro J hJ m S ⟨i, k, rfl, hi, hk, hk2, rfl⟩
    by_cases hlt : i < l.length
    · have hd : l.drop i = l[i] :: l.drop (i + 1) := by simp
      rw [hd] at hk
      simp [szL] at hk
      simp [hκ, hlt]
      have := szL_len List.length (l.drop (i+1))
      simp at this
      refine andK_i (by omega) fun _ => andK_i (by omega) fun _ => condK_i (fun h1 => by omega) fun _ => andK_i (by omega) fun _ => ?_
      exact again_i hJ (m := l.length - (i + 1)) (by omega) ⟨i + 1, k - l[i].length, rfl, by omega, by simp; omega, by omega, by simp⟩
    · obtain rfl : i = l.length := by omega
      simp [szL] at hk
      simp [hκ]
      omega
def md46 : Modes where
  call := callM
  br := fun _ => false
  plan := fun _ => .fin
@[simp] theorem md46_call (f i : Nat) : md46.call f i = callM f i := rfl
@[simp] theorem md46_br : md46.br = fun _ => false := rfl
def zPlantFoe (x : GPlantFoe) : Nat := x.A.length + x.B.length
theorem szPlantFoe_ok (x : GPlantFoe) (n : Int) (h : zPlantFoe x ≤ n) (hn : n ≤ 1048576) :
    ACall PP 46 [.tmp (.agg [.tr (.str x.A), .tr (.str x.B)]), .tmp (.tr (.int .i64 n))] [] (.tmp (.tr (.int .i64 (n - zPlantFoe x)))) [] [] := by
  refine ACall_intro md46 (na := 2) (bx := []) (by kernel_rfl) Tryz.func46 rfl rfl rfl (by simp [noBoR, noBoV, noBoL, noBoT]) rfl (by simp [noBoRow, noBoT]) rfl rfl ?_
  simp only [zPlantFoe] at h ⊢
  simp []
  refine andK_i (by omega) fun _ => andK_i (by omega) fun _ => condK_i (fun h1 => by omega) fun _ => ?_
  refine andK_i (by omega) fun _ => andK_i (by omega) fun _ => condK_i (fun h1 => by omega) fun _ => ?_
  omega
def md47 : Modes where
  call := callM
  br := fun _ => false
  plan := fun _ => .fin
@[simp] theorem md47_call (f i : Nat) : md47.call f i = callM f i := rfl
@[simp] theorem md47_br : md47.br = fun _ => false := rfl
def zPlantPlace (x : GPlantPlace) : Nat := x.Name.length + x.Station.length
theorem szPlantPlace_ok (x : GPlantPlace) (n : Int) (h : zPlantPlace x ≤ n) (hn : n ≤ 1048576) :
    ACall PP 47 [.tmp (.agg [.tr (.str x.Name), .tr (.int .i64 x.Cap), .tr (.str x.Station)]), .tmp (.tr (.int .i64 n))] [] (.tmp (.tr (.int .i64 (n - zPlantPlace x)))) [] [] := by
  refine ACall_intro md47 (na := 2) (bx := []) (by kernel_rfl) Tryz.func47 rfl rfl rfl (by simp [noBoR, noBoV, noBoL, noBoT]) rfl (by simp [noBoRow, noBoT]) rfl rfl ?_
  simp only [zPlantPlace] at h ⊢
  simp []
  refine andK_i (by omega) fun _ => andK_i (by omega) fun _ => condK_i (fun h1 => by omega) fun _ => ?_
  refine andK_i (by omega) fun _ => andK_i (by omega) fun _ => condK_i (fun h1 => by omega) fun _ => ?_
  omega
def md48 : Modes where
  call := callM
  br := fun _ => false
  plan := fun _ => .fin
@[simp] theorem md48_call (f i : Nat) : md48.call f i = callM f i := rfl
@[simp] theorem md48_br : md48.br = fun _ => false := rfl
def zPlantValve (x : GPlantValve) : Nat := x.Name.length + x.A.length + x.B.length + x.Station.length
theorem szPlantValve_ok (x : GPlantValve) (n : Int) (h : zPlantValve x ≤ n) (hn : n ≤ 1048576) :
    ACall PP 48 [.tmp (.agg [.tr (.str x.Name), .tr (.str x.A), .tr (.str x.B), .tr (.str x.Station)]), .tmp (.tr (.int .i64 n))] [] (.tmp (.tr (.int .i64 (n - zPlantValve x)))) [] [] := by
  refine ACall_intro md48 (na := 2) (bx := []) (by kernel_rfl) Tryz.func48 rfl rfl rfl (by simp [noBoR, noBoV, noBoL, noBoT]) rfl (by simp [noBoRow, noBoT]) rfl rfl ?_
  simp only [zPlantValve] at h ⊢
  simp []
  refine andK_i (by omega) fun _ => andK_i (by omega) fun _ => condK_i (fun h1 => by omega) fun _ => ?_
  refine andK_i (by omega) fun _ => andK_i (by omega) fun _ => condK_i (fun h1 => by omega) fun _ => ?_
  refine andK_i (by omega) fun _ => andK_i (by omega) fun _ => condK_i (fun h1 => by omega) fun _ => ?_
  refine andK_i (by omega) fun _ => andK_i (by omega) fun _ => condK_i (fun h1 => by omega) fun _ => ?_
  omega
def md18 : Modes where
  call := callM
  br := fun _ => false
  plan := fun _ => .fin
@[simp] theorem md18_call (f i : Nat) : md18.call f i = callM f i := rfl
@[simp] theorem md18_br : md18.br = fun _ => false := rfl
theorem szPlantFoeS_ok (κ : Knd) (hκ : κ ≠ .own) (l : List GPlantFoe) (n : Int) (h : szL zPlantFoe l ≤ n) (hn : n ≤ 1048576) :
    ACall PP 18 [.tmp (.tr (.sl κ () 2 (enc cPlantFoe l))), .tmp (.tr (.int .i64 n))] [] (.tmp (.tr (.int .i64 (n - szL zPlantFoe l)))) [] [] := by
  refine ACall_intro md18 (na := 2) (bx := []) (by kernel_rfl) Tryz.func18 rfl rfl rfl (by simp [noBoR, noBoV, noBoL, noBoT]) rfl (by simp [noBoRow, noBoT]) rfl rfl ?_
  have hl := szL_len zPlantFoe l
  simp [hκ]
  refine andK_i (by omega) fun _ => condK_i (fun h1 => by omega) fun _ => ?_
  refine vc_loop2 [0, 1, 5] (fun m S => ∃ (i : Nat) (k : Int), m = l.length - i ∧ i ≤ l.length ∧ k - szL zPlantFoe (l.drop i) + (l.drop i).length = n - szL zPlantFoe l ∧ k ≤ 1048576 ∧
    S = [(0, .tmp (.tr (.sl κ () 2 (enc cPlantFoe l)))), (1, .tmp (.tr (.int .i64 k))), (5, .tmp (.tr (.int .i64 i)))]) l.length ?_ ?_
  · exact ⟨0, n - l.length, by simp, by simp, by simp; omega, by omega, by simp⟩
  · rintro J hJ m S ⟨i, k, rfl, hi, hk, hk2, rfl⟩
    by_cases hlt : i < l.length
    · have hd : l.drop i = l[i] :: l.drop (i + 1) := by simp
      rw [hd] at hk
      simp [szL] at hk
      simp [hκ, hlt]
      have := szL_len zPlantFoe (l.drop (i+1))
      simp at this
      refine callK_of (szPlantFoe_ok l[i] _ (by omega) (by omega)) ?_
      simp [hκ]
      refine condK_i (fun h1 => by omega) fun _ => andK_i (by omega) fun _ => ?_
      exact again_i hJ (m := l.length - (i + 1)) (by omega) ⟨i + 1, k - zPlantFoe l[i], rfl, by omega, by simp; omega, by omega, by simp⟩
    · obtain rfl : i = l.length := by omega
      simp [szL] at hk
      simp [hκ]
      omega
def md19 : Modes where
  call := callM
  br := fun _ => false
  plan := fun _ => .fin
@[simp] theorem md19_call (f i : Nat) : md19.call f i = callM f i := rfl
@[simp] theorem md19_br : md19.br = fun _ => false := rfl
theorem szPlantPlaceS_ok (κ : Knd) (hκ : κ ≠ .own) (l : List GPlantPlace) (n : Int) (h : szL zPlantPlace l ≤ n) (hn : n ≤ 1048576) :
    ACall PP 19 [.tmp (.tr (.sl κ () 3 (enc cPlantPlace l))), .tmp (.tr (.int .i64 n))] [] (.tmp (.tr (.int .i64 (n - szL zPlantPlace l)))) [] [] := by
  refine ACall_intro md19 (na := 2) (bx := []) (by kernel_rfl) Tryz.func19 rfl rfl rfl (by simp [noBoR, noBoV, noBoL, noBoT]) rfl (by simp [noBoRow, noBoT]) rfl rfl ?_
  have hl := szL_len zPlantPlace l
  simp [hκ]
  refine andK_i (by omega) fun _ => condK_i (fun h1 => by omega) fun _ => ?_
  refine vc_loop2 [0, 1, 5] (fun m S => ∃ (i : Nat) (k : Int), m = l.length - i ∧ i ≤ l.length ∧ k - szL zPlantPlace (l.drop i) + (l.drop i).length = n - szL zPlantPlace l ∧ k ≤ 1048576 ∧
    S = [(0, .tmp (.tr (.sl κ () 3 (enc cPlantPlace l)))), (1, .tmp (.tr (.int .i64 k))), (5, .tmp (.tr (.int .i64 i)))]) l.length ?_ ?_
  · exact ⟨0, n - l.length, by simp, by simp, by simp; omega, by omega, by simp⟩
  · rintro J hJ m S ⟨i, k, rfl, hi, hk, hk2, rfl⟩
    by_cases hlt : i < l.length
    · have hd : l.drop i = l[i] :: l.drop (i + 1) := by simp
      rw [hd] at hk
      simp [szL] at hk
      simp [hκ, hlt]
      have := szL_len zPlantPlace (l.drop (i+1))
      simp at this
      refine callK_of (szPlantPlace_ok l[i] _ (by omega) (by omega)) ?_
      simp [hκ]
      refine condK_i (fun h1 => by omega) fun _ => andK_i (by omega) fun _ => ?_
      exact again_i hJ (m := l.length - (i + 1)) (by omega) ⟨i + 1, k - zPlantPlace l[i], rfl, by omega, by simp; omega, by omega, by simp⟩
    · obtain rfl : i = l.length := by omega
      simp [szL] at hk
      simp [hκ]
      omega
def md20 : Modes where
  call := callM
  br := fun _ => false
  plan := fun _ => .fin
@[simp] theorem md20_call (f i : Nat) : md20.call f i = callM f i := rfl
@[simp] theorem md20_br : md20.br = fun _ => false := rfl
theorem szPlantValveS_ok (κ : Knd) (hκ : κ ≠ .own) (l : List GPlantValve) (n : Int) (h : szL zPlantValve l ≤ n) (hn : n ≤ 1048576) :
    ACall PP 20 [.tmp (.tr (.sl κ () 4 (enc cPlantValve l))), .tmp (.tr (.int .i64 n))] [] (.tmp (.tr (.int .i64 (n - szL zPlantValve l)))) [] [] := by
  refine ACall_intro md20 (na := 2) (bx := []) (by kernel_rfl) Tryz.func20 rfl rfl rfl (by simp [noBoR, noBoV, noBoL, noBoT]) rfl (by simp [noBoRow, noBoT]) rfl rfl ?_
  have hl := szL_len zPlantValve l
  simp [hκ]
  refine andK_i (by omega) fun _ => condK_i (fun h1 => by omega) fun _ => ?_
  refine vc_loop2 [0, 1, 5] (fun m S => ∃ (i : Nat) (k : Int), m = l.length - i ∧ i ≤ l.length ∧ k - szL zPlantValve (l.drop i) + (l.drop i).length = n - szL zPlantValve l ∧ k ≤ 1048576 ∧
    S = [(0, .tmp (.tr (.sl κ () 4 (enc cPlantValve l)))), (1, .tmp (.tr (.int .i64 k))), (5, .tmp (.tr (.int .i64 i)))]) l.length ?_ ?_
  · exact ⟨0, n - l.length, by simp, by simp, by simp; omega, by omega, by simp⟩
  · rintro J hJ m S ⟨i, k, rfl, hi, hk, hk2, rfl⟩
    by_cases hlt : i < l.length
    · have hd : l.drop i = l[i] :: l.drop (i + 1) := by simp
      rw [hd] at hk
      simp [szL] at hk
      simp [hκ, hlt]
      have := szL_len zPlantValve (l.drop (i+1))
      simp at this
      refine callK_of (szPlantValve_ok l[i] _ (by omega) (by omega)) ?_
      simp [hκ]
      refine condK_i (fun h1 => by omega) fun _ => andK_i (by omega) fun _ => ?_
      exact again_i hJ (m := l.length - (i + 1)) (by omega) ⟨i + 1, k - zPlantValve l[i], rfl, by omega, by simp; omega, by omega, by simp⟩
    · obtain rfl : i = l.length := by omega
      simp [szL] at hk
      simp [hκ]
      omega
def md21 : Modes where
  call := callM
  br := fun _ => false
  plan := fun _ => .fin
@[simp] theorem md21_call (f i : Nat) : md21.call f i = callM f i := rfl
@[simp] theorem md21_br : md21.br = fun _ => false := rfl
def zPlantRoute (x : GPlantRoute) : Nat := szL List.length x.Places + szL List.length x.Valves
theorem szPlantRoute_ok (κ : Knd) (hκ : κ ≠ .own) (x : GPlantRoute) (n : Int) (h : zPlantRoute x ≤ n) (hn : n ≤ 1048576) :
    ACall PP 21 [.tmp (.agg [.tr (.sl κ () 1 (enc cS x.Places)), .tr (.sl κ () 1 (enc cS x.Valves))]), .tmp (.tr (.int .i64 n))] [] (.tmp (.tr (.int .i64 (n - zPlantRoute x)))) [] [] := by
  refine ACall_intro md21 (na := 2) (bx := []) (by kernel_rfl) Tryz.func21 rfl rfl rfl (by simp [noBoR, noBoV, noBoL, noBoT]) rfl (by simp [noBoRow, noBoT]) rfl rfl ?_
  simp only [zPlantRoute] at h ⊢
  simp [hκ]
  refine callK_of (szStringS_ok _ (by simp [hκ]) x.Places _ (by omega) (by omega)) ?_
  simp [hκ]
  refine condK_i (fun h1 => by omega) fun _ => ?_
  refine callK_of (szStringS_ok _ (by simp [hκ]) x.Valves _ (by omega) (by omega)) ?_
  simp [hκ]
  refine condK_i (fun h1 => by omega) fun _ => ?_
  omega
def md4 : Modes where
  call := callM
  br := fun _ => false
  plan := fun _ => .fin
@[simp] theorem md4_call (f i : Nat) : md4.call f i = callM f i := rfl
@[simp] theorem md4_br : md4.br = fun _ => false := rfl
def zPlant (x : GPlant) : Nat := szL List.length x.Stuffs + szL zPlantFoe x.Foes + szL zPlantPlace x.Places + szL zPlantValve x.Valves
theorem szPlant_ok (κ : Knd) (hκ : κ ≠ .own) (x : GPlant) (n : Int) (h : zPlant x ≤ n) (hn : n ≤ 1048576) :
    ACall PP 4 [.tmp (.agg [.tr (.sl κ () 1 (enc cS x.Stuffs)), .tr (.sl κ () 2 (enc cPlantFoe x.Foes)), .tr (.sl κ () 3 (enc cPlantPlace x.Places)), .tr (.sl κ () 4 (enc cPlantValve x.Valves))]), .tmp (.tr (.int .i64 n))] [] (.tmp (.tr (.int .i64 (n - zPlant x)))) [] [] := by
  refine ACall_intro md4 (na := 2) (bx := []) (by kernel_rfl) Tryz.func4 rfl rfl rfl (by simp [noBoR, noBoV, noBoL, noBoT]) rfl (by simp [noBoRow, noBoT]) rfl rfl ?_
  simp only [zPlant] at h ⊢
  simp [hκ]
  refine callK_of (szStringS_ok _ (by simp [hκ]) x.Stuffs _ (by omega) (by omega)) ?_
  simp [hκ]
  refine condK_i (fun h1 => by omega) fun _ => ?_
  refine callK_of (szPlantFoeS_ok _ (by simp [hκ]) x.Foes _ (by omega) (by omega)) ?_
  simp [hκ]
  refine condK_i (fun h1 => by omega) fun _ => ?_
  refine callK_of (szPlantPlaceS_ok _ (by simp [hκ]) x.Places _ (by omega) (by omega)) ?_
  simp [hκ]
  refine condK_i (fun h1 => by omega) fun _ => ?_
  refine callK_of (szPlantValveS_ok _ (by simp [hκ]) x.Valves _ (by omega) (by omega)) ?_
  simp [hκ]
  refine condK_i (fun h1 => by omega) fun _ => ?_
  omega
def md5 : Modes where
  call := callM
  br := fun _ => false
  plan := fun _ => .fin
@[simp] theorem md5_call (f i : Nat) : md5.call f i = callM f i := rfl
@[simp] theorem md5_br : md5.br = fun _ => false := rfl
def zCtlJob (x : GCtlJob) : Nat := zPlantRoute x.Route + szL List.length x.Places + szL List.length x.Stuffs + szL List.length x.Heard
theorem szCtlJob_ok (κ : Knd) (hκ : κ ≠ .own) (x : GCtlJob) (n : Int) (h : zCtlJob x ≤ n) (hn : n ≤ 1048576) :
    ACall PP 5 [.tmp (.agg [.tr (.int .i64 x.Number), .tr (.int .i64 x.Kind), .tr (.sl κ () 1 (enc cS x.Route.Places)), .tr (.sl κ () 1 (enc cS x.Route.Valves)), .tr (.sl κ () 1 (enc cS x.Places)), .tr (.sl κ () 1 (enc cS x.Stuffs)), .tr (.int .i64 x.Amount), .tr (.int .i64 x.State), .tr (.sl κ () 1 (enc cS x.Heard)), .tr (.int .i64 x.Moved), .tr (.bool x.Done)]), .tmp (.tr (.int .i64 n))] [] (.tmp (.tr (.int .i64 (n - zCtlJob x)))) [] [] := by
  refine ACall_intro md5 (na := 2) (bx := []) (by kernel_rfl) Tryz.func5 rfl rfl rfl (by simp [noBoR, noBoV, noBoL, noBoT]) rfl (by simp [noBoRow, noBoT]) rfl rfl ?_
  simp only [zCtlJob] at h ⊢
  simp [hκ]
  refine callK_of (szPlantRoute_ok _ (by simp [hκ]) x.Route _ (by omega) (by omega)) ?_
  simp [hκ]
  refine condK_i (fun h1 => by omega) fun _ => ?_
  refine callK_of (szStringS_ok _ (by simp [hκ]) x.Places _ (by omega) (by omega)) ?_
  simp [hκ]
  refine condK_i (fun h1 => by omega) fun _ => ?_
  refine callK_of (szStringS_ok _ (by simp [hκ]) x.Stuffs _ (by omega) (by omega)) ?_
  simp [hκ]
  refine condK_i (fun h1 => by omega) fun _ => ?_
  refine callK_of (szStringS_ok _ (by simp [hκ]) x.Heard _ (by omega) (by omega)) ?_
  simp [hκ]
  refine condK_i (fun h1 => by omega) fun _ => ?_
  omega
def md24 : Modes where
  call := callM
  br := fun _ => false
  plan := fun _ => .fin
@[simp] theorem md24_call (f i : Nat) : md24.call f i = callM f i := rfl
@[simp] theorem md24_br : md24.br = fun _ => false := rfl
theorem toStringS_ok (κ : Knd) (hκ : κ ≠ .own) (l : List Str) (hl : l.length ≤ 1048576) :
    ACall PP 24 [.tmp (.tr (.sl κ () 1 (enc cS l)))] [] (.tmp (.tr (.sl .own () 1 (enc cS l)))) [] [] := by
  refine ACall_intro md24 (na := 1) (bx := []) (by kernel_rfl) Tryz.func24 rfl rfl rfl (by simp [noBoR, noBoV, noBoL, noBoT]) rfl (by simp [noBoRow, noBoT]) rfl rfl ?_
  simp [hκ]
  refine andK_i (by omega) fun _ => ?_
  refine vc_loop2 [0, 3, 4] (fun m S => ∃ (i : Nat), m = l.length - i ∧ i ≤ l.length ∧
    S = [(0, .tmp (.tr (.sl κ () 1 (enc cS l)))), (3, .tmp (.tr (.sl .own () 1 (enc cS (fillL [] l i))))), (4, .tmp (.tr (.int .i64 i)))]) l.length ?_ ?_
  · exact ⟨0, by simp, by simp, by simp⟩
  · rintro J hJ m S ⟨i, rfl, hi, rfl⟩
    by_cases hlt : i < l.length
    · have h1 : i < (fillL [] l i).length := by simp [hi, hlt]
      simp [hκ, hlt, hi]
      refine andK_i (by omega) fun _ => ?_
      exact again_i hJ (m := l.length - (i + 1)) (by omega) ⟨i + 1, rfl, by omega, by simp [fillL_set, hlt]⟩
    · obtain rfl : i = l.length := by omega
      simp [hκ]
def md57 : Modes where
  call := callM
  br := fun _ => false
  plan := fun _ => .fin
@[simp] theorem md57_call (f i : Nat) : md57.call f i = callM f i := rfl
@[simp] theorem md57_br : md57.br = fun _ => false := rfl
theorem toPlantFoe_ok (x : GPlantFoe) :
    ACall PP 57 [.tmp (.agg [.tr (.str x.A), .tr (.str x.B)])] [] (.tmp (.agg [.tr (.str x.A), .tr (.str x.B)])) [] [] := by
  refine ACall_intro md57 (na := 1) (bx := []) (by kernel_rfl) Tryz.func57 rfl rfl rfl (by simp [noBoR, noBoV, noBoL, noBoT]) rfl (by simp [noBoRow, noBoT]) rfl rfl ?_
  simp 
def md58 : Modes where
  call := callM
  br := fun _ => false
  plan := fun _ => .fin
@[simp] theorem md58_call (f i : Nat) : md58.call f i = callM f i := rfl
@[simp] theorem md58_br : md58.br = fun _ => false := rfl
theorem toPlantPlace_ok (x : GPlantPlace) :
    ACall PP 58 [.tmp (.agg [.tr (.str x.Name), .tr (.int .i64 x.Cap), .tr (.str x.Station)])] [] (.tmp (.agg [.tr (.str x.Name), .tr (.int .i64 x.Cap), .tr (.str x.Station)])) [] [] := by
  refine ACall_intro md58 (na := 1) (bx := []) (by kernel_rfl) Tryz.func58 rfl rfl rfl (by simp [noBoR, noBoV, noBoL, noBoT]) rfl (by simp [noBoRow, noBoT]) rfl rfl ?_
  simp 
def md59 : Modes where
  call := callM
  br := fun _ => false
  plan := fun _ => .fin
@[simp] theorem md59_call (f i : Nat) : md59.call f i = callM f i := rfl
@[simp] theorem md59_br : md59.br = fun _ => false := rfl
theorem toPlantValve_ok (x : GPlantValve) :
    ACall PP 59 [.tmp (.agg [.tr (.str x.Name), .tr (.str x.A), .tr (.str x.B), .tr (.str x.Station)])] [] (.tmp (.agg [.tr (.str x.Name), .tr (.str x.A), .tr (.str x.B), .tr (.str x.Station)])) [] [] := by
  refine ACall_intro md59 (na := 1) (bx := []) (by kernel_rfl) Tryz.func59 rfl rfl rfl (by simp [noBoR, noBoV, noBoL, noBoT]) rfl (by simp [noBoRow, noBoT]) rfl rfl ?_
  simp 
def md25 : Modes where
  call := callM
  br := fun _ => false
  plan := fun _ => .fin
@[simp] theorem md25_call (f i : Nat) : md25.call f i = callM f i := rfl
@[simp] theorem md25_br : md25.br = fun _ => false := rfl
theorem toPlantFoeS_ok (κ : Knd) (hκ : κ ≠ .own) (l : List GPlantFoe) (hl : l.length ≤ 1048576) :
    ACall PP 25 [.tmp (.tr (.sl κ () 2 (enc cPlantFoe l)))] [] (.tmp (.tr (.sl .own () 2 (enc cPlantFoe l)))) [] [] := by
  refine ACall_intro md25 (na := 1) (bx := []) (by kernel_rfl) Tryz.func25 rfl rfl rfl (by simp [noBoR, noBoV, noBoL, noBoT]) rfl (by simp [noBoRow, noBoT]) rfl rfl ?_
  simp [hκ]
  refine andK_i (by omega) fun _ => ?_
  refine vc_loop2 [0, 3, 4] (fun m S => ∃ (i : Nat), m = l.length - i ∧ i ≤ l.length ∧
    S = [(0, .tmp (.tr (.sl κ () 2 (enc cPlantFoe l)))), (3, .tmp (.tr (.sl .own () 2 (enc cPlantFoe (fillL ⟨[], []⟩ l i))))), (4, .tmp (.tr (.int .i64 i)))]) l.length ?_ ?_
  · exact ⟨0, by simp, by simp, by simp⟩
  · rintro J hJ m S ⟨i, rfl, hi, rfl⟩
    by_cases hlt : i < l.length
    · have h1 : i < (fillL ⟨[], []⟩ l i).length := by simp [hi, hlt]
      simp [hκ, hlt, hi]
      refine callK_of (toPlantFoe_ok l[i]) ?_
      simp [hκ, hlt, hi]
      refine andK_i (by omega) fun _ => ?_
      exact again_i hJ (m := l.length - (i + 1)) (by omega) ⟨i + 1, rfl, by omega, by simp [fillL_set, hlt]⟩
    · obtain rfl : i = l.length := by omega
      simp [hκ]
def md26 : Modes where
  call := callM
  br := fun _ => false
  plan := fun _ => .fin
@[simp] theorem md26_call (f i : Nat) : md26.call f i = callM f i := rfl
@[simp] theorem md26_br : md26.br = fun _ => false := rfl
theorem toPlantPlaceS_ok (κ : Knd) (hκ : κ ≠ .own) (l : List GPlantPlace) (hl : l.length ≤ 1048576) :
    ACall PP 26 [.tmp (.tr (.sl κ () 3 (enc cPlantPlace l)))] [] (.tmp (.tr (.sl .own () 3 (enc cPlantPlace l)))) [] [] := by
  refine ACall_intro md26 (na := 1) (bx := []) (by kernel_rfl) Tryz.func26 rfl rfl rfl (by simp [noBoR, noBoV, noBoL, noBoT]) rfl (by simp [noBoRow, noBoT]) rfl rfl ?_
  simp [hκ]
  refine andK_i (by omega) fun _ => ?_
  refine vc_loop2 [0, 3, 4] (fun m S => ∃ (i : Nat), m = l.length - i ∧ i ≤ l.length ∧
    S = [(0, .tmp (.tr (.sl κ () 3 (enc cPlantPlace l)))), (3, .tmp (.tr (.sl .own () 3 (enc cPlantPlace (fillL ⟨[], 0, []⟩ l i))))), (4, .tmp (.tr (.int .i64 i)))]) l.length ?_ ?_
  · exact ⟨0, by simp, by simp, by simp⟩
  · rintro J hJ m S ⟨i, rfl, hi, rfl⟩
    by_cases hlt : i < l.length
    · have h1 : i < (fillL ⟨[], 0, []⟩ l i).length := by simp [hi, hlt]
      simp [hκ, hlt, hi]
      refine callK_of (toPlantPlace_ok l[i]) ?_
      simp [hκ, hlt, hi]
      refine andK_i (by omega) fun _ => ?_
      exact again_i hJ (m := l.length - (i + 1)) (by omega) ⟨i + 1, rfl, by omega, by simp [fillL_set, hlt]⟩
    · obtain rfl : i = l.length := by omega
      simp [hκ]
def md27 : Modes where
  call := callM
  br := fun _ => false
  plan := fun _ => .fin
@[simp] theorem md27_call (f i : Nat) : md27.call f i = callM f i := rfl
@[simp] theorem md27_br : md27.br = fun _ => false := rfl
theorem toPlantValveS_ok (κ : Knd) (hκ : κ ≠ .own) (l : List GPlantValve) (hl : l.length ≤ 1048576) :
    ACall PP 27 [.tmp (.tr (.sl κ () 4 (enc cPlantValve l)))] [] (.tmp (.tr (.sl .own () 4 (enc cPlantValve l)))) [] [] := by
  refine ACall_intro md27 (na := 1) (bx := []) (by kernel_rfl) Tryz.func27 rfl rfl rfl (by simp [noBoR, noBoV, noBoL, noBoT]) rfl (by simp [noBoRow, noBoT]) rfl rfl ?_
  simp [hκ]
  refine andK_i (by omega) fun _ => ?_
  refine vc_loop2 [0, 3, 4] (fun m S => ∃ (i : Nat), m = l.length - i ∧ i ≤ l.length ∧
    S = [(0, .tmp (.tr (.sl κ () 4 (enc cPlantValve l)))), (3, .tmp (.tr (.sl .own () 4 (enc cPlantValve (fillL ⟨[], [], [], []⟩ l i))))), (4, .tmp (.tr (.int .i64 i)))]) l.length ?_ ?_
  · exact ⟨0, by simp, by simp, by simp⟩
  · rintro J hJ m S ⟨i, rfl, hi, rfl⟩
    by_cases hlt : i < l.length
    · have h1 : i < (fillL ⟨[], [], [], []⟩ l i).length := by simp [hi, hlt]
      simp [hκ, hlt, hi]
      refine callK_of (toPlantValve_ok l[i]) ?_
      simp [hκ, hlt, hi]
      refine andK_i (by omega) fun _ => ?_
      exact again_i hJ (m := l.length - (i + 1)) (by omega) ⟨i + 1, rfl, by omega, by simp [fillL_set, hlt]⟩
    · obtain rfl : i = l.length := by omega
      simp [hκ]
def md28 : Modes where
  call := callM
  br := fun _ => false
  plan := fun _ => .fin
@[simp] theorem md28_call (f i : Nat) : md28.call f i = callM f i := rfl
@[simp] theorem md28_br : md28.br = fun _ => false := rfl
theorem toPlantRoute_ok (κ : Knd) (hκ : κ ≠ .own) (x : GPlantRoute) (h : zPlantRoute x ≤ 1048576) :
    ACall PP 28 [.tmp (.agg [.tr (.sl κ () 1 (enc cS x.Places)), .tr (.sl κ () 1 (enc cS x.Valves))])] [] (.tmp (.agg [.tr (.sl .own () 1 (enc cS x.Places)), .tr (.sl .own () 1 (enc cS x.Valves))])) [] [] := by
  refine ACall_intro md28 (na := 1) (bx := []) (by kernel_rfl) Tryz.func28 rfl rfl rfl (by simp [noBoR, noBoV, noBoL, noBoT]) rfl (by simp [noBoRow, noBoT]) rfl rfl ?_
  simp only [zPlantRoute] at h
  simp [hκ]
  refine callK_of (toStringS_ok _ (by simp [hκ]) x.Places (by have := szL_len List.length x.Places; omega)) ?_
  simp [hκ]
  refine callK_of (toStringS_ok _ (by simp [hκ]) x.Valves (by have := szL_len List.length x.Valves; omega)) ?_
  simp [hκ]
def md7 : Modes where
  call := callM
  br := fun _ => false
  plan := fun _ => .fin
@[simp] theorem md7_call (f i : Nat) : md7.call f i = callM f i := rfl
@[simp] theorem md7_br : md7.br = fun _ => false := rfl
theorem toPlant_ok (κ : Knd) (hκ : κ ≠ .own) (x : GPlant) (h : zPlant x ≤ 1048576) :
    ACall PP 7 [.tmp (.agg [.tr (.sl κ () 1 (enc cS x.Stuffs)), .tr (.sl κ () 2 (enc cPlantFoe x.Foes)), .tr (.sl κ () 3 (enc cPlantPlace x.Places)), .tr (.sl κ () 4 (enc cPlantValve x.Valves))])] [] (.tmp (.agg [.tr (.sl .own () 1 (enc cS x.Stuffs)), .tr (.sl .own () 2 (enc cPlantFoe x.Foes)), .tr (.sl .own () 3 (enc cPlantPlace x.Places)), .tr (.sl .own () 4 (enc cPlantValve x.Valves))])) [] [] := by
  refine ACall_intro md7 (na := 1) (bx := []) (by kernel_rfl) Tryz.func7 rfl rfl rfl (by simp [noBoR, noBoV, noBoL, noBoT]) rfl (by simp [noBoRow, noBoT]) rfl rfl ?_
  simp only [zPlant] at h
  simp [hκ]
  refine callK_of (toStringS_ok _ (by simp [hκ]) x.Stuffs (by have := szL_len List.length x.Stuffs; omega)) ?_
  simp [hκ]
  refine callK_of (toPlantFoeS_ok _ (by simp [hκ]) x.Foes (by have := szL_len zPlantFoe x.Foes; omega)) ?_
  simp [hκ]
  refine callK_of (toPlantPlaceS_ok _ (by simp [hκ]) x.Places (by have := szL_len zPlantPlace x.Places; omega)) ?_
  simp [hκ]
  refine callK_of (toPlantValveS_ok _ (by simp [hκ]) x.Valves (by have := szL_len zPlantValve x.Valves; omega)) ?_
  simp [hκ]
def md8 : Modes where
  call := callM
  br := fun _ => false
  plan := fun _ => .fin
@[simp] theorem md8_call (f i : Nat) : md8.call f i = callM f i := rfl
@[simp] theorem md8_br : md8.br = fun _ => false := rfl
theorem toCtlJob_ok (κ : Knd) (hκ : κ ≠ .own) (x : GCtlJob) (h : zCtlJob x ≤ 1048576) :
    ACall PP 8 [.tmp (.agg [.tr (.int .i64 x.Number), .tr (.int .i64 x.Kind), .tr (.sl κ () 1 (enc cS x.Route.Places)), .tr (.sl κ () 1 (enc cS x.Route.Valves)), .tr (.sl κ () 1 (enc cS x.Places)), .tr (.sl κ () 1 (enc cS x.Stuffs)), .tr (.int .i64 x.Amount), .tr (.int .i64 x.State), .tr (.sl κ () 1 (enc cS x.Heard)), .tr (.int .i64 x.Moved), .tr (.bool x.Done)])] [] (.tmp (.agg [.tr (.int .i64 x.Number), .tr (.int .i64 x.Kind), .tr (.sl .own () 1 (enc cS x.Route.Places)), .tr (.sl .own () 1 (enc cS x.Route.Valves)), .tr (.sl .own () 1 (enc cS x.Places)), .tr (.sl .own () 1 (enc cS x.Stuffs)), .tr (.int .i64 x.Amount), .tr (.int .i64 x.State), .tr (.sl .own () 1 (enc cS x.Heard)), .tr (.int .i64 x.Moved), .tr (.bool x.Done)])) [] [] := by
  refine ACall_intro md8 (na := 1) (bx := []) (by kernel_rfl) Tryz.func8 rfl rfl rfl (by simp [noBoR, noBoV, noBoL, noBoT]) rfl (by simp [noBoRow, noBoT]) rfl rfl ?_
  simp only [zCtlJob] at h
  simp [hκ]
  refine callK_of (toPlantRoute_ok _ (by simp [hκ]) x.Route (by omega)) ?_
  simp [hκ]
  refine callK_of (toStringS_ok _ (by simp [hκ]) x.Places (by have := szL_len List.length x.Places; omega)) ?_
  simp [hκ]
  refine callK_of (toStringS_ok _ (by simp [hκ]) x.Stuffs (by have := szL_len List.length x.Stuffs; omega)) ?_
  simp [hκ]
  refine callK_of (toStringS_ok _ (by simp [hκ]) x.Heard (by have := szL_len List.length x.Heard; omega)) ?_
  simp [hκ]
def md32 : Modes where
  call := callM
  br := fun _ => false
  plan := fun i => match i with
    | 6 => .take 0 (.take 1 (.take 2 (.take 3 (.take 4 (.take 5 (.take 6 (.take 7 (.take 8 (.fin)))))))))
    | _ => .fin
@[simp] theorem md32_call (f i : Nat) : md32.call f i = callM f i := rfl
@[simp] theorem md32_br : md32.br = fun _ => false := rfl
@[simp] theorem md32_p6 : md32.plan 6 = .take 0 (.take 1 (.take 2 (.take 3 (.take 4 (.take 5 (.take 6 (.take 7 (.take 8 (.fin))))))))) := rfl
theorem eqStringS_ok (κ κ' : Knd) (hκ : κ ≠ .own) (hκ' : κ' ≠ .own) (a b : List Str) (ha : a.length ≤ 1152921504606846976) :
    ACall PP 32 [.tmp (.tr (.sl κ () 1 (enc cS a))), .tmp (.tr (.sl κ' () 1 (enc cS b)))] [] (.tmp (.tr (.bool (decide (a = b))))) [] [] := by
  refine ACall_intro md32 (na := 2) (bx := []) (by kernel_rfl) Tryz.func32 rfl rfl rfl (by simp [noBoR, noBoV, noBoL, noBoT]) rfl (by simp [noBoRow, noBoT]) rfl rfl ?_
  simp [hκ, hκ']
  by_cases hab : a.length = b.length
  · simp [hab]
    refine vc_loop2 [0, 1, 5] (fun m S => ∃ (i : Nat), m = a.length - i ∧ i ≤ a.length ∧ (a = b ↔ a.drop i = b.drop i) ∧
      S = [(0, .tmp (.tr (.sl κ () 1 (enc cS a)))), (1, .tmp (.tr (.sl κ' () 1 (enc cS b)))), (5, .tmp (.tr (.int .i64 i)))]) a.length ?_ ?_
    · exact ⟨0, by simp, by simp, by simp, by simp⟩
    · rintro J hJ m S ⟨i, rfl, hi, hd, rfl⟩
      by_cases hlt : i < a.length
      · have hlt' : i < b.length := by omega
        have hda : a.drop i = a[i] :: a.drop (i + 1) := by simp
        have hdb : b.drop i = b[i] :: b.drop (i + 1) := by simp
        rw [hda, hdb, List.cons.injEq] at hd
        simp [hκ, hκ', hlt, hlt']
        by_cases he : a[i] = b[i]
        · simp [he] at hd ⊢
          refine andK_i (by omega) fun _ => ?_
          exact again_i hJ (m := a.length - (i + 1)) (by omega) ⟨i + 1, rfl, by omega, hd, by simp⟩
        · simp [he] at hd ⊢
          exact hd
      · obtain rfl : i = a.length := by omega
        simp [hab] at hd
        simp [hκ, hκ', hab, hd]
  · simp [hab]
    rintro rfl; exact hab rfl
def md69 : Modes where
  call := callM
  br := fun _ => false
  plan := fun _ => .fin
@[simp] theorem md69_call (f i : Nat) : md69.call f i = callM f i := rfl
@[simp] theorem md69_br : md69.br = fun _ => false := rfl
theorem eqPlantFoe_ok (a b : GPlantFoe) :
    ACall PP 69 [.tmp (.agg [.tr (.str a.A), .tr (.str a.B)]), .tmp (.agg [.tr (.str b.A), .tr (.str b.B)])] [] (.tmp (.tr (.bool (decide (a = b))))) [] [] := by
  refine ACall_intro md69 (na := 2) (bx := []) (by kernel_rfl) Tryz.func69 rfl rfl rfl (by simp [noBoR, noBoV, noBoL, noBoT]) rfl (by simp [noBoRow, noBoT]) rfl rfl ?_
  cases a; cases b
  simp []
  (repeat' (first | refine andK_i (by first | omega | simp_all) (fun _ => ?_) | refine condK_i (fun _ => ?_) (fun _ => ?_)))
  all_goals simp_all
def md70 : Modes where
  call := callM
  br := fun _ => false
  plan := fun _ => .fin
@[simp] theorem md70_call (f i : Nat) : md70.call f i = callM f i := rfl
@[simp] theorem md70_br : md70.br = fun _ => false := rfl
theorem eqPlantPlace_ok (a b : GPlantPlace) :
    ACall PP 70 [.tmp (.agg [.tr (.str a.Name), .tr (.int .i64 a.Cap), .tr (.str a.Station)]), .tmp (.agg [.tr (.str b.Name), .tr (.int .i64 b.Cap), .tr (.str b.Station)])] [] (.tmp (.tr (.bool (decide (a = b))))) [] [] := by
  refine ACall_intro md70 (na := 2) (bx := []) (by kernel_rfl) Tryz.func70 rfl rfl rfl (by simp [noBoR, noBoV, noBoL, noBoT]) rfl (by simp [noBoRow, noBoT]) rfl rfl ?_
  cases a; cases b
  simp []
  (repeat' (first | refine andK_i (by first | omega | simp_all) (fun _ => ?_) | refine condK_i (fun _ => ?_) (fun _ => ?_)))
  all_goals simp_all
def md71 : Modes where
  call := callM
  br := fun _ => false
  plan := fun _ => .fin
@[simp] theorem md71_call (f i : Nat) : md71.call f i = callM f i := rfl
@[simp] theorem md71_br : md71.br = fun _ => false := rfl
theorem eqPlantValve_ok (a b : GPlantValve) :
    ACall PP 71 [.tmp (.agg [.tr (.str a.Name), .tr (.str a.A), .tr (.str a.B), .tr (.str a.Station)]), .tmp (.agg [.tr (.str b.Name), .tr (.str b.A), .tr (.str b.B), .tr (.str b.Station)])] [] (.tmp (.tr (.bool (decide (a = b))))) [] [] := by
  refine ACall_intro md71 (na := 2) (bx := []) (by kernel_rfl) Tryz.func71 rfl rfl rfl (by simp [noBoR, noBoV, noBoL, noBoT]) rfl (by simp [noBoRow, noBoT]) rfl rfl ?_
  cases a; cases b
  simp []
  (repeat' (first | refine andK_i (by first | omega | simp_all) (fun _ => ?_) | refine condK_i (fun _ => ?_) (fun _ => ?_)))
  all_goals simp_all
def md109 : Modes where
  call := callM
  br := fun _ => false
  plan := fun _ => .fin
@[simp] theorem md109_call (f i : Nat) : md109.call f i = callM f i := rfl
@[simp] theorem md109_br : md109.br = fun _ => false := rfl
theorem eqClaimUse_ok (a b : GClaimUse) :
    ACall PP 109 [.tmp (.agg [.tr (.str a.Name), .tr (.int .i64 a.Role), .tr (.int .i64 a.Amount)]), .tmp (.agg [.tr (.str b.Name), .tr (.int .i64 b.Role), .tr (.int .i64 b.Amount)])] [] (.tmp (.tr (.bool (decide (a = b))))) [] [] := by
  refine ACall_intro md109 (na := 2) (bx := []) (by kernel_rfl) Tryz.func109 rfl rfl rfl (by simp [noBoR, noBoV, noBoL, noBoT]) rfl (by simp [noBoRow, noBoT]) rfl rfl ?_
  cases a; cases b
  simp []
  (repeat' (first | refine andK_i (by first | omega | simp_all) (fun _ => ?_) | refine condK_i (fun _ => ?_) (fun _ => ?_)))
  all_goals simp_all
def md33 : Modes where
  call := callM
  br := fun _ => false
  plan := fun i => match i with
    | 6 => .take 0 (.take 1 (.take 2 (.take 3 (.take 4 (.take 5 (.take 6 (.take 7 (.any 8 (.take 9 (.fin)) (.non)))))))))
    | _ => .fin
@[simp] theorem md33_call (f i : Nat) : md33.call f i = callM f i := rfl
@[simp] theorem md33_br : md33.br = fun _ => false := rfl
@[simp] theorem md33_p6 : md33.plan 6 = .take 0 (.take 1 (.take 2 (.take 3 (.take 4 (.take 5 (.take 6 (.take 7 (.any 8 (.take 9 (.fin)) (.non))))))))) := rfl
theorem eqPlantFoeS_ok (κ κ' : Knd) (hκ : κ ≠ .own) (hκ' : κ' ≠ .own) (a b : List GPlantFoe) (ha : a.length ≤ 1152921504606846976) :
    ACall PP 33 [.tmp (.tr (.sl κ () 2 (enc cPlantFoe a))), .tmp (.tr (.sl κ' () 2 (enc cPlantFoe b)))] [] (.tmp (.tr (.bool (decide (a = b))))) [] [] := by
  refine ACall_intro md33 (na := 2) (bx := []) (by kernel_rfl) Tryz.func33 rfl rfl rfl (by simp [noBoR, noBoV, noBoL, noBoT]) rfl (by simp [noBoRow, noBoT]) rfl rfl ?_
  simp [hκ, hκ']
  by_cases hab : a.length = b.length
  · simp [hab]
    refine vc_loop2 [0, 1, 5] (fun m S => ∃ (i : Nat), m = a.length - i ∧ i ≤ a.length ∧ (a = b ↔ a.drop i = b.drop i) ∧
      S = [(0, .tmp (.tr (.sl κ () 2 (enc cPlantFoe a)))), (1, .tmp (.tr (.sl κ' () 2 (enc cPlantFoe b)))), (5, .tmp (.tr (.int .i64 i)))]) a.length ?_ ?_
    · exact ⟨0, by simp, by simp, by simp, by simp⟩
    · rintro J hJ m S ⟨i, rfl, hi, hd, rfl⟩
      by_cases hlt : i < a.length
      · have hlt' : i < b.length := by omega
        have hda : a.drop i = a[i] :: a.drop (i + 1) := by simp
        have hdb : b.drop i = b[i] :: b.drop (i + 1) := by simp
        rw [hda, hdb, List.cons.injEq] at hd
        simp [hκ, hκ', hlt, hlt']
        refine callK_of (eqPlantFoe_ok (a[i]) (b[i])) ?_
        simp [hκ, hκ']
        by_cases he : a[i] = b[i]
        · simp [he] at hd ⊢
          refine andK_i (by omega) fun _ => ?_
          exact again_i hJ (m := a.length - (i + 1)) (by omega) ⟨i + 1, rfl, by omega, hd, by simp⟩
        · simp [he] at hd ⊢
          exact hd
      · obtain rfl : i = a.length := by omega
        simp [hab] at hd
        simp [hκ, hκ', hab, hd]
  · simp [hab]
    rintro rfl; exact hab rfl
def md34 : Modes where
  call := callM
  br := fun _ => false
  plan := fun i => match i with
    | 6 => .take 0 (.take 1 (.take 2 (.take 3 (.take 4 (.take 5 (.take 6 (.take 7 (.any 8 (.take 9 (.fin)) (.non)))))))))
    | _ => .fin
@[simp] theorem md34_call (f i : Nat) : md34.call f i = callM f i := rfl
@[simp] theorem md34_br : md34.br = fun _ => false := rfl
@[simp] theorem md34_p6 : md34.plan 6 = .take 0 (.take 1 (.take 2 (.take 3 (.take 4 (.take 5 (.take 6 (.take 7 (.any 8 (.take 9 (.fin)) (.non))))))))) := rfl
theorem eqPlantPlaceS_ok (κ κ' : Knd) (hκ : κ ≠ .own) (hκ' : κ' ≠ .own) (a b : List GPlantPlace) (ha : a.length ≤ 1152921504606846976) :
    ACall PP 34 [.tmp (.tr (.sl κ () 3 (enc cPlantPlace a))), .tmp (.tr (.sl κ' () 3 (enc cPlantPlace b)))] [] (.tmp (.tr (.bool (decide (a = b))))) [] [] := by
  refine ACall_intro md34 (na := 2) (bx := []) (by kernel_rfl) Tryz.func34 rfl rfl rfl (by simp [noBoR, noBoV, noBoL, noBoT]) rfl (by simp [noBoRow, noBoT]) rfl rfl ?_
  simp [hκ, hκ']
  by_cases hab : a.length = b.length
  · simp [hab]
    refine vc_loop2 [0, 1, 5] (fun m S => ∃ (i : Nat), m = a.length - i ∧ i ≤ a.length ∧ (a = b ↔ a.drop i = b.drop i) ∧
      S = [(0, .tmp (.tr (.sl κ () 3 (enc cPlantPlace a)))), (1, .tmp (.tr (.sl κ' () 3 (enc cPlantPlace b)))), (5, .tmp (.tr (.int .i64 i)))]) a.length ?_ ?_
    · exact ⟨0, by simp, by simp, by simp, by simp⟩
    · rintro J hJ m S ⟨i, rfl, hi, hd, rfl⟩
      by_cases hlt : i < a.length
      · have hlt' : i < b.length := by omega
        have hda : a.drop i = a[i] :: a.drop (i + 1) := by simp
        have hdb : b.drop i = b[i] :: b.drop (i + 1) := by simp
        rw [hda, hdb, List.cons.injEq] at hd
        simp [hκ, hκ', hlt, hlt']
        refine callK_of (eqPlantPlace_ok (a[i]) (b[i])) ?_
        simp [hκ, hκ']
        by_cases he : a[i] = b[i]
        · simp [he] at hd ⊢
          refine andK_i (by omega) fun _ => ?_
          exact again_i hJ (m := a.length - (i + 1)) (by omega) ⟨i + 1, rfl, by omega, hd, by simp⟩
        · simp [he] at hd ⊢
          exact hd
      · obtain rfl : i = a.length := by omega
        simp [hab] at hd
        simp [hκ, hκ', hab, hd]
  · simp [hab]
    rintro rfl; exact hab rfl
def md35 : Modes where
  call := callM
  br := fun _ => false
  plan := fun i => match i with
    | 6 => .take 0 (.take 1 (.take 2 (.take 3 (.take 4 (.take 5 (.take 6 (.take 7 (.any 8 (.take 9 (.fin)) (.non)))))))))
    | _ => .fin
@[simp] theorem md35_call (f i : Nat) : md35.call f i = callM f i := rfl
@[simp] theorem md35_br : md35.br = fun _ => false := rfl
@[simp] theorem md35_p6 : md35.plan 6 = .take 0 (.take 1 (.take 2 (.take 3 (.take 4 (.take 5 (.take 6 (.take 7 (.any 8 (.take 9 (.fin)) (.non))))))))) := rfl
theorem eqPlantValveS_ok (κ κ' : Knd) (hκ : κ ≠ .own) (hκ' : κ' ≠ .own) (a b : List GPlantValve) (ha : a.length ≤ 1152921504606846976) :
    ACall PP 35 [.tmp (.tr (.sl κ () 4 (enc cPlantValve a))), .tmp (.tr (.sl κ' () 4 (enc cPlantValve b)))] [] (.tmp (.tr (.bool (decide (a = b))))) [] [] := by
  refine ACall_intro md35 (na := 2) (bx := []) (by kernel_rfl) Tryz.func35 rfl rfl rfl (by simp [noBoR, noBoV, noBoL, noBoT]) rfl (by simp [noBoRow, noBoT]) rfl rfl ?_
  simp [hκ, hκ']
  by_cases hab : a.length = b.length
  · simp [hab]
    refine vc_loop2 [0, 1, 5] (fun m S => ∃ (i : Nat), m = a.length - i ∧ i ≤ a.length ∧ (a = b ↔ a.drop i = b.drop i) ∧
      S = [(0, .tmp (.tr (.sl κ () 4 (enc cPlantValve a)))), (1, .tmp (.tr (.sl κ' () 4 (enc cPlantValve b)))), (5, .tmp (.tr (.int .i64 i)))]) a.length ?_ ?_
    · exact ⟨0, by simp, by simp, by simp, by simp⟩
    · rintro J hJ m S ⟨i, rfl, hi, hd, rfl⟩
      by_cases hlt : i < a.length
      · have hlt' : i < b.length := by omega
        have hda : a.drop i = a[i] :: a.drop (i + 1) := by simp
        have hdb : b.drop i = b[i] :: b.drop (i + 1) := by simp
        rw [hda, hdb, List.cons.injEq] at hd
        simp [hκ, hκ', hlt, hlt']
        refine callK_of (eqPlantValve_ok (a[i]) (b[i])) ?_
        simp [hκ, hκ']
        by_cases he : a[i] = b[i]
        · simp [he] at hd ⊢
          refine andK_i (by omega) fun _ => ?_
          exact again_i hJ (m := a.length - (i + 1)) (by omega) ⟨i + 1, rfl, by omega, hd, by simp⟩
        · simp [he] at hd ⊢
          exact hd
      · obtain rfl : i = a.length := by omega
        simp [hab] at hd
        simp [hκ, hκ', hab, hd]
  · simp [hab]
    rintro rfl; exact hab rfl
def md36 : Modes where
  call := callM
  br := fun _ => false
  plan := fun _ => .fin
@[simp] theorem md36_call (f i : Nat) : md36.call f i = callM f i := rfl
@[simp] theorem md36_br : md36.br = fun _ => false := rfl
def qPlantRoute (x : GPlantRoute) : Prop := x.Places.length ≤ 1152921504606846976 ∧ x.Valves.length ≤ 1152921504606846976
theorem eqPlantRoute_ok (κ κ' : Knd) (hκ : κ ≠ .own) (hκ' : κ' ≠ .own) (a b : GPlantRoute) (h : qPlantRoute a) :
    ACall PP 36 [.tmp (.agg [.tr (.sl κ () 1 (enc cS a.Places)), .tr (.sl κ () 1 (enc cS a.Valves))]), .tmp (.agg [.tr (.sl κ' () 1 (enc cS b.Places)), .tr (.sl κ' () 1 (enc cS b.Valves))])] [] (.tmp (.tr (.bool (decide (a = b))))) [] [] := by
  refine ACall_intro md36 (na := 2) (bx := []) (by kernel_rfl) Tryz.func36 rfl rfl rfl (by simp [noBoR, noBoV, noBoL, noBoT]) rfl (by simp [noBoRow, noBoT]) rfl rfl ?_
  cases a; cases b
  simp only [qPlantRoute] at h
  simp [hκ, hκ']
  (repeat' (first | refine andK_i (by first | omega | simp_all) (fun _ => ?_) | refine condK_i (fun _ => ?_) (fun _ => ?_)))
  all_goals try (solve | simp_all)
  refine callK_of (eqStringS_ok _ _ (by simp [hκ]) (by simp [hκ']) _ _ (by simp_all)) ?_
  simp [hκ, hκ']
  (repeat' (first | refine andK_i (by first | omega | simp_all) (fun _ => ?_) | refine condK_i (fun _ => ?_) (fun _ => ?_)))
  all_goals try (solve | simp_all)
  refine callK_of (eqStringS_ok _ _ (by simp [hκ]) (by simp [hκ']) _ _ (by simp_all)) ?_
  simp [hκ, hκ']
  (repeat' (first | refine andK_i (by first | omega | simp_all) (fun _ => ?_) | refine condK_i (fun _ => ?_) (fun _ => ?_)))
  all_goals simp_all
def md91 : Modes where
  call := callM
  br := fun _ => false
  plan := fun i => match i with
    | 6 => .take 0 (.take 1 (.take 2 (.take 3 (.take 4 (.take 5 (.take 6 (.take 7 (.any 8 (.take 9 (.fin)) (.non)))))))))
    | _ => .fin
@[simp] theorem md91_call (f i : Nat) : md91.call f i = callM f i := rfl
@[simp] theorem md91_br : md91.br = fun _ => false := rfl
@[simp] theorem md91_p6 : md91.plan 6 = .take 0 (.take 1 (.take 2 (.take 3 (.take 4 (.take 5 (.take 6 (.take 7 (.any 8 (.take 9 (.fin)) (.non))))))))) := rfl
theorem eqClaimUseS_ok (κ κ' : Knd) (hκ : κ ≠ .own) (hκ' : κ' ≠ .own) (a b : List GClaimUse) (ha : a.length ≤ 1152921504606846976) :
    ACall PP 91 [.tmp (.tr (.sl κ () 3 (enc cClaimUse a))), .tmp (.tr (.sl κ' () 3 (enc cClaimUse b)))] [] (.tmp (.tr (.bool (decide (a = b))))) [] [] := by
  refine ACall_intro md91 (na := 2) (bx := []) (by kernel_rfl) Tryz.func91 rfl rfl rfl (by simp [noBoR, noBoV, noBoL, noBoT]) rfl (by simp [noBoRow, noBoT]) rfl rfl ?_
  simp [hκ, hκ']
  by_cases hab : a.length = b.length
  · simp [hab]
    refine vc_loop2 [0, 1, 5] (fun m S => ∃ (i : Nat), m = a.length - i ∧ i ≤ a.length ∧ (a = b ↔ a.drop i = b.drop i) ∧
      S = [(0, .tmp (.tr (.sl κ () 3 (enc cClaimUse a)))), (1, .tmp (.tr (.sl κ' () 3 (enc cClaimUse b)))), (5, .tmp (.tr (.int .i64 i)))]) a.length ?_ ?_
    · exact ⟨0, by simp, by simp, by simp, by simp⟩
    · rintro J hJ m S ⟨i, rfl, hi, hd, rfl⟩
      by_cases hlt : i < a.length
      · have hlt' : i < b.length := by omega
        have hda : a.drop i = a[i] :: a.drop (i + 1) := by simp
        have hdb : b.drop i = b[i] :: b.drop (i + 1) := by simp
        rw [hda, hdb, List.cons.injEq] at hd
        simp [hκ, hκ', hlt, hlt']
        refine callK_of (eqClaimUse_ok (a[i]) (b[i])) ?_
        simp [hκ, hκ']
        by_cases he : a[i] = b[i]
        · simp [he] at hd ⊢
          refine andK_i (by omega) fun _ => ?_
          exact again_i hJ (m := a.length - (i + 1)) (by omega) ⟨i + 1, rfl, by omega, hd, by simp⟩
        · simp [he] at hd ⊢
          exact hd
      · obtain rfl : i = a.length := by omega
        simp [hab] at hd
        simp [hκ, hκ', hab, hd]
  · simp [hab]
    rintro rfl; exact hab rfl
def md11 : Modes where
  call := callM
  br := fun _ => false
  plan := fun _ => .fin
@[simp] theorem md11_call (f i : Nat) : md11.call f i = callM f i := rfl
@[simp] theorem md11_br : md11.br = fun _ => false := rfl
def qPlant (x : GPlant) : Prop := x.Stuffs.length ≤ 1152921504606846976 ∧ x.Foes.length ≤ 1152921504606846976 ∧ x.Places.length ≤ 1152921504606846976 ∧ x.Valves.length ≤ 1152921504606846976
theorem eqPlant_ok (κ κ' : Knd) (hκ : κ ≠ .own) (hκ' : κ' ≠ .own) (a b : GPlant) (h : qPlant a) :
    ACall PP 11 [.tmp (.agg [.tr (.sl κ () 1 (enc cS a.Stuffs)), .tr (.sl κ () 2 (enc cPlantFoe a.Foes)), .tr (.sl κ () 3 (enc cPlantPlace a.Places)), .tr (.sl κ () 4 (enc cPlantValve a.Valves))]), .tmp (.agg [.tr (.sl κ' () 1 (enc cS b.Stuffs)), .tr (.sl κ' () 2 (enc cPlantFoe b.Foes)), .tr (.sl κ' () 3 (enc cPlantPlace b.Places)), .tr (.sl κ' () 4 (enc cPlantValve b.Valves))])] [] (.tmp (.tr (.bool (decide (a = b))))) [] [] := by
  refine ACall_intro md11 (na := 2) (bx := []) (by kernel_rfl) Tryz.func11 rfl rfl rfl (by simp [noBoR, noBoV, noBoL, noBoT]) rfl (by simp [noBoRow, noBoT]) rfl rfl ?_
  cases a; cases b
  simp only [qPlant] at h
  simp [hκ, hκ']
  (repeat' (first | refine andK_i (by first | omega | simp_all) (fun _ => ?_) | refine condK_i (fun _ => ?_) (fun _ => ?_)))
  all_goals try (solve | simp_all)
  refine callK_of (eqStringS_ok _ _ (by simp [hκ]) (by simp [hκ']) _ _ (by simp_all)) ?_
  simp [hκ, hκ']
  (repeat' (first | refine andK_i (by first | omega | simp_all) (fun _ => ?_) | refine condK_i (fun _ => ?_) (fun _ => ?_)))
  all_goals try (solve | simp_all)
  refine callK_of (eqPlantFoeS_ok _ _ (by simp [hκ]) (by simp [hκ']) _ _ (by simp_all)) ?_
  simp [hκ, hκ']
  (repeat' (first | refine andK_i (by first | omega | simp_all) (fun _ => ?_) | refine condK_i (fun _ => ?_) (fun _ => ?_)))
  all_goals try (solve | simp_all)
  refine callK_of (eqPlantPlaceS_ok _ _ (by simp [hκ]) (by simp [hκ']) _ _ (by simp_all)) ?_
  simp [hκ, hκ']
  (repeat' (first | refine andK_i (by first | omega | simp_all) (fun _ => ?_) | refine condK_i (fun _ => ?_) (fun _ => ?_)))
  all_goals try (solve | simp_all)
  refine callK_of (eqPlantValveS_ok _ _ (by simp [hκ]) (by simp [hκ']) _ _ (by simp_all)) ?_
  simp [hκ, hκ']
  (repeat' (first | refine andK_i (by first | omega | simp_all) (fun _ => ?_) | refine condK_i (fun _ => ?_) (fun _ => ?_)))
  all_goals simp_all
def md12 : Modes where
  call := callM
  br := fun _ => false
  plan := fun _ => .fin
@[simp] theorem md12_call (f i : Nat) : md12.call f i = callM f i := rfl
@[simp] theorem md12_br : md12.br = fun _ => false := rfl
def qCtlJob (x : GCtlJob) : Prop := qPlantRoute x.Route ∧ x.Places.length ≤ 1152921504606846976 ∧ x.Stuffs.length ≤ 1152921504606846976 ∧ x.Heard.length ≤ 1152921504606846976
theorem eqCtlJob_ok (κ κ' : Knd) (hκ : κ ≠ .own) (hκ' : κ' ≠ .own) (a b : GCtlJob) (h : qCtlJob a) :
    ACall PP 12 [.tmp (.agg [.tr (.int .i64 a.Number), .tr (.int .i64 a.Kind), .tr (.sl κ () 1 (enc cS a.Route.Places)), .tr (.sl κ () 1 (enc cS a.Route.Valves)), .tr (.sl κ () 1 (enc cS a.Places)), .tr (.sl κ () 1 (enc cS a.Stuffs)), .tr (.int .i64 a.Amount), .tr (.int .i64 a.State), .tr (.sl κ () 1 (enc cS a.Heard)), .tr (.int .i64 a.Moved), .tr (.bool a.Done)]), .tmp (.agg [.tr (.int .i64 b.Number), .tr (.int .i64 b.Kind), .tr (.sl κ' () 1 (enc cS b.Route.Places)), .tr (.sl κ' () 1 (enc cS b.Route.Valves)), .tr (.sl κ' () 1 (enc cS b.Places)), .tr (.sl κ' () 1 (enc cS b.Stuffs)), .tr (.int .i64 b.Amount), .tr (.int .i64 b.State), .tr (.sl κ' () 1 (enc cS b.Heard)), .tr (.int .i64 b.Moved), .tr (.bool b.Done)])] [] (.tmp (.tr (.bool (decide (a = b))))) [] [] := by
  refine ACall_intro md12 (na := 2) (bx := []) (by kernel_rfl) Tryz.func12 rfl rfl rfl (by simp [noBoR, noBoV, noBoL, noBoT]) rfl (by simp [noBoRow, noBoT]) rfl rfl ?_
  cases a; cases b
  simp only [qCtlJob] at h
  simp [hκ, hκ']
  (repeat' (first | refine andK_i (by first | omega | simp_all) (fun _ => ?_) | refine condK_i (fun _ => ?_) (fun _ => ?_)))
  all_goals try (solve | simp_all)
  refine callK_of (eqPlantRoute_ok _ _ (by simp [hκ]) (by simp [hκ']) _ _ (by simp_all)) ?_
  simp [hκ, hκ']
  (repeat' (first | refine andK_i (by first | omega | simp_all) (fun _ => ?_) | refine condK_i (fun _ => ?_) (fun _ => ?_)))
  all_goals try (solve | simp_all)
  refine callK_of (eqStringS_ok _ _ (by simp [hκ]) (by simp [hκ']) _ _ (by simp_all)) ?_
  simp [hκ, hκ']
  (repeat' (first | refine andK_i (by first | omega | simp_all) (fun _ => ?_) | refine condK_i (fun _ => ?_) (fun _ => ?_)))
  all_goals try (solve | simp_all)
  refine callK_of (eqStringS_ok _ _ (by simp [hκ]) (by simp [hκ']) _ _ (by simp_all)) ?_
  simp [hκ, hκ']
  (repeat' (first | refine andK_i (by first | omega | simp_all) (fun _ => ?_) | refine condK_i (fun _ => ?_) (fun _ => ?_)))
  all_goals try (solve | simp_all)
  refine callK_of (eqStringS_ok _ _ (by simp [hκ]) (by simp [hκ']) _ _ (by simp_all)) ?_
  simp [hκ, hκ']
  (repeat' (first | refine andK_i (by first | omega | simp_all) (fun _ => ?_) | refine condK_i (fun _ => ?_) (fun _ => ?_)))
  all_goals simp_all
def md68 : Modes where
  call := callM
  br := fun _ => false
  plan := fun _ => .fin
@[simp] theorem md68_call (f i : Nat) : md68.call f i = callM f i := rfl
@[simp] theorem md68_br : md68.br = fun _ => false := rfl
def qClaimWant (x : GClaimWant) : Prop := x.Stuffs.length ≤ 1152921504606846976 ∧ x.Uses.length ≤ 1152921504606846976 ∧ x.Opens.length ≤ 1152921504606846976 ∧ x.Shuts.length ≤ 1152921504606846976
theorem eqClaimWant_ok (κ κ' : Knd) (hκ : κ ≠ .own) (hκ' : κ' ≠ .own) (a b : GClaimWant) (h : qClaimWant a) :
    ACall PP 68 [.tmp (.agg [.tr (.int .i64 a.Number), .tr (.int .i64 a.Kind), .tr (.sl κ () 1 (enc cS a.Stuffs)), .tr (.sl κ () 3 (enc cClaimUse a.Uses)), .tr (.sl κ () 1 (enc cS a.Opens)), .tr (.sl κ () 1 (enc cS a.Shuts))]), .tmp (.agg [.tr (.int .i64 b.Number), .tr (.int .i64 b.Kind), .tr (.sl κ' () 1 (enc cS b.Stuffs)), .tr (.sl κ' () 3 (enc cClaimUse b.Uses)), .tr (.sl κ' () 1 (enc cS b.Opens)), .tr (.sl κ' () 1 (enc cS b.Shuts))])] [] (.tmp (.tr (.bool (decide (a = b))))) [] [] := by
  refine ACall_intro md68 (na := 2) (bx := []) (by kernel_rfl) Tryz.func68 rfl rfl rfl (by simp [noBoR, noBoV, noBoL, noBoT]) rfl (by simp [noBoRow, noBoT]) rfl rfl ?_
  cases a; cases b
  simp only [qClaimWant] at h
  simp [hκ, hκ']
  (repeat' (first | refine andK_i (by first | omega | simp_all) (fun _ => ?_) | refine condK_i (fun _ => ?_) (fun _ => ?_)))
  all_goals try (solve | simp_all)
  refine callK_of (eqStringS_ok _ _ (by simp [hκ]) (by simp [hκ']) _ _ (by simp_all)) ?_
  simp [hκ, hκ']
  (repeat' (first | refine andK_i (by first | omega | simp_all) (fun _ => ?_) | refine condK_i (fun _ => ?_) (fun _ => ?_)))
  all_goals try (solve | simp_all)
  refine callK_of (eqClaimUseS_ok _ _ (by simp [hκ]) (by simp [hκ']) _ _ (by simp_all)) ?_
  simp [hκ, hκ']
  (repeat' (first | refine andK_i (by first | omega | simp_all) (fun _ => ?_) | refine condK_i (fun _ => ?_) (fun _ => ?_)))
  all_goals try (solve | simp_all)
  refine callK_of (eqStringS_ok _ _ (by simp [hκ]) (by simp [hκ']) _ _ (by simp_all)) ?_
  simp [hκ, hκ']
  (repeat' (first | refine andK_i (by first | omega | simp_all) (fun _ => ?_) | refine condK_i (fun _ => ?_) (fun _ => ?_)))
  all_goals try (solve | simp_all)
  refine callK_of (eqStringS_ok _ _ (by simp [hκ]) (by simp [hκ']) _ _ (by simp_all)) ?_
  simp [hκ, hκ']
  (repeat' (first | refine andK_i (by first | omega | simp_all) (fun _ => ?_) | refine condK_i (fun _ => ?_) (fun _ => ?_)))
  all_goals simp_all
def md31 : Modes where
  call := callM
  br := fun _ => false
  plan := fun _ => .fin
@[simp] theorem md31_call (f i : Nat) : md31.call f i = callM f i := rfl
@[simp] theorem md31_br : md31.br = fun _ => false := rfl
def qCtlAsk (x : GCtlAsk) : Prop := qClaimWant x.Want
theorem eqCtlAsk_ok (κ κ' : Knd) (hκ : κ ≠ .own) (hκ' : κ' ≠ .own) (a b : GCtlAsk) (h : qCtlAsk a) :
    ACall PP 31 [.tmp (.agg [.tr (.str a.Station), .tr (.int .i64 a.Want.Number), .tr (.int .i64 a.Want.Kind), .tr (.sl κ () 1 (enc cS a.Want.Stuffs)), .tr (.sl κ () 3 (enc cClaimUse a.Want.Uses)), .tr (.sl κ () 1 (enc cS a.Want.Opens)), .tr (.sl κ () 1 (enc cS a.Want.Shuts))]), .tmp (.agg [.tr (.str b.Station), .tr (.int .i64 b.Want.Number), .tr (.int .i64 b.Want.Kind), .tr (.sl κ' () 1 (enc cS b.Want.Stuffs)), .tr (.sl κ' () 3 (enc cClaimUse b.Want.Uses)), .tr (.sl κ' () 1 (enc cS b.Want.Opens)), .tr (.sl κ' () 1 (enc cS b.Want.Shuts))])] [] (.tmp (.tr (.bool (decide (a = b))))) [] [] := by
  refine ACall_intro md31 (na := 2) (bx := []) (by kernel_rfl) Tryz.func31 rfl rfl rfl (by simp [noBoR, noBoV, noBoL, noBoT]) rfl (by simp [noBoRow, noBoT]) rfl rfl ?_
  cases a; cases b
  simp only [qCtlAsk] at h
  simp [hκ, hκ']
  (repeat' (first | refine andK_i (by first | omega | simp_all) (fun _ => ?_) | refine condK_i (fun _ => ?_) (fun _ => ?_)))
  all_goals try (solve | simp_all)
  refine callK_of (eqClaimWant_ok _ _ (by simp [hκ]) (by simp [hκ']) _ _ (by simp_all)) ?_
  simp [hκ, hκ']
  (repeat' (first | refine andK_i (by first | omega | simp_all) (fun _ => ?_) | refine condK_i (fun _ => ?_) (fun _ => ?_)))
  all_goals simp_all
def md10 : Modes where
  call := callM
  br := fun _ => false
  plan := fun i => match i with
    | 6 => .take 0 (.take 1 (.take 2 (.take 3 (.take 4 (.take 5 (.take 6 (.take 7 (.any 8 (.take 9 (.fin)) (.non)))))))))
    | _ => .fin
@[simp] theorem md10_call (f i : Nat) : md10.call f i = callM f i := rfl
@[simp] theorem md10_br : md10.br = fun _ => false := rfl
@[simp] theorem md10_p6 : md10.plan 6 = .take 0 (.take 1 (.take 2 (.take 3 (.take 4 (.take 5 (.take 6 (.take 7 (.any 8 (.take 9 (.fin)) (.non))))))))) := rfl
theorem eqCtlAskS_ok (κ κ' : Knd) (hκ : κ ≠ .own) (hκ' : κ' ≠ .own) (a b : List GCtlAsk) (ha : a.length ≤ 1152921504606846976) (hz : ∀ x ∈ a, qCtlAsk x) :
    ACall PP 10 [.tmp (.tr (.sl κ () 7 (enc (cCtlAsk κ) a))), .tmp (.tr (.sl κ' () 7 (enc (cCtlAsk κ') b)))] [] (.tmp (.tr (.bool (decide (a = b))))) [] [] := by
  refine ACall_intro md10 (na := 2) (bx := []) (by kernel_rfl) Tryz.func10 rfl rfl rfl (by simp [noBoR, noBoV, noBoL, noBoT]) rfl (by simp [noBoRow, noBoT]) rfl rfl ?_
  simp [hκ, hκ']
  by_cases hab : a.length = b.length
  · simp [hab]
    refine vc_loop2 [0, 1, 5] (fun m S => ∃ (i : Nat), m = a.length - i ∧ i ≤ a.length ∧ (a = b ↔ a.drop i = b.drop i) ∧
      S = [(0, .tmp (.tr (.sl κ () 7 (enc (cCtlAsk κ) a)))), (1, .tmp (.tr (.sl κ' () 7 (enc (cCtlAsk κ') b)))), (5, .tmp (.tr (.int .i64 i)))]) a.length ?_ ?_
    · exact ⟨0, by simp, by simp, by simp, by simp⟩
    · rintro J hJ m S ⟨i, rfl, hi, hd, rfl⟩
      by_cases hlt : i < a.length
      · have hlt' : i < b.length := by omega
        have hda : a.drop i = a[i] :: a.drop (i + 1) := by simp
        have hdb : b.drop i = b[i] :: b.drop (i + 1) := by simp
        rw [hda, hdb, List.cons.injEq] at hd
        simp [hκ, hκ', hlt, hlt']
        refine callK_of (eqCtlAsk_ok _ _ (by simp [hκ]) (by simp [hκ']) (a[i]) (b[i]) (hz _ (List.getElem_mem hlt))) ?_
        simp [hκ, hκ']
        by_cases he : a[i] = b[i]
        · simp [he] at hd ⊢
          refine andK_i (by omega) fun _ => ?_
          exact again_i hJ (m := a.length - (i + 1)) (by omega) ⟨i + 1, rfl, by omega, hd, by simp⟩
        · simp [he] at hd ⊢
          exact hd
      · obtain rfl : i = a.length := by omega
        simp [hab] at hd
        simp [hκ, hκ', hab, hd]
  · simp [hab]
    rintro rfl; exact hab rfl
end Go.HT
end
section
namespace Go.HT
open Go Go.Proofs
set_option maxRecDepth 100000
set_option maxHeartbeats 1000000
set_option linter.unusedSimpArgs false
def md42 : Modes where
  call := callM
  br := fun _ => false
  plan := fun _ => .fin
@[simp] theorem md42_call (f i : Nat) : md42.call f i = callM f i := rfl
@[simp] theorem md42_br : md42.br = fun _ => false := rfl
/-- What a text is that stands for a number. -/
def dig (k : Int) (o : Str) : Str := if h : 0 < k then dig (k / 10) (UInt8.ofNat (48 + k % 10).toNat :: o) else o
  termination_by k.toNat
  decreasing_by omega
def mt (k : Int) : Str := 109 :: dig k []
@[simp] theorem inR_u8 (n : Int) : inR .u8 n = (0 ≤ n ∧ n ≤ 255) := by simp [inR, IntKind.min, IntKind.max, IntKind.signed, IntKind.bits]
theorem markText_ok (k : Int) (h0 : 0 < k) (h1 : k ≤ 70368744177664) :
    ACall PP 42 [.tmp (.tr (.int .i64 k))] [] (.tmp (.tr (.str (mt k)))) [] [] := by
  refine ACall_intro md42 (na := 1) (bx := []) (by kernel_rfl) Tryz.func42 rfl rfl rfl rfl rfl rfl rfl rfl ?_
  simp
  refine condK_i (fun h => by omega) fun _ => ?_
  refine vc_loop2 [0, 3] (fun m S => ∃ (c : Int) (o : Str), m = c.toNat ∧ 0 ≤ c ∧ o.length + c ≤ k ∧ dig c o = dig k [] ∧ S = [(0, .tmp (.tr (.int .i64 c))), (3, .tmp (.tr (.str o)))]) k.toNat ?_ ?_
  · exact ⟨k, [], rfl, by omega, by simp, rfl, by simp⟩
  · rintro J hJ m S ⟨c, o, rfl, hc, ho, hd, rfl⟩
    by_cases hlt : 0 < c
    · simp [hlt, chunk]
      refine andK_i (by omega) fun _ => andK_i (by omega) fun _ => andK_i (by omega) fun _ => andK_i (by omega) fun _ => andK_i (by omega) fun _ => ?_
      refine again_i hJ (m := (c / 10).toNat) (by omega) ⟨c / 10, UInt8.ofNat (48 + c % 10).toNat :: o, rfl, by omega, by simp; omega, ?_, by simp⟩
      rw [← hd]
      conv => rhs; unfold dig
      simp [hlt]
    · obtain rfl : c = 0 := by omega
      simp
      refine andK_i (by omega) fun _ => ?_
      have h0 : dig 0 o = o := by unfold dig; simp
      rw [h0] at hd
      simp [mt, hd]
/-- A list whose elements are written over, one by one. -/
def mkL {α : Type} (mk : α → Int → α) (cnt : α → Nat) : List α → Int → List α
  | [], _ => []
  | x :: r, k => mk x k :: mkL mk cnt r (k + cnt x)
def cntL {α : Type} (cnt : α → Nat) : List α → Nat
  | [] => 0
  | x :: r => cnt x + cntL cnt r
def mkAt {α : Type} (mk : α → Int → α) (cnt : α → Nat) (l : List α) (k : Int) (i : Nat) : List α := mkL mk cnt (l.take i) k ++ l.drop i
section
variable {α : Type} (mk : α → Int → α) (cnt : α → Nat)
@[simp] theorem mkL_length : ∀ (l : List α) (k : Int), (mkL mk cnt l k).length = l.length
  | [], _ => rfl
  | x :: r, k => by simp [mkL, mkL_length r]
theorem cntL_append : ∀ (a b : List α), cntL cnt (a ++ b) = cntL cnt a + cntL cnt b
  | [], b => by simp [cntL]
  | x :: r, b => by simp [cntL, cntL_append r b]; omega
theorem mkL_append : ∀ (a b : List α) (k : Int), mkL mk cnt (a ++ b) k = mkL mk cnt a k ++ mkL mk cnt b (k + cntL cnt a)
  | [], b, k => by simp [cntL, mkL]
  | x :: r, b, k => by simp [cntL, mkL, mkL_append r b, Int.add_assoc]
theorem cntL_len (h : ∀ x, 1 ≤ cnt x) : ∀ l : List α, l.length ≤ cntL cnt l
  | [] => Nat.le_refl _
  | x :: r => by have := cntL_len h r; have := h x; simp [cntL]; omega
theorem cntL_take (l : List α) (i : Nat) (h : i < l.length) : cntL cnt (l.take (i + 1)) = cntL cnt (l.take i) + cnt l[i] := by
  have h2 : l.take (i + 1) = l.take i ++ [l[i]] := by simp
  rw [h2, cntL_append]; simp [cntL]
theorem cntL_take_le (l : List α) (i : Nat) : cntL cnt (l.take i) ≤ cntL cnt l := by
  have := cntL_append cnt (l.take i) (l.drop i)
  rw [List.take_append_drop] at this; omega
@[simp] theorem mkAt_0 (l : List α) (k : Int) : mkAt mk cnt l k 0 = l := by simp [mkAt, mkL]
@[simp] theorem mkAt_n (l : List α) (k : Int) : mkAt mk cnt l k l.length = mkL mk cnt l k := by simp [mkAt]
@[simp] theorem mkAt_len (l : List α) (k : Int) (i : Nat) (h : i ≤ l.length) : (mkAt mk cnt l k i).length = l.length := by simp [mkAt]; omega
theorem mkAt_get (l : List α) (k : Int) (i : Nat) (h : i < l.length) (h' : i < (mkAt mk cnt l k i).length) : (mkAt mk cnt l k i)[i] = l[i] := by
  have h1 : (mkL mk cnt (l.take i) k).length = i := by simp; omega
  simp [mkAt, List.getElem_append, h1]
theorem mkAt_set (l : List α) (k : Int) (i : Nat) (h : i < l.length) : (mkAt mk cnt l k i).set i (mk l[i] (k + cntL cnt (l.take i))) = mkAt mk cnt l k (i + 1) := by
  have h1 : (mkL mk cnt (l.take i) k).length = i := by simp; omega
  have h2 : l.take (i + 1) = l.take i ++ [l[i]] := by simp
  have h3 : l.drop i = l[i] :: l.drop (i + 1) := by simp
  unfold mkAt
  rw [h2, mkL_append, h3, List.set_append, if_neg (by omega), h1, Nat.sub_self, List.set_cons_zero, List.append_assoc]
  rfl
theorem mkL_get (l : List α) (k : Int) (i : Nat) (h : i < l.length) (h' : i < (mkL mk cnt l k).length) : (mkL mk cnt l k)[i] = mk l[i] (k + cntL cnt (l.take i)) := by
  have h2 : l = l.take i ++ l[i] :: l.drop (i + 1) := by simp
  have h1 : (mkL mk cnt (l.take i) k).length = i := by simp; omega
  have h3 : mkL mk cnt l k = mkL mk cnt (l.take i) k ++ mkL mk cnt (l[i] :: l.drop (i + 1)) (k + cntL cnt (l.take i)) := by
    conv => lhs; rw [h2]
    rw [mkL_append]
  simp only [h3, List.getElem_append, h1]
  simp [mkL]
end
def ctS (_ : Str) : Nat := 1
def mkS (_ : Str) (k : Int) : Str := mt k
def md37 : Modes where
  call := callM
  br := fun _ => false
  plan := fun _ => .fin
@[simp] theorem md37_call (f i : Nat) : md37.call f i = callM f i := rfl
@[simp] theorem md37_br : md37.br = fun _ => false := rfl
theorem markStringS_ok (l : List Str) (k : Int) (h0 : 0 < k) (h1 : k + cntL ctS l ≤ 1099511627776) :
    ACall PP 37 [.tmp (.ref ⟨1000, [], 0⟩ 0 l.length false ()), .tmp (.tr (.int .i64 k))] [.sl .own () 1 (enc cS l)] (.tmp (.tr (.int .i64 (k + cntL ctS l)))) [] [.sl .own () 1 (enc cS (mkL mkS ctS l k))] := by
  refine ACall_intro md37 (na := 2) (bx := []) (by kernel_rfl) Tryz.func37 rfl rfl rfl rfl rfl (by simp [noBoRow, noBoT]) rfl rfl ?_
  simp
  refine vc_loop2 [0, 1, 5, 1000] (fun m S => ∃ (i : Nat), m = l.length - i ∧ i ≤ l.length ∧
    S = [(0, .tmp (.ref ⟨1000, [], 0⟩ 0 l.length false ())), (1, .tmp (.tr (.int .i64 (k + cntL ctS (l.take i))))), (5, .tmp (.tr (.int .i64 i))), (1000, .vir (.sl .own () 1 (enc cS (mkAt mkS ctS l k i))))]) l.length ?_ ?_
  · exact ⟨0, by simp, by simp, by simp [cntL]⟩
  · rintro J hJ m S ⟨i, rfl, hi, rfl⟩
    have hle := cntL_take_le ctS l i
    have hln := cntL_len ctS (fun _ => by unfold ctS; omega) l
    have hle2 := cntL_take_le ctS l (i + 1)
    by_cases hlt : i < l.length
    · have hg := mkAt_get mkS ctS l k i hlt (by simp [hi, hlt])
      have hst := mkAt_set mkS ctS l k i hlt
      have hcn := cntL_take ctS l i hlt
      simp only [mkS, ctS] at hst hcn
      simp [hlt, hi]
      refine callK_of (markText_ok _ (by omega) (by omega)) ?_
      simp [hlt, hi, hg]
      refine andK_i (by omega) fun _ => ?_
      refine andK_i (by omega) fun _ => ?_
      exact again_i hJ (m := l.length - (i + 1)) (by omega) ⟨i + 1, rfl, by omega, by simp [← hst, hcn]; try omega⟩
    · obtain rfl : i = l.length := by omega
      simp
def md38 : Modes where
  call := callM
  br := fun _ => false
  plan := fun _ => .fin
@[simp] theorem md38_call (f i : Nat) : md38.call f i = callM f i := rfl
@[simp] theorem md38_br : md38.br = fun _ => false := rfl
def ctPlantFoe (_ : GPlantFoe) : Nat := 2
def mkPlantFoe (_ : GPlantFoe) (k : Int) : GPlantFoe := ⟨mt (k), mt (k + 1)⟩
theorem markPlantFoeS_ok (l : List GPlantFoe) (k : Int) (h0 : 0 < k) (h1 : k + cntL ctPlantFoe l ≤ 1099511627776) :
    ACall PP 38 [.tmp (.ref ⟨1000, [], 0⟩ 0 l.length false ()), .tmp (.tr (.int .i64 k))] [.sl .own () 2 (enc cPlantFoe l)] (.tmp (.tr (.int .i64 (k + cntL ctPlantFoe l)))) [] [.sl .own () 2 (enc cPlantFoe (mkL mkPlantFoe ctPlantFoe l k))] := by
  refine ACall_intro md38 (na := 2) (bx := []) (by kernel_rfl) Tryz.func38 rfl rfl rfl rfl rfl (by simp [noBoRow, noBoT]) rfl rfl ?_
  simp
  refine vc_loop2 [0, 1, 5, 1000] (fun m S => ∃ (i : Nat), m = l.length - i ∧ i ≤ l.length ∧
    S = [(0, .tmp (.ref ⟨1000, [], 0⟩ 0 l.length false ())), (1, .tmp (.tr (.int .i64 (k + cntL ctPlantFoe (l.take i))))), (5, .tmp (.tr (.int .i64 i))), (1000, .vir (.sl .own () 2 (enc cPlantFoe (mkAt mkPlantFoe ctPlantFoe l k i))))]) l.length ?_ ?_
  · exact ⟨0, by simp, by simp, by simp [cntL]⟩
  · rintro J hJ m S ⟨i, rfl, hi, rfl⟩
    have hle := cntL_take_le ctPlantFoe l i
    have hln := cntL_len ctPlantFoe (fun _ => by unfold ctPlantFoe; omega) l
    have hle2 := cntL_take_le ctPlantFoe l (i + 1)
    by_cases hlt : i < l.length
    · have hg := mkAt_get mkPlantFoe ctPlantFoe l k i hlt (by simp [hi, hlt])
      have hst := mkAt_set mkPlantFoe ctPlantFoe l k i hlt
      have hcn := cntL_take ctPlantFoe l i hlt
      simp only [mkPlantFoe, ctPlantFoe] at hst hcn
      simp [hlt, hi]
      refine callK_of (markText_ok _ (by omega) (by omega)) ?_
      simp [hlt, hi, hg]
      refine andK_i (by omega) fun _ => ?_
      refine callK_of (markText_ok _ (by omega) (by omega)) ?_
      simp [hlt, hi, hg]
      refine andK_i (by omega) fun _ => ?_
      refine andK_i (by omega) fun _ => ?_
      exact again_i hJ (m := l.length - (i + 1)) (by omega) ⟨i + 1, rfl, by omega, by simp [← hst, hcn]; try omega⟩
    · obtain rfl : i = l.length := by omega
      simp
def md39 : Modes where
  call := callM
  br := fun _ => false
  plan := fun _ => .fin
@[simp] theorem md39_call (f i : Nat) : md39.call f i = callM f i := rfl
@[simp] theorem md39_br : md39.br = fun _ => false := rfl
def ctPlantPlace (_ : GPlantPlace) : Nat := 3
def mkPlantPlace (_ : GPlantPlace) (k : Int) : GPlantPlace := ⟨mt (k), k + 1, mt (k + 1 + 1)⟩
theorem markPlantPlaceS_ok (l : List GPlantPlace) (k : Int) (h0 : 0 < k) (h1 : k + cntL ctPlantPlace l ≤ 1099511627776) :
    ACall PP 39 [.tmp (.ref ⟨1000, [], 0⟩ 0 l.length false ()), .tmp (.tr (.int .i64 k))] [.sl .own () 3 (enc cPlantPlace l)] (.tmp (.tr (.int .i64 (k + cntL ctPlantPlace l)))) [] [.sl .own () 3 (enc cPlantPlace (mkL mkPlantPlace ctPlantPlace l k))] := by
  refine ACall_intro md39 (na := 2) (bx := []) (by kernel_rfl) Tryz.func39 rfl rfl rfl rfl rfl (by simp [noBoRow, noBoT]) rfl rfl ?_
  simp
  refine vc_loop2 [0, 1, 5, 1000] (fun m S => ∃ (i : Nat), m = l.length - i ∧ i ≤ l.length ∧
    S = [(0, .tmp (.ref ⟨1000, [], 0⟩ 0 l.length false ())), (1, .tmp (.tr (.int .i64 (k + cntL ctPlantPlace (l.take i))))), (5, .tmp (.tr (.int .i64 i))), (1000, .vir (.sl .own () 3 (enc cPlantPlace (mkAt mkPlantPlace ctPlantPlace l k i))))]) l.length ?_ ?_
  · exact ⟨0, by simp, by simp, by simp [cntL]⟩
  · rintro J hJ m S ⟨i, rfl, hi, rfl⟩
    have hle := cntL_take_le ctPlantPlace l i
    have hln := cntL_len ctPlantPlace (fun _ => by unfold ctPlantPlace; omega) l
    have hle2 := cntL_take_le ctPlantPlace l (i + 1)
    by_cases hlt : i < l.length
    · have hg := mkAt_get mkPlantPlace ctPlantPlace l k i hlt (by simp [hi, hlt])
      have hst := mkAt_set mkPlantPlace ctPlantPlace l k i hlt
      have hcn := cntL_take ctPlantPlace l i hlt
      simp only [mkPlantPlace, ctPlantPlace] at hst hcn
      simp [hlt, hi]
      refine callK_of (markText_ok _ (by omega) (by omega)) ?_
      simp [hlt, hi, hg]
      refine andK_i (by omega) fun _ => ?_
      refine andK_i (by omega) fun _ => ?_
      refine callK_of (markText_ok _ (by omega) (by omega)) ?_
      simp [hlt, hi, hg]
      refine andK_i (by omega) fun _ => ?_
      refine andK_i (by omega) fun _ => ?_
      exact again_i hJ (m := l.length - (i + 1)) (by omega) ⟨i + 1, rfl, by omega, by simp [← hst, hcn]; try omega⟩
    · obtain rfl : i = l.length := by omega
      simp
def md40 : Modes where
  call := callM
  br := fun _ => false
  plan := fun _ => .fin
@[simp] theorem md40_call (f i : Nat) : md40.call f i = callM f i := rfl
@[simp] theorem md40_br : md40.br = fun _ => false := rfl
def ctPlantValve (_ : GPlantValve) : Nat := 4
def mkPlantValve (_ : GPlantValve) (k : Int) : GPlantValve := ⟨mt (k), mt (k + 1), mt (k + 1 + 1), mt (k + 1 + 1 + 1)⟩
theorem markPlantValveS_ok (l : List GPlantValve) (k : Int) (h0 : 0 < k) (h1 : k + cntL ctPlantValve l ≤ 1099511627776) :
    ACall PP 40 [.tmp (.ref ⟨1000, [], 0⟩ 0 l.length false ()), .tmp (.tr (.int .i64 k))] [.sl .own () 4 (enc cPlantValve l)] (.tmp (.tr (.int .i64 (k + cntL ctPlantValve l)))) [] [.sl .own () 4 (enc cPlantValve (mkL mkPlantValve ctPlantValve l k))] := by
  refine ACall_intro md40 (na := 2) (bx := []) (by kernel_rfl) Tryz.func40 rfl rfl rfl rfl rfl (by simp [noBoRow, noBoT]) rfl rfl ?_
  simp
  refine vc_loop2 [0, 1, 5, 1000] (fun m S => ∃ (i : Nat), m = l.length - i ∧ i ≤ l.length ∧
    S = [(0, .tmp (.ref ⟨1000, [], 0⟩ 0 l.length false ())), (1, .tmp (.tr (.int .i64 (k + cntL ctPlantValve (l.take i))))), (5, .tmp (.tr (.int .i64 i))), (1000, .vir (.sl .own () 4 (enc cPlantValve (mkAt mkPlantValve ctPlantValve l k i))))]) l.length ?_ ?_
  · exact ⟨0, by simp, by simp, by simp [cntL]⟩
  · rintro J hJ m S ⟨i, rfl, hi, rfl⟩
    have hle := cntL_take_le ctPlantValve l i
    have hln := cntL_len ctPlantValve (fun _ => by unfold ctPlantValve; omega) l
    have hle2 := cntL_take_le ctPlantValve l (i + 1)
    by_cases hlt : i < l.length
    · have hg := mkAt_get mkPlantValve ctPlantValve l k i hlt (by simp [hi, hlt])
      have hst := mkAt_set mkPlantValve ctPlantValve l k i hlt
      have hcn := cntL_take ctPlantValve l i hlt
      simp only [mkPlantValve, ctPlantValve] at hst hcn
      simp [hlt, hi]
      refine callK_of (markText_ok _ (by omega) (by omega)) ?_
      simp [hlt, hi, hg]
      refine andK_i (by omega) fun _ => ?_
      refine callK_of (markText_ok _ (by omega) (by omega)) ?_
      simp [hlt, hi, hg]
      refine andK_i (by omega) fun _ => ?_
      refine callK_of (markText_ok _ (by omega) (by omega)) ?_
      simp [hlt, hi, hg]
      refine andK_i (by omega) fun _ => ?_
      refine callK_of (markText_ok _ (by omega) (by omega)) ?_
      simp [hlt, hi, hg]
      refine andK_i (by omega) fun _ => ?_
      refine andK_i (by omega) fun _ => ?_
      exact again_i hJ (m := l.length - (i + 1)) (by omega) ⟨i + 1, rfl, by omega, by simp [← hst, hcn]; try omega⟩
    · obtain rfl : i = l.length := by omega
      simp
def md43 : Modes where
  call := callM
  br := fun _ => false
  plan := fun _ => .fin
@[simp] theorem md43_call (f i : Nat) : md43.call f i = callM f i := rfl
@[simp] theorem md43_br : md43.br = fun _ => false := rfl
def ctClaimUse (_ : GClaimUse) : Nat := 3
def mkClaimUse (_ : GClaimUse) (k : Int) : GClaimUse := ⟨mt (k), k + 1, k + 1 + 1⟩
theorem markClaimUseS_ok (l : List GClaimUse) (k : Int) (h0 : 0 < k) (h1 : k + cntL ctClaimUse l ≤ 1099511627776) :
    ACall PP 43 [.tmp (.ref ⟨1000, [], 0⟩ 0 l.length false ()), .tmp (.tr (.int .i64 k))] [.sl .own () 3 (enc cClaimUse l)] (.tmp (.tr (.int .i64 (k + cntL ctClaimUse l)))) [] [.sl .own () 3 (enc cClaimUse (mkL mkClaimUse ctClaimUse l k))] := by
  refine ACall_intro md43 (na := 2) (bx := []) (by kernel_rfl) Tryz.func43 rfl rfl rfl rfl rfl (by simp [noBoRow, noBoT]) rfl rfl ?_
  simp
  refine vc_loop2 [0, 1, 5, 1000] (fun m S => ∃ (i : Nat), m = l.length - i ∧ i ≤ l.length ∧
    S = [(0, .tmp (.ref ⟨1000, [], 0⟩ 0 l.length false ())), (1, .tmp (.tr (.int .i64 (k + cntL ctClaimUse (l.take i))))), (5, .tmp (.tr (.int .i64 i))), (1000, .vir (.sl .own () 3 (enc cClaimUse (mkAt mkClaimUse ctClaimUse l k i))))]) l.length ?_ ?_
  · exact ⟨0, by simp, by simp, by simp [cntL]⟩
  · rintro J hJ m S ⟨i, rfl, hi, rfl⟩
    have hle := cntL_take_le ctClaimUse l i
    have hln := cntL_len ctClaimUse (fun _ => by unfold ctClaimUse; omega) l
    have hle2 := cntL_take_le ctClaimUse l (i + 1)
    by_cases hlt : i < l.length
    · have hg := mkAt_get mkClaimUse ctClaimUse l k i hlt (by simp [hi, hlt])
      have hst := mkAt_set mkClaimUse ctClaimUse l k i hlt
      have hcn := cntL_take ctClaimUse l i hlt
      simp only [mkClaimUse, ctClaimUse] at hst hcn
      simp [hlt, hi]
      refine callK_of (markText_ok _ (by omega) (by omega)) ?_
      simp [hlt, hi, hg]
      refine andK_i (by omega) fun _ => ?_
      refine andK_i (by omega) fun _ => ?_
      refine andK_i (by omega) fun _ => ?_
      refine andK_i (by omega) fun _ => ?_
      exact again_i hJ (m := l.length - (i + 1)) (by omega) ⟨i + 1, rfl, by omega, by simp [← hst, hcn]; try omega⟩
    · obtain rfl : i = l.length := by omega
      simp
def md13 : Modes where
  call := callM
  br := fun i => i == 2
  plan := fun _ => .fin
@[simp] theorem md13_call (f i : Nat) : md13.call f i = callM f i := rfl
@[simp] theorem md13_br : md13.br = fun i => i == 2 := rfl
def ctvPlant (x : GPlant) : Nat := cntL ctS x.Stuffs + cntL ctPlantFoe x.Foes + cntL ctPlantPlace x.Places + cntL ctPlantValve x.Valves
theorem markPlant_ok (x : GPlant) (k : Int) (h0 : 0 < k) (h1 : k + ctvPlant x ≤ 1099511627776) :
    ACall PP 13 [.tmp (.agg [.ref ⟨1000, [], 0⟩ 0 x.Stuffs.length false (), .ref ⟨1001, [], 0⟩ 0 x.Foes.length false (), .ref ⟨1002, [], 0⟩ 0 x.Places.length false (), .ref ⟨1003, [], 0⟩ 0 x.Valves.length false ()]), .tmp (.tr (.int .i64 k))] [.sl .own () 1 (enc cS x.Stuffs), .sl .own () 2 (enc cPlantFoe x.Foes), .sl .own () 3 (enc cPlantPlace x.Places), .sl .own () 4 (enc cPlantValve x.Valves)] (.tmp (.tr (.int .i64 (k + ctvPlant x)))) [] [.sl .own () 1 (enc cS (mkL mkS ctS x.Stuffs (k))), .sl .own () 2 (enc cPlantFoe (mkL mkPlantFoe ctPlantFoe x.Foes (k + cntL ctS x.Stuffs))), .sl .own () 3 (enc cPlantPlace (mkL mkPlantPlace ctPlantPlace x.Places (k + cntL ctS x.Stuffs + cntL ctPlantFoe x.Foes))), .sl .own () 4 (enc cPlantValve (mkL mkPlantValve ctPlantValve x.Valves (k + cntL ctS x.Stuffs + cntL ctPlantFoe x.Foes + cntL ctPlantPlace x.Places)))] := by
  refine ACall_intro md13 (na := 2) (bx := []) (by kernel_rfl) Tryz.func13 rfl rfl rfl rfl rfl (by simp [noBoRow, noBoT]) rfl rfl ?_
  simp only [ctvPlant] at h1 ⊢
  simp
  refine callK_of (markStringS_ok _ _ (by omega) (by omega)) ?_
  simp
  refine callK_of (markPlantFoeS_ok _ _ (by omega) (by omega)) ?_
  simp
  refine callK_of (markPlantPlaceS_ok _ _ (by omega) (by omega)) ?_
  simp
  refine callK_of (markPlantValveS_ok _ _ (by omega) (by omega)) ?_
  simp
  all_goals omega
def md15 : Modes where
  call := callM
  br := fun _ => false
  plan := fun _ => .fin
@[simp] theorem md15_call (f i : Nat) : md15.call f i = callM f i := rfl
@[simp] theorem md15_br : md15.br = fun _ => false := rfl
def ctCtlAsk (x : GCtlAsk) : Nat := 3 + cntL ctS x.Want.Stuffs + cntL ctClaimUse x.Want.Uses + cntL ctS x.Want.Opens + cntL ctS x.Want.Shuts
def mkCtlAsk (x : GCtlAsk) (k : Int) : GCtlAsk := ⟨mt (k), ⟨k + 1, k + 1 + 1, mkL mkS ctS x.Want.Stuffs (k + 1 + 1 + 1), mkL mkClaimUse ctClaimUse x.Want.Uses (k + 1 + 1 + 1 + cntL ctS x.Want.Stuffs), mkL mkS ctS x.Want.Opens (k + 1 + 1 + 1 + cntL ctS x.Want.Stuffs + cntL ctClaimUse x.Want.Uses), mkL mkS ctS x.Want.Shuts (k + 1 + 1 + 1 + cntL ctS x.Want.Stuffs + cntL ctClaimUse x.Want.Uses + cntL ctS x.Want.Opens)⟩⟩
theorem markCtlAskS_ok (l : List GCtlAsk) (k : Int) (h0 : 0 < k) (h1 : k + cntL ctCtlAsk l ≤ 1099511627776) :
    ACall PP 15 [.tmp (.ref ⟨1000, [], 0⟩ 0 l.length false ()), .tmp (.tr (.int .i64 k))] [.sl .own () 7 (enc (cCtlAsk .own) l)] (.tmp (.tr (.int .i64 (k + cntL ctCtlAsk l)))) [] [.sl .own () 7 (enc (cCtlAsk .own) (mkL mkCtlAsk ctCtlAsk l k))] := by
  refine ACall_intro md15 (na := 2) (bx := []) (by kernel_rfl) Tryz.func15 rfl rfl rfl rfl rfl (by simp [noBoRow, noBoT]) rfl rfl ?_
  simp
  refine vc_loop2 [0, 1, 5, 1000] (fun m S => ∃ (i : Nat), m = l.length - i ∧ i ≤ l.length ∧
    S = [(0, .tmp (.ref ⟨1000, [], 0⟩ 0 l.length false ())), (1, .tmp (.tr (.int .i64 (k + cntL ctCtlAsk (l.take i))))), (5, .tmp (.tr (.int .i64 i))), (1000, .vir (.sl .own () 7 (enc (cCtlAsk .own) (mkAt mkCtlAsk ctCtlAsk l k i))))]) l.length ?_ ?_
  · exact ⟨0, by simp, by simp, by simp [cntL]⟩
  · rintro J hJ m S ⟨i, rfl, hi, rfl⟩
    have hle := cntL_take_le ctCtlAsk l i
    have hln := cntL_len ctCtlAsk (fun _ => by unfold ctCtlAsk; omega) l
    have hle2 := cntL_take_le ctCtlAsk l (i + 1)
    by_cases hlt : i < l.length
    · have hg := mkAt_get mkCtlAsk ctCtlAsk l k i hlt (by simp [hi, hlt])
      have hst := mkAt_set mkCtlAsk ctCtlAsk l k i hlt
      have hcn := cntL_take ctCtlAsk l i hlt
      simp only [mkCtlAsk, ctCtlAsk] at hst hcn
      simp [hlt, hi]
      refine callK_of (markText_ok _ (by omega) (by omega)) ?_
      simp [hlt, hi, hg]
      refine andK_i (by omega) fun _ => ?_
      refine andK_i (by omega) fun _ => ?_
      refine andK_i (by omega) fun _ => ?_
      refine callK_of (markStringS_ok _ _ (by omega) (by omega)) ?_
      simp [hlt, hi, hg]
      refine callK_of (markClaimUseS_ok _ _ (by omega) (by omega)) ?_
      simp [hlt, hi, hg]
      refine callK_of (markStringS_ok _ _ (by omega) (by omega)) ?_
      simp [hlt, hi, hg]
      refine callK_of (markStringS_ok _ _ (by omega) (by omega)) ?_
      simp [hlt, hi, hg]
      refine andK_i (by omega) fun _ => ?_
      exact again_i hJ (m := l.length - (i + 1)) (by omega) ⟨i + 1, rfl, by omega, by simp [← hst, hcn]; try omega⟩
    · obtain rfl : i = l.length := by omega
      simp
def md41 : Modes where
  call := callM
  br := fun i => i == 2
  plan := fun _ => .fin
@[simp] theorem md41_call (f i : Nat) : md41.call f i = callM f i := rfl
@[simp] theorem md41_br : md41.br = fun i => i == 2 := rfl
def ctvPlantRoute (x : GPlantRoute) : Nat := cntL ctS x.Places + cntL ctS x.Valves
theorem markPlantRoute_ok (x : GPlantRoute) (k : Int) (h0 : 0 < k) (h1 : k + ctvPlantRoute x ≤ 1099511627776) :
    ACall PP 41 [.tmp (.agg [.ref ⟨1000, [], 0⟩ 0 x.Places.length false (), .ref ⟨1001, [], 0⟩ 0 x.Valves.length false ()]), .tmp (.tr (.int .i64 k))] [.sl .own () 1 (enc cS x.Places), .sl .own () 1 (enc cS x.Valves)] (.tmp (.tr (.int .i64 (k + ctvPlantRoute x)))) [] [.sl .own () 1 (enc cS (mkL mkS ctS x.Places (k))), .sl .own () 1 (enc cS (mkL mkS ctS x.Valves (k + cntL ctS x.Places)))] := by
  refine ACall_intro md41 (na := 2) (bx := []) (by kernel_rfl) Tryz.func41 rfl rfl rfl rfl rfl (by simp [noBoRow, noBoT]) rfl rfl ?_
  simp only [ctvPlantRoute] at h1 ⊢
  simp
  refine callK_of (markStringS_ok _ _ (by omega) (by omega)) ?_
  simp
  refine callK_of (markStringS_ok _ _ (by omega) (by omega)) ?_
  simp
  all_goals omega
def md14 : Modes where
  call := callM
  br := fun i => i == 2
  plan := fun _ => .fin
@[simp] theorem md14_call (f i : Nat) : md14.call f i = callM f i := rfl
@[simp] theorem md14_br : md14.br = fun i => i == 2 := rfl
def ctvCtlJob (x : GCtlJob) : Nat := cntL ctS x.Route.Places + cntL ctS x.Route.Valves + cntL ctS x.Places + cntL ctS x.Stuffs + cntL ctS x.Heard
theorem markCtlJob_ok (x : GCtlJob) (k : Int) (h0 : 0 < k) (h1 : k + ctvCtlJob x ≤ 1099511627776) :
    ACall PP 14 [.tmp (.agg [.tr (.int .i64 x.Number), .tr (.int .i64 x.Kind), .ref ⟨1000, [], 0⟩ 0 x.Route.Places.length false (), .ref ⟨1001, [], 0⟩ 0 x.Route.Valves.length false (), .ref ⟨1002, [], 0⟩ 0 x.Places.length false (), .ref ⟨1003, [], 0⟩ 0 x.Stuffs.length false (), .tr (.int .i64 x.Amount), .tr (.int .i64 x.State), .ref ⟨1004, [], 0⟩ 0 x.Heard.length false (), .tr (.int .i64 x.Moved), .tr (.bool x.Done)]), .tmp (.tr (.int .i64 k))] [.sl .own () 1 (enc cS x.Route.Places), .sl .own () 1 (enc cS x.Route.Valves), .sl .own () 1 (enc cS x.Places), .sl .own () 1 (enc cS x.Stuffs), .sl .own () 1 (enc cS x.Heard)] (.tmp (.tr (.int .i64 (k + ctvCtlJob x)))) [] [.sl .own () 1 (enc cS (mkL mkS ctS x.Route.Places (k))), .sl .own () 1 (enc cS (mkL mkS ctS x.Route.Valves (k + cntL ctS x.Route.Places))), .sl .own () 1 (enc cS (mkL mkS ctS x.Places (k + cntL ctS x.Route.Places + cntL ctS x.Route.Valves))), .sl .own () 1 (enc cS (mkL mkS ctS x.Stuffs (k + cntL ctS x.Route.Places + cntL ctS x.Route.Valves + cntL ctS x.Places))), .sl .own () 1 (enc cS (mkL mkS ctS x.Heard (k + cntL ctS x.Route.Places + cntL ctS x.Route.Valves + cntL ctS x.Places + cntL ctS x.Stuffs)))] := by
  refine ACall_intro md14 (na := 2) (bx := []) (by kernel_rfl) Tryz.func14 rfl rfl rfl rfl rfl (by simp [noBoRow, noBoT]) rfl rfl ?_
  simp only [ctvCtlJob] at h1 ⊢
  simp
  refine callK_of (markPlantRoute_ok x.Route _ (by omega) (by simp only [ctvPlantRoute]; omega)) ?_
  simp [ctvPlantRoute, ← Int.add_assoc]
  refine callK_of (markStringS_ok _ _ (by omega) (by omega)) ?_
  simp
  refine callK_of (markStringS_ok _ _ (by omega) (by omega)) ?_
  simp
  refine callK_of (markStringS_ok _ _ (by omega) (by omega)) ?_
  simp
  all_goals omega
def md44 : Modes where
  call := callM
  br := fun _ => false
  plan := fun i => match i with
    | 4 => .take 0 (.take 1 (.take 2 (.take 3 (.take 4 (.any 5 (.take 6 (.fin)) (.non))))))
    | _ => .fin
@[simp] theorem md44_call (f i : Nat) : md44.call f i = callM f i := rfl
@[simp] theorem md44_br : md44.br = fun _ => false := rfl
@[simp] theorem md44_p4 : md44.plan 4 = .take 0 (.take 1 (.take 2 (.take 3 (.take 4 (.any 5 (.take 6 (.fin)) (.non)))))) := rfl
theorem heldStringS_ok (κ : Knd) (hκ : κ ≠ .own) (l : List Str) (k : Int) (h0 : 0 < k) (h1 : k + cntL ctS l ≤ 1099511627776) :
    ACall PP 44 [.tmp (.tr (.sl κ () 1 (enc cS (mkL mkS ctS l k)))), .tmp (.tr (.int .i64 k))] [] (.tmp (.tr (.int .i64 (k + cntL ctS l)))) [] [] := by
  refine ACall_intro md44 (na := 2) (bx := []) (by kernel_rfl) Tryz.func44 rfl rfl rfl rfl rfl rfl rfl rfl ?_
  simp [hκ]
  refine vc_loop2 [0, 1, 5] (fun m S => ∃ (i : Nat), m = l.length - i ∧ i ≤ l.length ∧
    S = [(0, .tmp (.tr (.sl κ () 1 (enc cS (mkL mkS ctS l k))))), (1, .tmp (.tr (.int .i64 (k + cntL ctS (l.take i))))), (5, .tmp (.tr (.int .i64 i)))]) l.length ?_ ?_
  · exact ⟨0, by simp, by simp, by simp [cntL]⟩
  · rintro J hJ m S ⟨i, rfl, hi, rfl⟩
    have hle := cntL_take_le ctS l i
    have hln := cntL_len ctS (fun _ => by unfold ctS; omega) l
    have hle2 := cntL_take_le ctS l (i + 1)
    by_cases hlt : i < l.length
    · have hg := mkL_get mkS ctS l k i hlt (by simp [hlt])
      have hcn := cntL_take ctS l i hlt
      simp only [mkS, ctS] at hg hcn
      simp [hκ, hlt, hi, hg]
      refine callK_of (markText_ok _ (by omega) (by omega)) ?_
      simp [hκ, hlt, hi, hg]
      refine andK_i (by omega) fun _ => ?_
      refine andK_i (by omega) fun _ => ?_
      exact again_i hJ (m := l.length - (i + 1)) (by omega) ⟨i + 1, rfl, by omega, by simp [hcn]; try omega⟩
    · obtain rfl : i = l.length := by omega
      simp [hκ]
def md45 : Modes where
  call := callM
  br := fun _ => false
  plan := fun i => match i with
    | 4 => .take 0 (.take 1 (.take 2 (.take 3 (.take 4 (.take 5 (.any 6 (.take 7 (.fin)) (.non)))))))
    | _ => .fin
@[simp] theorem md45_call (f i : Nat) : md45.call f i = callM f i := rfl
@[simp] theorem md45_br : md45.br = fun _ => false := rfl
@[simp] theorem md45_p4 : md45.plan 4 = .take 0 (.take 1 (.take 2 (.take 3 (.take 4 (.take 5 (.any 6 (.take 7 (.fin)) (.non))))))) := rfl
theorem heldClaimUseS_ok (κ : Knd) (hκ : κ ≠ .own) (l : List GClaimUse) (k : Int) (h0 : 0 < k) (h1 : k + cntL ctClaimUse l ≤ 1099511627776) :
    ACall PP 45 [.tmp (.tr (.sl κ () 3 (enc cClaimUse (mkL mkClaimUse ctClaimUse l k)))), .tmp (.tr (.int .i64 k))] [] (.tmp (.tr (.int .i64 (k + cntL ctClaimUse l)))) [] [] := by
  refine ACall_intro md45 (na := 2) (bx := []) (by kernel_rfl) Tryz.func45 rfl rfl rfl rfl rfl rfl rfl rfl ?_
  simp [hκ]
  refine vc_loop2 [0, 1, 5] (fun m S => ∃ (i : Nat), m = l.length - i ∧ i ≤ l.length ∧
    S = [(0, .tmp (.tr (.sl κ () 3 (enc cClaimUse (mkL mkClaimUse ctClaimUse l k))))), (1, .tmp (.tr (.int .i64 (k + cntL ctClaimUse (l.take i))))), (5, .tmp (.tr (.int .i64 i)))]) l.length ?_ ?_
  · exact ⟨0, by simp, by simp, by simp [cntL]⟩
  · rintro J hJ m S ⟨i, rfl, hi, rfl⟩
    have hle := cntL_take_le ctClaimUse l i
    have hln := cntL_len ctClaimUse (fun _ => by unfold ctClaimUse; omega) l
    have hle2 := cntL_take_le ctClaimUse l (i + 1)
    by_cases hlt : i < l.length
    · have hg := mkL_get mkClaimUse ctClaimUse l k i hlt (by simp [hlt])
      have hcn := cntL_take ctClaimUse l i hlt
      simp only [mkClaimUse, ctClaimUse] at hg hcn
      simp [hκ, hlt, hi, hg]
      refine callK_of (markText_ok _ (by omega) (by omega)) ?_
      simp [hκ, hlt, hi, hg]
      refine andK_i (by omega) fun _ => ?_
      refine andK_i (by omega) fun _ => ?_
      refine andK_i (by omega) fun _ => ?_
      refine andK_i (by omega) fun _ => ?_
      exact again_i hJ (m := l.length - (i + 1)) (by omega) ⟨i + 1, rfl, by omega, by simp [hcn]; try omega⟩
    · obtain rfl : i = l.length := by omega
      simp [hκ]
def md16 : Modes where
  call := callM
  br := fun _ => false
  plan := fun i => match i with
    | 4 => .take 0 (.take 1 (.take 2 (.take 3 (.take 4 (.take 5 (.any 6 (.take 7 (.fin)) (.non)))))))
    | _ => .fin
@[simp] theorem md16_call (f i : Nat) : md16.call f i = callM f i := rfl
@[simp] theorem md16_br : md16.br = fun _ => false := rfl
@[simp] theorem md16_p4 : md16.plan 4 = .take 0 (.take 1 (.take 2 (.take 3 (.take 4 (.take 5 (.any 6 (.take 7 (.fin)) (.non))))))) := rfl
theorem heldCtlAskS_ok (κ : Knd) (hκ : κ ≠ .own) (l : List GCtlAsk) (k : Int) (h0 : 0 < k) (h1 : k + cntL ctCtlAsk l ≤ 1099511627776) :
    ACall PP 16 [.tmp (.tr (.sl κ () 7 (enc (cCtlAsk κ) (mkL mkCtlAsk ctCtlAsk l k)))), .tmp (.tr (.int .i64 k))] [] (.tmp (.tr (.int .i64 (k + cntL ctCtlAsk l)))) [] [] := by
  refine ACall_intro md16 (na := 2) (bx := []) (by kernel_rfl) Tryz.func16 rfl rfl rfl rfl rfl rfl rfl rfl ?_
  simp [hκ]
  refine vc_loop2 [0, 1, 5] (fun m S => ∃ (i : Nat), m = l.length - i ∧ i ≤ l.length ∧
    S = [(0, .tmp (.tr (.sl κ () 7 (enc (cCtlAsk κ) (mkL mkCtlAsk ctCtlAsk l k))))), (1, .tmp (.tr (.int .i64 (k + cntL ctCtlAsk (l.take i))))), (5, .tmp (.tr (.int .i64 i)))]) l.length ?_ ?_
  · exact ⟨0, by simp, by simp, by simp [cntL]⟩
  · rintro J hJ m S ⟨i, rfl, hi, rfl⟩
    have hle := cntL_take_le ctCtlAsk l i
    have hln := cntL_len ctCtlAsk (fun _ => by unfold ctCtlAsk; omega) l
    have hle2 := cntL_take_le ctCtlAsk l (i + 1)
    by_cases hlt : i < l.length
    · have hg := mkL_get mkCtlAsk ctCtlAsk l k i hlt (by simp [hlt])
      have hcn := cntL_take ctCtlAsk l i hlt
      simp only [mkCtlAsk, ctCtlAsk] at hg hcn
      simp [hκ, hlt, hi, hg]
      refine callK_of (markText_ok _ (by omega) (by omega)) ?_
      simp [hκ, hlt, hi, hg]
      refine andK_i (by omega) fun _ => ?_
      refine andK_i (by omega) fun _ => ?_
      refine andK_i (by omega) fun _ => ?_
      refine callK_of (heldStringS_ok _ (by simp [hκ]) _ _ (by omega) (by omega)) ?_
      simp [hκ, hlt, hi, hg]
      refine condK_i (fun _ => by omega) fun _ => ?_
      refine callK_of (heldClaimUseS_ok _ (by simp [hκ]) _ _ (by omega) (by omega)) ?_
      simp [hκ, hlt, hi, hg]
      refine condK_i (fun _ => by omega) fun _ => ?_
      refine callK_of (heldStringS_ok _ (by simp [hκ]) _ _ (by omega) (by omega)) ?_
      simp [hκ, hlt, hi, hg]
      refine condK_i (fun _ => by omega) fun _ => ?_
      refine callK_of (heldStringS_ok _ (by simp [hκ]) _ _ (by omega) (by omega)) ?_
      simp [hκ, hlt, hi, hg]
      refine condK_i (fun _ => by omega) fun _ => ?_
      refine andK_i (by omega) fun _ => ?_
      exact again_i hJ (m := l.length - (i + 1)) (by omega) ⟨i + 1, rfl, by omega, by simp [hcn]; try omega⟩
    · obtain rfl : i = l.length := by omega
      simp [hκ]
end Go.HT
end
section
namespace Go.HT
open Go Go.Proofs
set_option maxRecDepth 100000
set_option maxHeartbeats 1000000
set_option linter.unusedSimpArgs false
/-- A letter of a name. -/
def okC (c : UInt8) : Bool := (decide (97 ≤ c.toNat) && decide (c.toNat ≤ 122)) || (decide (48 ≤ c.toNat) && decide (c.toNat ≤ 57)) || decide (c.toNat = 45)
theorem okC_t {c : UInt8} : okC c = true ↔ ((97 ≤ c.toNat ∧ c.toNat ≤ 122) ∨ (48 ≤ c.toNat ∧ c.toNat ≤ 57)) ∨ c.toNat = 45 := by
  simp only [okC, Bool.or_eq_true, Bool.and_eq_true, decide_eq_true_eq]
theorem okC_f {c : UInt8} : okC c = false ↔ ¬ (((97 ≤ c.toNat ∧ c.toNat ≤ 122) ∨ (48 ≤ c.toNat ∧ c.toNat ≤ 57)) ∨ c.toNat = 45) := by
  rw [← okC_t]; simp
def nameOk (s : Str) : Bool := s.all okC && (decide (1 ≤ (s.length : Int)) && decide ((s.length : Int) ≤ 8))
def md64 : Modes where
  call := callM
  br := fun _ => false
  plan := fun _ => .fin
@[simp] theorem md64_call (f i : Nat) : md64.call f i = callM f i := rfl
@[simp] theorem md64_br : md64.br = fun _ => false := rfl
theorem isName_ok (s : Str) (hs : s.length ≤ 1048576) :
    ACall PP 64 [.tmp (.tr (.str s))] [] (.tmp (.tr (.bool (nameOk s)))) [] [] := by
  refine ACall_intro md64 (na := 1) (bx := []) (by kernel_rfl) Tryz.func64 rfl rfl rfl (by simp [noBoR, noBoV, noBoL, noBoT]) (by simp [noBoL, noBoT]) (by simp [noBoRow, noBoT]) rfl rfl ?_
  simp
  refine andK_i (by omega) fun _ => ?_
  refine vc_loop2 [0, 6, 7] (fun m S => ∃ (i : Nat), m = s.length - i ∧ i ≤ s.length ∧ s.all okC = (s.drop i).all okC ∧ S = [(0, .tmp (.tr (.str s))), (6, .tmp (.tr (.int .i64 s.length))), (7, .tmp (.tr (.int .i64 i)))]) s.length ?_ ?_
  · exact ⟨0, by simp, by simp, by simp, by simp⟩
  · rintro J hJ m S ⟨i, rfl, hi, ha, rfl⟩
    by_cases hlt : i < s.length
    · have hd : s.drop i = s[i] :: s.drop (i + 1) := by simp
      rw [hd, List.all_cons] at ha
      simp [hlt]
      (repeat' (first | refine andK_i (by first | omega | simp_all) (fun _ => ?_) | refine condK_i (fun _ => ?_) (fun _ => ?_) | (refine condG_i (fun h => ?_) (fun h => ?_) <;> simp [h, hlt]) | (refine condG_f (fun h => ?_) (fun h => ?_) <;> simp [h, hlt])))
      all_goals first
        | (have hc : okC s[i] = true := by rw [okC_t]; omega
           exact again_i hJ (m := s.length - (i + 1)) (by omega) ⟨i + 1, rfl, by omega, by rw [ha, hc, Bool.true_and], by simp⟩)
        | (have hc : okC s[i] = false := by rw [okC_f]; omega
           simp [nameOk, ha, hc])
    · obtain rfl : i = s.length := by omega
      have ha : s.all okC = true := by simpa using ha
      simp
      (repeat' (first | refine andK_i (by first | omega | simp_all) (fun _ => ?_) | refine condK_i (fun _ => ?_) (fun _ => ?_) | (refine condG_i (fun h => ?_) (fun h => ?_) <;> simp [h, ha]) | (refine condG_f (fun h => ?_) (fun h => ?_) <;> simp [h, ha])))
      all_goals simp [nameOk, ha, h]
def md92 : Modes where
  call := callM
  br := fun _ => false
  plan := fun _ => .fin
@[simp] theorem md92_call (f i : Nat) : md92.call f i = callM f i := rfl
@[simp] theorem md92_br : md92.br = fun _ => false := rfl
def md94 : Modes where
  call := callM
  br := fun _ => false
  plan := fun _ => .fin
@[simp] theorem md94_call (f i : Nat) : md94.call f i = callM f i := rfl
@[simp] theorem md94_br : md94.br = fun _ => false := rfl
theorem l1In_ok (n a b : Int) : ACall PP 94 [.tmp (.tr (.int .i64 n)), .tmp (.tr (.int .i64 a)), .tmp (.tr (.int .i64 b))] [] (.tmp (.tr (.bool (decide (a ≤ n) && decide (n ≤ b))))) [] [] := by
  refine ACall_intro md94 (na := 3) (bx := []) (by kernel_rfl) Tryz.func94 rfl rfl rfl (by simp [noBoR, noBoV, noBoL, noBoT]) (by simp [noBoL, noBoT]) (by simp [noBoRow, noBoT]) rfl rfl ?_
  simp
  (repeat' (first | refine andK_i (by first | omega | simp_all) (fun _ => ?_) | refine condK_i (fun _ => ?_) (fun _ => ?_) | (refine condG_i (fun h => ?_) (fun h => ?_) <;> simp [h, ]) | (refine condG_f (fun h => ?_) (fun h => ?_) <;> simp [h, ])))
  all_goals simp_all
theorem l2NameOk_ok (s : Str) (hs : s.length ≤ 1048576) :
    ACall PP 92 [.tmp (.tr (.str s))] [] (.tmp (.tr (.bool (nameOk s)))) [] [] := by
  refine ACall_intro md92 (na := 1) (bx := []) (by kernel_rfl) Tryz.func92 rfl rfl rfl (by simp [noBoR, noBoV, noBoL, noBoT]) (by simp [noBoL, noBoT]) (by simp [noBoRow, noBoT]) rfl rfl ?_
  simp
  refine andK_i (by omega) fun _ => ?_
  refine callK_of (l1In_ok _ _ _) ?_
  simp
  refine condB_i (fun h => ?_) (fun h => ?_)
  · simp at h
    simp [nameOk]
    omega
  · simp at h
    refine vc_loop2 [0, 3] (fun m S => ∃ (i : Nat), m = s.length - i ∧ i ≤ s.length ∧ s.all okC = (s.drop i).all okC ∧ S = [(0, .tmp (.tr (.str s))), (3, .tmp (.tr (.int .i64 i)))]) s.length ?_ ?_
    · exact ⟨0, by simp, by simp, by simp, by simp⟩
    · rintro J hJ m S ⟨i, rfl, hi, ha, rfl⟩
      by_cases hlt : i < s.length
      · have hd : s.drop i = s[i] :: s.drop (i + 1) := by simp
        rw [hd, List.all_cons] at ha
        simp [hlt]
        (repeat' (first | refine andK_i (by first | omega | simp_all) (fun _ => ?_) | refine condK_i (fun _ => ?_) (fun _ => ?_) | (refine condG_i (fun h => ?_) (fun h => ?_) <;> simp [h, hlt]) | (refine condG_f (fun h => ?_) (fun h => ?_) <;> simp [h, hlt])))
        all_goals first
          | (have hc : okC s[i] = true := by rw [okC_t]; omega
             exact again_i hJ (m := s.length - (i + 1)) (by omega) ⟨i + 1, rfl, by omega, by rw [ha, hc, Bool.true_and], by simp⟩)
          | (have hc : okC s[i] = false := by rw [okC_f]; omega
             simp [nameOk, ha, hc])
      · obtain rfl : i = s.length := by omega
        have ha : s.all okC = true := by simpa using ha
        simp [ha, nameOk]
        exact andK_i (by omega) fun _ => h
end Go.HT
end
section
namespace Go.HT
open Go Go.Proofs
set_option maxRecDepth 100000
set_option maxHeartbeats 1000000
set_option linter.unusedSimpArgs false
/-- Where the first of these lies. -/
def ixQ {α : Type} (q : α → Bool) : List α → Nat → Int
  | [], _ => -1
  | x :: r, i => if q x = true then i else ixQ q r (i + 1)
theorem ixQ_spec {α : Type} (q : α → Bool) : ∀ (l : List α) (i : Nat), (ixQ q l i = -1 ∧ ∀ x ∈ l, q x = false) ∨ (∃ j : Nat, ∃ h : j < l.length, ixQ q l i = ((i + j : Nat) : Int) ∧ q l[j] = true ∧ ∀ x ∈ l.take j, q x = false)
  | [], i => .inl ⟨rfl, by simp⟩
  | x :: r, i => by
    by_cases hq : q x = true
    · exact .inr ⟨0, by simp, by simp [ixQ, hq], by simpa using hq, by simp⟩
    · rcases ixQ_spec q r (i + 1) with ⟨h1, h2⟩ | ⟨j, hj, h1, h2, h3⟩
      · exact .inl ⟨by simp [ixQ, hq, h1], by simpa [hq] using h2⟩
      · refine .inr ⟨j + 1, by simp; omega, by simp [ixQ, hq, h1]; omega, by simpa using h2, by simpa [hq] using h3⟩
def md98 : Modes where
  call := callM
  br := fun _ => false
  plan := fun _ => .fin
@[simp] theorem md98_call (f i : Nat) : md98.call f i = callM f i := rfl
@[simp] theorem md98_br : md98.br = fun _ => false := rfl
theorem Index_ok (κ : Knd) (hκ : κ ≠ .own) (l : List Str) (s : Str) (hl : l.length ≤ 1152921504606846976) :
    ACall PP 98 [.tmp (.tr (.sl κ () 1 (enc cS l))), .tmp (.tr (.str s))] [] (.tmp (.tr (.int .i64 (ixQ (fun x => decide (s = x)) l 0)))) [] [] := by
  refine ACall_intro md98 (na := 2) (bx := []) (by kernel_rfl) Tryz.func98 rfl rfl rfl (by simp [noBoR, noBoV, noBoL, noBoT]) (by simp [noBoL, noBoT]) (by simp [noBoRow, noBoT]) rfl rfl ?_
  simp [hκ]
  refine vc_loop2 [0, 1, 7, 8] (fun m S => ∃ (i : Nat), m = l.length - i ∧ i ≤ l.length ∧ ixQ (fun x => decide (s = x)) l 0 = ixQ (fun x => decide (s = x)) (l.drop i) i ∧
    S = [(0, .tmp (.tr (.sl κ () 1 (enc cS l)))), (1, .tmp (.tr (.str s))), (7, .tmp (.tr (.int .i64 l.length))), (8, .tmp (.tr (.int .i64 i)))]) l.length ?_ ?_
  · exact ⟨0, by simp, by simp, by simp, by simp⟩
  · rintro J hJ m S ⟨i, rfl, hi, ha, rfl⟩
    by_cases hlt : i < l.length
    · have hd : l.drop i = l[i] :: l.drop (i + 1) := by simp
      rw [hd, ixQ] at ha
      by_cases he : s = l[i]
      · simp [← he] at ha
        simp [hκ, hlt, ← he, ha]
      · simp [he] at ha
        simp [hκ, hlt, he]
        refine andK_i (by omega) fun _ => ?_
        exact again_i hJ (m := l.length - (i + 1)) (by omega) ⟨i + 1, rfl, by omega, ha, by simp⟩
    · obtain rfl : i = l.length := by omega
      simp [ixQ] at ha
      simp [hκ, ha]
def md82 : Modes where
  call := callM
  br := fun _ => false
  plan := fun _ => .fin
@[simp] theorem md82_call (f i : Nat) : md82.call f i = callM f i := rfl
@[simp] theorem md82_br : md82.br = fun _ => false := rfl
theorem ix_mem (l : List Str) (s : Str) : decide (0 ≤ ixQ (fun x => decide (s = x)) l 0) = decide (s ∈ l) := by
  rcases ixQ_spec (fun x => decide (s = x)) l 0 with ⟨h1, h2⟩ | ⟨j, hj, h1, h2, h3⟩
  · rw [h1]
    have : ¬ s ∈ l := fun h => by simpa using h2 s h
    simp [this]
  · have h4 : s = l[j] := by simpa using h2
    have : s ∈ l := by rw [h4]; exact List.getElem_mem hj
    simp [h1, this]
theorem Contains_ok (κ : Knd) (hκ : κ ≠ .own) (l : List Str) (s : Str) (hl : l.length ≤ 1152921504606846976) :
    ACall PP 82 [.tmp (.tr (.sl κ () 1 (enc cS l))), .tmp (.tr (.str s))] [] (.tmp (.tr (.bool (decide (s ∈ l))))) [] [] := by
  refine ACall_intro md82 (na := 2) (bx := []) (by kernel_rfl) Tryz.func82 rfl rfl rfl (by simp [noBoR, noBoV, noBoL, noBoT]) (by simp [noBoL, noBoT]) (by simp [noBoRow, noBoT]) rfl rfl ?_
  simp [hκ]
  refine callK_of (Index_ok _ (by simp [hκ]) l s hl) ?_
  simp [hκ]
  simpa using ix_mem l s
def md63 : Modes where
  call := callM
  br := fun _ => false
  plan := fun _ => .fin
@[simp] theorem md63_call (f i : Nat) : md63.call f i = callM f i := rfl
@[simp] theorem md63_br : md63.br = fun _ => false := rfl
theorem has_ok (κ : Knd) (hκ : κ ≠ .own) (l : List Str) (s : Str) (hl : l.length ≤ 1152921504606846976) :
    ACall PP 63 [.tmp (.tr (.sl κ () 1 (enc cS l))), .tmp (.tr (.str s))] [] (.tmp (.tr (.bool (decide (s ∈ l))))) [] [] := by
  refine ACall_intro md63 (na := 2) (bx := []) (by kernel_rfl) Tryz.func63 rfl rfl rfl (by simp [noBoR, noBoV, noBoL, noBoT]) (by simp [noBoL, noBoT]) (by simp [noBoRow, noBoT]) rfl rfl ?_
  simp [hκ]
  refine callK_of (Contains_ok _ (by simp [hκ]) l s hl) ?_
  simp [hκ]
def md76 : Modes where
  call := callM
  br := fun _ => false
  plan := fun _ => .fin
@[simp] theorem md76_call (f i : Nat) : md76.call f i = callM f i := rfl
@[simp] theorem md76_br : md76.br = fun _ => false := rfl
theorem l2Has_ok (κ : Knd) (hκ : κ ≠ .own) (l : List Str) (s : Str) (hl : l.length ≤ 1152921504606846976) :
    ACall PP 76 [.tmp (.tr (.sl κ () 1 (enc cS l))), .tmp (.tr (.str s))] [] (.tmp (.tr (.bool (decide (s ∈ l))))) [] [] := by
  refine ACall_intro md76 (na := 2) (bx := []) (by kernel_rfl) Tryz.func76 rfl rfl rfl (by simp [noBoR, noBoV, noBoL, noBoT]) (by simp [noBoL, noBoT]) (by simp [noBoRow, noBoT]) rfl rfl ?_
  simp [hκ]
  refine vc_loop2 [0, 1, 5] (fun m S => ∃ (i : Nat), m = l.length - i ∧ i ≤ l.length ∧ (s ∈ l ↔ s ∈ l.drop i) ∧
    S = [(0, .tmp (.tr (.sl κ () 1 (enc cS l)))), (1, .tmp (.tr (.str s))), (5, .tmp (.tr (.int .i64 i)))]) l.length ?_ ?_
  · exact ⟨0, by simp, by simp, by simp, by simp⟩
  · rintro J hJ m S ⟨i, rfl, hi, ha, rfl⟩
    by_cases hlt : i < l.length
    · have hd : l.drop i = l[i] :: l.drop (i + 1) := by simp
      rw [hd, List.mem_cons] at ha
      by_cases he : l[i] = s
      · have hm : s ∈ l := ha.2 (.inl he.symm)
        simp [hκ, hlt, he, hm]
      · have he' : ¬ s = l[i] := fun h => he h.symm
        simp only [he', false_or] at ha
        simp [hκ, hlt, he]
        refine andK_i (by omega) fun _ => ?_
        exact again_i hJ (m := l.length - (i + 1)) (by omega) ⟨i + 1, rfl, by omega, ha, by simp⟩
    · obtain rfl : i = l.length := by omega
      simp at ha
      simp [hκ, ha]
def md107 : Modes where
  call := callM
  br := fun _ => false
  plan := fun _ => .fin
@[simp] theorem md107_call (f i : Nat) : md107.call f i = callM f i := rfl
@[simp] theorem md107_br : md107.br = fun _ => false := rfl
theorem copiedS_ok (κ : Knd) (hκ : κ ≠ .own) (l : List Str) (hl : l.length ≤ 1099511627776) :
    ACall PP 107 [.tmp (.tr (.sl κ () 1 (enc cS l)))] [] (.tmp (.tr (.sl .own () 1 (enc cS l)))) [] [] := by
  refine ACall_intro md107 (na := 1) (bx := []) (by kernel_rfl) Tryz.func107 rfl rfl rfl (by simp [noBoR, noBoV, noBoL, noBoT]) (by simp [noBoL, noBoT]) (by simp [noBoRow, noBoT]) rfl rfl ?_
  simp [hκ]
  exact andK_i (by omega) fun _ => trivial
def md97 : Modes where
  call := callM
  br := fun _ => false
  plan := fun _ => .fin
@[simp] theorem md97_call (f i : Nat) : md97.call f i = callM f i := rfl
@[simp] theorem md97_br : md97.br = fun _ => false := rfl
theorem l21Names_ok (κ : Knd) (hκ : κ ≠ .own) (l : List Str) (hl : l.length ≤ 1099511627776) :
    ACall PP 97 [.tmp (.tr (.sl κ () 1 (enc cS l)))] [] (.tmp (.tr (.sl .own () 1 (enc cS l)))) [] [] := by
  refine ACall_intro md97 (na := 1) (bx := []) (by kernel_rfl) Tryz.func97 rfl rfl rfl (by simp [noBoR, noBoV, noBoL, noBoT]) (by simp [noBoL, noBoT]) (by simp [noBoRow, noBoT]) rfl rfl ?_
  simp [hκ, chunk]
  exact andK_i (by omega) fun _ => trivial
end Go.HT
end
section
namespace Go.HT
open Go Go.Proofs
set_option maxRecDepth 100000
set_option maxHeartbeats 1000000
set_option linter.unusedSimpArgs false
@[simp] theorem defRows_nil : defRows [] = true := rfl
@[simp] theorem defRows_cons (r : List UT) (rs : List (List UT)) : defRows (r :: rs) = (r.all (fun t => match t with | .undef => false | _ => true) && defRows rs) := rfl
/-- Each is right, beside the one ahead of it. -/
def allP {α : Type} (q : Option α → α → Bool) : Option α → List α → Bool
  | _, [] => true
  | o, x :: r => q o x && allP q (some x) r
def prevAt {α : Type} (l : List α) (i : Nat) : Option α := if i = 0 then none else l[i - 1]?
@[simp] theorem prevAt_0 {α : Type} (l : List α) : prevAt l 0 = none := rfl
@[simp] theorem prevAt_1 {α : Type} (l : List α) (i : Nat) : prevAt l (i + 1) = l[i]? := by simp [prevAt]
/-- Each is below the one behind it. -/
def riseQ (o : Option Str) (x : Str) : Bool := match o with
  | none => true
  | some y => strLt y x
def rise (l : List Str) : Bool := allP riseQ none l
def md81 : Modes where
  call := callM
  br := fun _ => false
  plan := fun i => match i with
    | 4 => .take 0 (.take 1 (.take 2 (.take 3 (.take 4 (.take 5 (.take 6 (.take 7 (.take 8 (.take 9 (.fin))))))))))
    | _ => .fin
@[simp] theorem md81_call (f i : Nat) : md81.call f i = callM f i := rfl
@[simp] theorem md81_br : md81.br = fun _ => false := rfl
@[simp] theorem md81_p4 : md81.plan 4 = .take 0 (.take 1 (.take 2 (.take 3 (.take 4 (.take 5 (.take 6 (.take 7 (.take 8 (.take 9 (.fin)))))))))) := rfl
theorem rising_ok (κ : Knd) (hκ : κ ≠ .own) (l : List Str) (hl : l.length ≤ 1152921504606846976) :
    ACall PP 81 [.tmp (.tr (.sl κ () 1 (enc cS l)))] [] (.tmp (.tr (.bool (rise l)))) [] [] := by
  refine ACall_intro md81 (na := 1) (bx := []) (by kernel_rfl) Tryz.func81 rfl rfl rfl (by simp [noBoR, noBoV, noBoL, noBoT]) (by simp [noBoL, noBoT]) (by simp [noBoRow, noBoT]) rfl rfl ?_
  simp [hκ]
  by_cases he : l = []
  · subst he
    refine vc_loop2 [0, 3] (fun m S => S = [(0, .tmp (.tr (.sl κ () 1 (enc cS [])))), (3, .tmp (.tr (.int .i64 1)))]) 0 ?_ ?_
    · simp
    · rintro J hJ m S rfl
      simp [hκ, rise, allP]
  have hpos : 0 < l.length := List.length_pos_iff.2 he
  refine vc_loop2 [0, 3] (fun m S => ∃ (j : Nat) (hj : j < l.length), m = l.length - j ∧ rise l = allP riseQ (some l[j]) (l.drop (j + 1)) ∧
    S = [(0, .tmp (.tr (.sl κ () 1 (enc cS l)))), (3, .tmp (.tr (.int .i64 ((j : Int) + 1))))]) l.length ?_ ?_
  · refine ⟨0, hpos, by simp, ?_, by simp⟩
    have hd : l = l[0] :: l.drop 1 := by
      have := List.drop_eq_getElem_cons hpos
      simpa using this
    rw [rise]
    conv => lhs; rw [hd]
    rfl
  · rintro J hJ m S ⟨j, hj, rfl, ha, rfl⟩
    by_cases hlt : j + 1 < l.length
    · have hd : l.drop (j + 1) = l[j + 1] :: l.drop (j + 1 + 1) := by simp
      rw [hd, allP] at ha
      simp only [riseQ] at ha
      have hlt' : (j : Int) + 1 < l.length := by omega
      have hn1 : ((j : Int) + 1).toNat = j + 1 := by omega
      simp [hκ, hlt, hj, hlt', hn1]
      refine andK_i (by omega) fun _ => andK_i (by omega) fun _ => condB_i (fun hs => ?_) (fun hs => ?_)
      · refine andK_i (by omega) fun _ => ?_
        rw [hs, Bool.true_and] at ha
        exact again_i hJ (m := l.length - (j + 1)) (by omega) ⟨j + 1, hlt, rfl, ha, by simp⟩
      · rw [ha, hs]; rfl
    · have hlt' : ¬ ((j : Int) + 1 < l.length) := by omega
      have hd : l.drop (j + 1) = [] := List.drop_eq_nil_iff.2 (by omega)
      rw [hd] at ha
      simp [hκ, hlt', ha, allP]
def md60 : Modes where
  call := callM
  br := fun _ => false
  plan := fun _ => .fin
@[simp] theorem md60_call (f i : Nat) : md60.call f i = callM f i := rfl
@[simp] theorem md60_br : md60.br = fun _ => false := rfl
def names (l : List Str) : Bool := l.all nameOk && rise l
theorem names_ok (κ : Knd) (hκ : κ ≠ .own) (l : List Str) (hl : l.length ≤ 1048576) (hz : ∀ s ∈ l, s.length ≤ 1048576) :
    ACall PP 60 [.tmp (.tr (.sl κ () 1 (enc cS l)))] [] (.tmp (.tr (.bool (names l)))) [] [] := by
  refine ACall_intro md60 (na := 1) (bx := []) (by kernel_rfl) Tryz.func60 rfl rfl rfl (by simp [noBoR, noBoV, noBoL, noBoT]) (by simp [noBoL, noBoT]) (by simp [noBoRow, noBoT]) rfl rfl ?_
  simp [hκ]
  refine vc_loop2 [0, 5, 6, 7] (fun m S => ∃ (i : Nat), m = l.length - i ∧ i ≤ l.length ∧ l.all nameOk = (l.drop i).all nameOk ∧
    S = [(0, .tmp (.tr (.sl κ () 1 (enc cS l)))), (5, .tmp (.tr (.sl κ () 1 (enc cS l)))), (6, .tmp (.tr (.int .i64 l.length))), (7, .tmp (.tr (.int .i64 i)))]) l.length ?_ ?_
  · exact ⟨0, by simp, by simp, by simp, by simp⟩
  · rintro J hJ m S ⟨i, rfl, hi, ha, rfl⟩
    by_cases hlt : i < l.length
    · have hd : l.drop i = l[i] :: l.drop (i + 1) := by simp
      rw [hd, List.all_cons] at ha
      simp [hκ, hlt]
      refine callK_of (isName_ok l[i] (hz _ (List.getElem_mem hlt))) ?_
      simp [hκ, hlt]
      refine condB_i (fun hs => ?_) (fun hs => ?_)
      · refine andK_i (by omega) fun _ => ?_
        rw [hs, Bool.true_and] at ha
        exact again_i hJ (m := l.length - (i + 1)) (by omega) ⟨i + 1, rfl, by omega, ha, by simp⟩
      · simp at hs
        simp [names, ha, hs]
    · obtain rfl : i = l.length := by omega
      have ha : l.all nameOk = true := by simpa using ha
      simp [hκ]
      refine callK_of (rising_ok _ (by simp [hκ]) l (by omega)) ?_
      simp [names, ha]
def md65 : Modes where
  call := callM
  br := fun _ => false
  plan := fun _ => .fin
@[simp] theorem md65_call (f i : Nat) : md65.call f i = callM f i := rfl
@[simp] theorem md65_br : md65.br = fun _ => false := rfl
def placeF (p : GPlant) (n : Str) : GPlantPlace := (p.Places.find? fun x => decide (x.Name = n)).getD ⟨[], 0, []⟩
def placeB (p : GPlant) (n : Str) : Bool := (p.Places.find? fun x => decide (x.Name = n)).isSome
theorem place_ok (κ : Knd) (hκ : κ ≠ .own) (p : GPlant) (n : Str) (hl : p.Places.length ≤ 1048576) :
    ACall PP 65 [.tmp (.agg [.tr (.sl κ () 1 (enc cS p.Stuffs)), .tr (.sl κ () 2 (enc cPlantFoe p.Foes)), .tr (.sl κ () 3 (enc cPlantPlace p.Places)), .tr (.sl κ () 4 (enc cPlantValve p.Valves))]), .tmp (.tr (.str n))] []
      (.tmp (.tup [.agg [.tr (.str (placeF p n).Name), .tr (.int .i64 (placeF p n).Cap), .tr (.str (placeF p n).Station)], .tr (.bool (placeB p n))])) [] [] := by
  refine ACall_intro md65 (na := 2) (bx := []) (by kernel_rfl) Tryz.func65 rfl rfl rfl (by simp [noBoR, noBoV, noBoL, noBoT]) (by simp [noBoL, noBoT]) (by simp [noBoRow, noBoT]) rfl rfl ?_
  simp [hκ]
  refine vc_loop2 [1, 4, 9, 10, 11] (fun m S => ∃ (i : Nat), m = p.Places.length - i ∧ i ≤ p.Places.length ∧ (p.Places.find? fun x => decide (x.Name = n)) = ((p.Places.drop i).find? fun x => decide (x.Name = n)) ∧
    S = [(1, .tmp (.tr (.str n))), (4, .box () [.tr (.str []), .tr (.int .i64 0), .tr (.str [])]), (9, .tmp (.tr (.sl κ () 3 (enc cPlantPlace p.Places)))), (10, .tmp (.tr (.int .i64 p.Places.length))), (11, .tmp (.tr (.int .i64 i)))]) p.Places.length ?_ ?_
  · exact ⟨0, by simp, by simp, by simp, by simp⟩
  · rintro J hJ m S ⟨i, rfl, hi, ha, rfl⟩
    by_cases hlt : i < p.Places.length
    · have hd : p.Places.drop i = p.Places[i] :: p.Places.drop (i + 1) := by simp
      rw [hd, List.find?_cons] at ha
      by_cases he : p.Places[i].Name = n
      · simp [he] at ha
        simp [hκ, hlt, he, placeF, placeB, ha]
      · simp [he] at ha
        simp [hκ, hlt, he]
        refine andK_i (by omega) fun _ => ?_
        exact again_i hJ (m := p.Places.length - (i + 1)) (by omega) ⟨i + 1, rfl, by omega, ha, by simp⟩
    · obtain rfl : i = p.Places.length := by omega
      have ha : (p.Places.find? fun x => decide (x.Name = n)) = none := by simpa using ha
      simp [hκ, placeF, placeB, ha]
def md99 : Modes where
  call := callM
  br := fun _ => false
  plan := fun _ => .fin
@[simp] theorem md99_call (f i : Nat) : md99.call f i = callM f i := rfl
@[simp] theorem md99_br : md99.br = fun _ => false := rfl
def valveF (p : GPlant) (n : Str) : GPlantValve := (p.Valves.find? fun x => decide (x.Name = n)).getD ⟨[], [], [], []⟩
def valveB (p : GPlant) (n : Str) : Bool := (p.Valves.find? fun x => decide (x.Name = n)).isSome
theorem valve_ok (κ : Knd) (hκ : κ ≠ .own) (p : GPlant) (n : Str) (hl : p.Valves.length ≤ 1048576) :
    ACall PP 99 [.tmp (.agg [.tr (.sl κ () 1 (enc cS p.Stuffs)), .tr (.sl κ () 2 (enc cPlantFoe p.Foes)), .tr (.sl κ () 3 (enc cPlantPlace p.Places)), .tr (.sl κ () 4 (enc cPlantValve p.Valves))]), .tmp (.tr (.str n))] []
      (.tmp (.tup [.agg [.tr (.str (valveF p n).Name), .tr (.str (valveF p n).A), .tr (.str (valveF p n).B), .tr (.str (valveF p n).Station)], .tr (.bool (valveB p n))])) [] [] := by
  refine ACall_intro md99 (na := 2) (bx := []) (by kernel_rfl) Tryz.func99 rfl rfl rfl (by simp [noBoR, noBoV, noBoL, noBoT]) (by simp [noBoL, noBoT]) (by simp [noBoRow, noBoT]) rfl rfl ?_
  simp [hκ]
  refine vc_loop2 [1, 4, 9, 10, 11] (fun m S => ∃ (i : Nat), m = p.Valves.length - i ∧ i ≤ p.Valves.length ∧ (p.Valves.find? fun x => decide (x.Name = n)) = ((p.Valves.drop i).find? fun x => decide (x.Name = n)) ∧
    S = [(1, .tmp (.tr (.str n))), (4, .box () [.tr (.str []), .tr (.str []), .tr (.str []), .tr (.str [])]), (9, .tmp (.tr (.sl κ () 4 (enc cPlantValve p.Valves)))), (10, .tmp (.tr (.int .i64 p.Valves.length))), (11, .tmp (.tr (.int .i64 i)))]) p.Valves.length ?_ ?_
  · exact ⟨0, by simp, by simp, by simp, by simp⟩
  · rintro J hJ m S ⟨i, rfl, hi, ha, rfl⟩
    by_cases hlt : i < p.Valves.length
    · have hd : p.Valves.drop i = p.Valves[i] :: p.Valves.drop (i + 1) := by simp
      rw [hd, List.find?_cons] at ha
      by_cases he : p.Valves[i].Name = n
      · simp [he] at ha
        simp [hκ, hlt, he, valveF, valveB, ha]
      · simp [he] at ha
        simp [hκ, hlt, he]
        refine andK_i (by omega) fun _ => ?_
        exact again_i hJ (m := p.Valves.length - (i + 1)) (by omega) ⟨i + 1, rfl, by omega, ha, by simp⟩
    · obtain rfl : i = p.Valves.length := by omega
      have ha : (p.Valves.find? fun x => decide (x.Name = n)) = none := by simpa using ha
      simp [hκ, valveF, valveB, ha]
def md80 : Modes where
  call := callM
  br := fun _ => false
  plan := fun _ => .fin
@[simp] theorem md80_call (f i : Nat) : md80.call f i = callM f i := rfl
@[simp] theorem md80_br : md80.br = fun _ => false := rfl
theorem l2Place_ok (κ : Knd) (hκ : κ ≠ .own) (p : GPlant) (n : Str) (hl : p.Places.length ≤ 1048576) :
    ACall PP 80 [.tmp (.agg [.tr (.sl κ () 1 (enc cS p.Stuffs)), .tr (.sl κ () 2 (enc cPlantFoe p.Foes)), .tr (.sl κ () 3 (enc cPlantPlace p.Places)), .tr (.sl κ () 4 (enc cPlantValve p.Valves))]), .tmp (.tr (.str n))] []
      (.tmp (.tr (.int .i64 (ixQ (fun x : GPlantPlace => decide (x.Name = n)) p.Places 0)))) [] [] := by
  refine ACall_intro md80 (na := 2) (bx := []) (by kernel_rfl) Tryz.func80 rfl rfl rfl (by simp [noBoR, noBoV, noBoL, noBoT]) (by simp [noBoL, noBoT]) (by simp [noBoRow, noBoT]) rfl rfl ?_
  simp [hκ]
  refine vc_loop2 [1, 2, 5] (fun m S => ∃ (i : Nat), m = p.Places.length - i ∧ i ≤ p.Places.length ∧ ixQ (fun x : GPlantPlace => decide (x.Name = n)) p.Places 0 = ixQ (fun x : GPlantPlace => decide (x.Name = n)) (p.Places.drop i) i ∧
    S = [(1, .tmp (.tr (.str n))), (2, .box () [.tr (.sl κ () 1 (enc cS p.Stuffs)), .tr (.sl κ () 2 (enc cPlantFoe p.Foes)), .tr (.sl κ () 3 (enc cPlantPlace p.Places)), .tr (.sl κ () 4 (enc cPlantValve p.Valves))]), (5, .tmp (.tr (.int .i64 i)))]) p.Places.length ?_ ?_
  · exact ⟨0, by simp, by simp, by simp, by simp⟩
  · rintro J hJ m S ⟨i, rfl, hi, ha, rfl⟩
    by_cases hlt : i < p.Places.length
    · have hd : p.Places.drop i = p.Places[i] :: p.Places.drop (i + 1) := by simp
      rw [hd, ixQ] at ha
      by_cases he : p.Places[i].Name = n
      · simp [he] at ha
        simp [hκ, hlt, he, ha]
      · simp [he] at ha
        simp [hκ, hlt, he]
        refine andK_i (by omega) fun _ => ?_
        exact again_i hJ (m := p.Places.length - (i + 1)) (by omega) ⟨i + 1, rfl, by omega, ha, by simp⟩
    · obtain rfl : i = p.Places.length := by omega
      simp [ixQ] at ha
      simp [hκ, ha]
end Go.HT
end
section
/-
  DERIVED: THE SHELF's CONTRACTS AT THIS DUMP, IN PLAIN WORDS (tools/lay-plain.mjs out of 'TryzShelf.lean', which tools/lay-shelf.mjs wrote): THE SAME DECLARATIONS UNDER THE SAME NAMES: 'import', 'namespace', 'open', 'def', 'theorem' AND NOTHING ELSE: no command of the shelf's: FOR A HAND-IN. Each laying: the table of numbers ('.._ren') and one theorem, a field a fact of the dump's own or the kernel's comparison; each contract: ONE APPLICATION.
-/

namespace Go.Proofs
open Go.Shelf
def Tryz.lays190_ren : Go.Shelf.Ren := ⟨fun | 190 => 110 | 125 => 104 | 258 => 130 | 128 => 120 | 129 => 121 | 302 => 136 | 303 => 137 | 304 => 138 | 305 => 139 | 306 => 140 | 307 => 141 | 308 => 142 | 309 => 143 | 310 => 144 | 333 => 146 | 329 => 147 | 330 => 148 | 334 => 149 | 335 => 150 | 336 => 151 | 344 => 152 | n => n, fun | 31 => 22 | 9 => 9 | 3 => 3 | 46 => 144 | 0 => 0 | 51 => 153 | 53 => 155 | 4 => 4 | 183 => 173 | 182 => 172 | 131 => 162 | 5 => 5 | 218 => 182 | 222 => 169 | 228 => 185 | 229 => 180 | n => n, fun | n => n⟩
theorem Tryz.lays190 : Go.Proofs.Lays.n190 Tryz.prog Tryz.lays190_ren := {
  mixed := by kernel_rfl
  f125 := Tryz.func104.trans (congrArg some (by kernel_rfl))
  f128 := Tryz.func120.trans (congrArg some (by kernel_rfl))
  f129 := Tryz.func121.trans (congrArg some (by kernel_rfl))
  f190 := Tryz.func110.trans (congrArg some (by kernel_rfl))
  f258 := Tryz.func130.trans (congrArg some (by kernel_rfl))
  f302 := Tryz.func136.trans (congrArg some (by kernel_rfl))
  f303 := Tryz.func137.trans (congrArg some (by kernel_rfl))
  f304 := Tryz.func138.trans (congrArg some (by kernel_rfl))
  f305 := Tryz.func139.trans (congrArg some (by kernel_rfl))
  f306 := Tryz.func140.trans (congrArg some (by kernel_rfl))
  f307 := Tryz.func141.trans (congrArg some (by kernel_rfl))
  f308 := Tryz.func142.trans (congrArg some (by kernel_rfl))
  f309 := Tryz.func143.trans (congrArg some (by kernel_rfl))
  f310 := Tryz.func144.trans (congrArg some (by kernel_rfl))
  f329 := Tryz.func147.trans (congrArg some (by kernel_rfl))
  f330 := Tryz.func148.trans (congrArg some (by kernel_rfl))
  f333 := Tryz.func146.trans (congrArg some (by kernel_rfl))
  f334 := Tryz.func149.trans (congrArg some (by kernel_rfl))
  f335 := Tryz.func150.trans (congrArg some (by kernel_rfl))
  f336 := Tryz.func151.trans (congrArg some (by kernel_rfl))
  f344 := Tryz.func152.trans (congrArg some (by kernel_rfl))
  t0 := Tryz.underlying0
  a0 := Tryz.isAgg0
  z0 := Tryz.sizeOf0
  v0 := Tryz.zeroValue0
  t3 := Tryz.underlying3
  a3 := Tryz.isAgg3
  z3 := Tryz.sizeOf3
  v3 := Tryz.zeroValue3
  t4 := Tryz.underlying4
  a4 := Tryz.isAgg4
  z4 := Tryz.sizeOf4
  v4 := Tryz.zeroValue4
  t5 := Tryz.underlying5
  a5 := Tryz.isAgg5
  z5 := Tryz.sizeOf5
  v5 := Tryz.zeroValue5
  t9 := Tryz.underlying9
  a9 := Tryz.isAgg9
  z9 := Tryz.sizeOf9
  v9 := Tryz.zeroValue9
  t31 := Tryz.underlying22
  a31 := Tryz.isAgg22
  z31 := Tryz.sizeOf22
  v31 := Tryz.zeroValue22
  t46 := Tryz.underlying144
  a46 := Tryz.isAgg144
  z46 := Tryz.sizeOf144
  v46 := Tryz.zeroValue144
  t51 := Tryz.underlying153
  a51 := Tryz.isAgg153
  z51 := Tryz.sizeOf153
  v51 := Tryz.zeroValue153
  t53 := Tryz.underlying155
  a53 := Tryz.isAgg155
  z53 := Tryz.sizeOf155
  v53 := Tryz.zeroValue155
  t131 := Tryz.underlying162
  a131 := Tryz.isAgg162
  z131 := Tryz.sizeOf162
  v131 := Tryz.zeroValue162
  t182 := Tryz.underlying172
  a182 := Tryz.isAgg172
  z182 := Tryz.sizeOf172
  v182 := Tryz.zeroValue172
  t183 := Tryz.underlying173
  a183 := Tryz.isAgg173
  z183 := Tryz.sizeOf173
  v183 := Tryz.zeroValue173
  t218 := Tryz.underlying182
  a218 := Tryz.isAgg182
  z218 := Tryz.sizeOf182
  v218 := Tryz.zeroValue182
  t222 := Tryz.underlying169
  a222 := Tryz.isAgg169
  z222 := Tryz.sizeOf169
  v222 := Tryz.zeroValue169
  t228 := Tryz.underlying185
  a228 := Tryz.isAgg185
  z228 := Tryz.sizeOf185
  v228 := Tryz.zeroValue185
  t229 := Tryz.underlying180
  a229 := Tryz.isAgg180
  z229 := Tryz.sizeOf180
  v229 := Tryz.zeroValue180 }
def Tryz.lays192_ren : Go.Shelf.Ren := ⟨fun | 192 => 100 | 190 => 110 | 125 => 104 | 258 => 130 | 128 => 120 | 129 => 121 | 302 => 136 | 303 => 137 | 304 => 138 | 305 => 139 | 306 => 140 | 307 => 141 | 308 => 142 | 309 => 143 | 310 => 144 | 333 => 146 | 329 => 147 | 330 => 148 | 334 => 149 | 335 => 150 | 336 => 151 | 344 => 152 | n => n, fun | 31 => 22 | 0 => 0 | 9 => 9 | 3 => 3 | 46 => 144 | 51 => 153 | 53 => 155 | 4 => 4 | 183 => 173 | 182 => 172 | 131 => 162 | 5 => 5 | 218 => 182 | 222 => 169 | 228 => 185 | 229 => 180 | n => n, fun | n => n⟩
theorem Tryz.lays192 : Go.Proofs.Lays.n192 Tryz.prog Tryz.lays192_ren := {
  mixed := by kernel_rfl
  f125 := Tryz.func104.trans (congrArg some (by kernel_rfl))
  f128 := Tryz.func120.trans (congrArg some (by kernel_rfl))
  f129 := Tryz.func121.trans (congrArg some (by kernel_rfl))
  f190 := Tryz.func110.trans (congrArg some (by kernel_rfl))
  f192 := Tryz.func100.trans (congrArg some (by kernel_rfl))
  f258 := Tryz.func130.trans (congrArg some (by kernel_rfl))
  f302 := Tryz.func136.trans (congrArg some (by kernel_rfl))
  f303 := Tryz.func137.trans (congrArg some (by kernel_rfl))
  f304 := Tryz.func138.trans (congrArg some (by kernel_rfl))
  f305 := Tryz.func139.trans (congrArg some (by kernel_rfl))
  f306 := Tryz.func140.trans (congrArg some (by kernel_rfl))
  f307 := Tryz.func141.trans (congrArg some (by kernel_rfl))
  f308 := Tryz.func142.trans (congrArg some (by kernel_rfl))
  f309 := Tryz.func143.trans (congrArg some (by kernel_rfl))
  f310 := Tryz.func144.trans (congrArg some (by kernel_rfl))
  f329 := Tryz.func147.trans (congrArg some (by kernel_rfl))
  f330 := Tryz.func148.trans (congrArg some (by kernel_rfl))
  f333 := Tryz.func146.trans (congrArg some (by kernel_rfl))
  f334 := Tryz.func149.trans (congrArg some (by kernel_rfl))
  f335 := Tryz.func150.trans (congrArg some (by kernel_rfl))
  f336 := Tryz.func151.trans (congrArg some (by kernel_rfl))
  f344 := Tryz.func152.trans (congrArg some (by kernel_rfl))
  t0 := Tryz.underlying0
  a0 := Tryz.isAgg0
  z0 := Tryz.sizeOf0
  v0 := Tryz.zeroValue0
  t3 := Tryz.underlying3
  a3 := Tryz.isAgg3
  z3 := Tryz.sizeOf3
  v3 := Tryz.zeroValue3
  t4 := Tryz.underlying4
  a4 := Tryz.isAgg4
  z4 := Tryz.sizeOf4
  v4 := Tryz.zeroValue4
  t5 := Tryz.underlying5
  a5 := Tryz.isAgg5
  z5 := Tryz.sizeOf5
  v5 := Tryz.zeroValue5
  t9 := Tryz.underlying9
  a9 := Tryz.isAgg9
  z9 := Tryz.sizeOf9
  v9 := Tryz.zeroValue9
  t31 := Tryz.underlying22
  a31 := Tryz.isAgg22
  z31 := Tryz.sizeOf22
  v31 := Tryz.zeroValue22
  t46 := Tryz.underlying144
  a46 := Tryz.isAgg144
  z46 := Tryz.sizeOf144
  v46 := Tryz.zeroValue144
  t51 := Tryz.underlying153
  a51 := Tryz.isAgg153
  z51 := Tryz.sizeOf153
  v51 := Tryz.zeroValue153
  t53 := Tryz.underlying155
  a53 := Tryz.isAgg155
  z53 := Tryz.sizeOf155
  v53 := Tryz.zeroValue155
  t131 := Tryz.underlying162
  a131 := Tryz.isAgg162
  z131 := Tryz.sizeOf162
  v131 := Tryz.zeroValue162
  t182 := Tryz.underlying172
  a182 := Tryz.isAgg172
  z182 := Tryz.sizeOf172
  v182 := Tryz.zeroValue172
  t183 := Tryz.underlying173
  a183 := Tryz.isAgg173
  z183 := Tryz.sizeOf173
  v183 := Tryz.zeroValue173
  t218 := Tryz.underlying182
  a218 := Tryz.isAgg182
  z218 := Tryz.sizeOf182
  v218 := Tryz.zeroValue182
  t222 := Tryz.underlying169
  a222 := Tryz.isAgg169
  z222 := Tryz.sizeOf169
  v222 := Tryz.zeroValue169
  t228 := Tryz.underlying185
  a228 := Tryz.isAgg185
  z228 := Tryz.sizeOf185
  v228 := Tryz.zeroValue185
  t229 := Tryz.underlying180
  a229 := Tryz.isAgg180
  z229 := Tryz.sizeOf180
  v229 := Tryz.zeroValue180 }
def Tryz.laysGg6_ren : Go.Shelf.Ren := ⟨fun | 6 => 86 | 10 => 101 | 11 => 102 | 12 => 103 | 13 => 104 | 14 => 105 | 24 => 120 | 25 => 121 | 26 => 122 | 27 => 123 | 28 => 124 | 29 => 125 | 30 => 126 | 31 => 127 | 32 => 128 | 33 => 129 | 34 => 131 | 35 => 132 | 36 => 133 | 37 => 134 | 38 => 135 | 39 => 145 | n => n, fun | 20 => 20 | 26 => 127 | 35 => 138 | 0 => 0 | 37 => 140 | 3 => 3 | 41 => 144 | 44 => 147 | 49 => 153 | 51 => 155 | 4 => 4 | 54 => 158 | 53 => 157 | 58 => 162 | 5 => 5 | 9 => 9 | 60 => 165 | 64 => 169 | 66 => 179 | 67 => 180 | 17 => 17 | 32 => 135 | 33 => 136 | 82 => 200 | 12 => 12 | 75 => 193 | 76 => 194 | 77 => 195 | 78 => 196 | 79 => 197 | 80 => 198 | n => n, fun | n => n⟩
theorem Tryz.laysGg6 : Go.Proofs.LaysGg.n6 Tryz.prog Tryz.laysGg6_ren := {
  mixed := by kernel_rfl
  f6 := Tryz.func86.trans (congrArg some (by kernel_rfl))
  f10 := Tryz.func101.trans (congrArg some (by kernel_rfl))
  f11 := Tryz.func102.trans (congrArg some (by kernel_rfl))
  f12 := Tryz.func103.trans (congrArg some (by kernel_rfl))
  f13 := Tryz.func104.trans (congrArg some (by kernel_rfl))
  f14 := Tryz.func105.trans (congrArg some (by kernel_rfl))
  f24 := Tryz.func120.trans (congrArg some (by kernel_rfl))
  f25 := Tryz.func121.trans (congrArg some (by kernel_rfl))
  f26 := Tryz.func122.trans (congrArg some (by kernel_rfl))
  f27 := Tryz.func123.trans (congrArg some (by kernel_rfl))
  f28 := Tryz.func124.trans (congrArg some (by kernel_rfl))
  f29 := Tryz.func125.trans (congrArg some (by kernel_rfl))
  f30 := Tryz.func126.trans (congrArg some (by kernel_rfl))
  f31 := Tryz.func127.trans (congrArg some (by kernel_rfl))
  f32 := Tryz.func128.trans (congrArg some (by kernel_rfl))
  f33 := Tryz.func129.trans (congrArg some (by kernel_rfl))
  f34 := Tryz.func131.trans (congrArg some (by kernel_rfl))
  f35 := Tryz.func132.trans (congrArg some (by kernel_rfl))
  f36 := Tryz.func133.trans (congrArg some (by kernel_rfl))
  f37 := Tryz.func134.trans (congrArg some (by kernel_rfl))
  f38 := Tryz.func135.trans (congrArg some (by kernel_rfl))
  f39 := Tryz.func145.trans (congrArg some (by kernel_rfl))
  t0 := Tryz.underlying0
  a0 := Tryz.isAgg0
  z0 := Tryz.sizeOf0
  v0 := Tryz.zeroValue0
  i0 := by kernel_rfl
  t3 := Tryz.underlying3
  a3 := Tryz.isAgg3
  z3 := Tryz.sizeOf3
  v3 := Tryz.zeroValue3
  i3 := by kernel_rfl
  t4 := Tryz.underlying4
  a4 := Tryz.isAgg4
  z4 := Tryz.sizeOf4
  v4 := Tryz.zeroValue4
  i4 := by kernel_rfl
  t5 := Tryz.underlying5
  a5 := Tryz.isAgg5
  z5 := Tryz.sizeOf5
  v5 := Tryz.zeroValue5
  i5 := by kernel_rfl
  t9 := Tryz.underlying9
  a9 := Tryz.isAgg9
  z9 := Tryz.sizeOf9
  v9 := Tryz.zeroValue9
  i9 := by kernel_rfl
  t12 := Tryz.underlying12
  a12 := Tryz.isAgg12
  z12 := Tryz.sizeOf12
  v12 := Tryz.zeroValue12
  i12 := by kernel_rfl
  t17 := Tryz.underlying17
  a17 := Tryz.isAgg17
  z17 := Tryz.sizeOf17
  v17 := Tryz.zeroValue17
  i17 := by kernel_rfl
  t20 := Tryz.underlying20
  a20 := Tryz.isAgg20
  z20 := Tryz.sizeOf20
  v20 := Tryz.zeroValue20
  i20 := by kernel_rfl
  t26 := Tryz.underlying127
  a26 := Tryz.isAgg127
  z26 := Tryz.sizeOf127
  v26 := Tryz.zeroValue127
  i26 := by kernel_rfl
  t32 := Tryz.underlying135
  a32 := Tryz.isAgg135
  z32 := Tryz.sizeOf135
  v32 := Tryz.zeroValue135
  i32 := by kernel_rfl
  t33 := Tryz.underlying136
  a33 := Tryz.isAgg136
  z33 := Tryz.sizeOf136
  v33 := Tryz.zeroValue136
  i33 := by kernel_rfl
  t35 := Tryz.underlying138
  a35 := Tryz.isAgg138
  z35 := Tryz.sizeOf138
  v35 := Tryz.zeroValue138
  i35 := by kernel_rfl
  t37 := Tryz.underlying140
  a37 := Tryz.isAgg140
  z37 := Tryz.sizeOf140
  v37 := Tryz.zeroValue140
  i37 := by kernel_rfl
  t41 := Tryz.underlying144
  a41 := Tryz.isAgg144
  z41 := Tryz.sizeOf144
  v41 := Tryz.zeroValue144
  i41 := by kernel_rfl
  t44 := Tryz.underlying147
  a44 := Tryz.isAgg147
  z44 := Tryz.sizeOf147
  v44 := Tryz.zeroValue147
  i44 := by kernel_rfl
  t49 := Tryz.underlying153
  a49 := Tryz.isAgg153
  z49 := Tryz.sizeOf153
  v49 := Tryz.zeroValue153
  i49 := by kernel_rfl
  t51 := Tryz.underlying155
  a51 := Tryz.isAgg155
  z51 := Tryz.sizeOf155
  v51 := Tryz.zeroValue155
  i51 := by kernel_rfl
  t53 := Tryz.underlying157
  a53 := Tryz.isAgg157
  z53 := Tryz.sizeOf157
  v53 := Tryz.zeroValue157
  i53 := by kernel_rfl
  t54 := Tryz.underlying158
  a54 := Tryz.isAgg158
  z54 := Tryz.sizeOf158
  v54 := Tryz.zeroValue158
  i54 := by kernel_rfl
  t58 := Tryz.underlying162
  a58 := Tryz.isAgg162
  z58 := Tryz.sizeOf162
  v58 := Tryz.zeroValue162
  i58 := by kernel_rfl
  t60 := Tryz.underlying165
  a60 := Tryz.isAgg165
  z60 := Tryz.sizeOf165
  v60 := Tryz.zeroValue165
  i60 := by kernel_rfl
  t64 := Tryz.underlying169
  a64 := Tryz.isAgg169
  z64 := Tryz.sizeOf169
  v64 := Tryz.zeroValue169
  i64 := by kernel_rfl
  t66 := Tryz.underlying179
  a66 := Tryz.isAgg179
  z66 := Tryz.sizeOf179
  v66 := Tryz.zeroValue179
  i66 := by kernel_rfl
  t67 := Tryz.underlying180
  a67 := Tryz.isAgg180
  z67 := Tryz.sizeOf180
  v67 := Tryz.zeroValue180
  i67 := by kernel_rfl
  t75 := Tryz.underlying193
  a75 := Tryz.isAgg193
  z75 := Tryz.sizeOf193
  v75 := Tryz.zeroValue193
  i75 := by kernel_rfl
  t76 := Tryz.underlying194
  a76 := Tryz.isAgg194
  z76 := Tryz.sizeOf194
  v76 := Tryz.zeroValue194
  i76 := by kernel_rfl
  t77 := Tryz.underlying195
  a77 := Tryz.isAgg195
  z77 := Tryz.sizeOf195
  v77 := Tryz.zeroValue195
  i77 := by kernel_rfl
  t78 := Tryz.underlying196
  a78 := Tryz.isAgg196
  z78 := Tryz.sizeOf196
  v78 := Tryz.zeroValue196
  i78 := by kernel_rfl
  t79 := Tryz.underlying197
  a79 := Tryz.isAgg197
  z79 := Tryz.sizeOf197
  v79 := Tryz.zeroValue197
  i79 := by kernel_rfl
  t80 := Tryz.underlying198
  a80 := Tryz.isAgg198
  z80 := Tryz.sizeOf198
  v80 := Tryz.zeroValue198
  i80 := by kernel_rfl
  t82 := Tryz.underlying200
  a82 := Tryz.isAgg200
  z82 := Tryz.sizeOf200
  v82 := Tryz.zeroValue200
  i82 := by kernel_rfl }
end Go.Proofs
end
