/- CraftCan's runs. -/
import Derived.Test.YtibknlliackohaaCrU
namespace Go.Proofs.Ytibknlliackohaa
open Go.ChangeShapes Go.WideShapes Go.ChangeAt Go.RowKit Go.Sx
def vecs : Nat → List (List Bool)
  | 0 => [[]]
  | n + 1 => (vecs n).map (true :: ·) ++ (vecs n).map (false :: ·)
theorem vecs_mem : ∀ (v : List Bool), v ∈ vecs v.length
  | [] => by simp [vecs]
  | true :: t => by have := vecs_mem t; simp [vecs, this]
  | false :: t => by have := vecs_mem t; simp [vecs, this]
def canA (l : Rows2) : List Int → List Bool → List Prop → List Prop
  | i :: r, v :: w, acc => canA l r w (((!(v == decide ((makeS l i).2 = 0))) = false) :: (l.length = l.length) :: wfL l :: acc)
  | _, _, acc => acc
def canB (l : Rows2) : List Int → List Bool → List Prop → List Prop
  | i :: r, v :: w, acc => canB l r w ((decide ((makeS l i).2 = 0) = v) :: (l.length = l.length) :: wfL l :: acc)
  | _, _, acc => acc
def seven : List Int := [0, 1, 2, 3, 4, 5, 6]
def canOb (l : Rows2) (v : List Bool) : List Prop := canA l seven v (canB l seven v [decide ((300 : Int) < l.length) = false])
theorem can_tttt : (fun (l : Rows2) => (vecs 3).map (fun v => lw 7 [sl2 0 l] [ro l] (false :: (([true, true, true, true] ++ v) ++ [false, false, false, false, false, false, false])))) = fun l => (vecs 3).map (fun v => some (canOb l ([true, true, true, true] ++ v))) := by kernel_rfl
theorem can_tttf : (fun (l : Rows2) => (vecs 3).map (fun v => lw 7 [sl2 0 l] [ro l] (false :: (([true, true, true, false] ++ v) ++ [false, false, false, false, false, false, false])))) = fun l => (vecs 3).map (fun v => some (canOb l ([true, true, true, false] ++ v))) := by kernel_rfl
theorem can_ttft : (fun (l : Rows2) => (vecs 3).map (fun v => lw 7 [sl2 0 l] [ro l] (false :: (([true, true, false, true] ++ v) ++ [false, false, false, false, false, false, false])))) = fun l => (vecs 3).map (fun v => some (canOb l ([true, true, false, true] ++ v))) := by kernel_rfl
theorem can_ttff : (fun (l : Rows2) => (vecs 3).map (fun v => lw 7 [sl2 0 l] [ro l] (false :: (([true, true, false, false] ++ v) ++ [false, false, false, false, false, false, false])))) = fun l => (vecs 3).map (fun v => some (canOb l ([true, true, false, false] ++ v))) := by kernel_rfl
theorem can_tftt : (fun (l : Rows2) => (vecs 3).map (fun v => lw 7 [sl2 0 l] [ro l] (false :: (([true, false, true, true] ++ v) ++ [false, false, false, false, false, false, false])))) = fun l => (vecs 3).map (fun v => some (canOb l ([true, false, true, true] ++ v))) := by kernel_rfl
theorem can_tftf : (fun (l : Rows2) => (vecs 3).map (fun v => lw 7 [sl2 0 l] [ro l] (false :: (([true, false, true, false] ++ v) ++ [false, false, false, false, false, false, false])))) = fun l => (vecs 3).map (fun v => some (canOb l ([true, false, true, false] ++ v))) := by kernel_rfl
theorem can_tfft : (fun (l : Rows2) => (vecs 3).map (fun v => lw 7 [sl2 0 l] [ro l] (false :: (([true, false, false, true] ++ v) ++ [false, false, false, false, false, false, false])))) = fun l => (vecs 3).map (fun v => some (canOb l ([true, false, false, true] ++ v))) := by kernel_rfl
theorem can_tfff : (fun (l : Rows2) => (vecs 3).map (fun v => lw 7 [sl2 0 l] [ro l] (false :: (([true, false, false, false] ++ v) ++ [false, false, false, false, false, false, false])))) = fun l => (vecs 3).map (fun v => some (canOb l ([true, false, false, false] ++ v))) := by kernel_rfl
theorem can_fttt : (fun (l : Rows2) => (vecs 3).map (fun v => lw 7 [sl2 0 l] [ro l] (false :: (([false, true, true, true] ++ v) ++ [false, false, false, false, false, false, false])))) = fun l => (vecs 3).map (fun v => some (canOb l ([false, true, true, true] ++ v))) := by kernel_rfl
theorem can_fttf : (fun (l : Rows2) => (vecs 3).map (fun v => lw 7 [sl2 0 l] [ro l] (false :: (([false, true, true, false] ++ v) ++ [false, false, false, false, false, false, false])))) = fun l => (vecs 3).map (fun v => some (canOb l ([false, true, true, false] ++ v))) := by kernel_rfl
theorem can_ftft : (fun (l : Rows2) => (vecs 3).map (fun v => lw 7 [sl2 0 l] [ro l] (false :: (([false, true, false, true] ++ v) ++ [false, false, false, false, false, false, false])))) = fun l => (vecs 3).map (fun v => some (canOb l ([false, true, false, true] ++ v))) := by kernel_rfl
theorem can_ftff : (fun (l : Rows2) => (vecs 3).map (fun v => lw 7 [sl2 0 l] [ro l] (false :: (([false, true, false, false] ++ v) ++ [false, false, false, false, false, false, false])))) = fun l => (vecs 3).map (fun v => some (canOb l ([false, true, false, false] ++ v))) := by kernel_rfl
theorem can_fftt : (fun (l : Rows2) => (vecs 3).map (fun v => lw 7 [sl2 0 l] [ro l] (false :: (([false, false, true, true] ++ v) ++ [false, false, false, false, false, false, false])))) = fun l => (vecs 3).map (fun v => some (canOb l ([false, false, true, true] ++ v))) := by kernel_rfl
theorem can_fftf : (fun (l : Rows2) => (vecs 3).map (fun v => lw 7 [sl2 0 l] [ro l] (false :: (([false, false, true, false] ++ v) ++ [false, false, false, false, false, false, false])))) = fun l => (vecs 3).map (fun v => some (canOb l ([false, false, true, false] ++ v))) := by kernel_rfl
theorem can_ffft : (fun (l : Rows2) => (vecs 3).map (fun v => lw 7 [sl2 0 l] [ro l] (false :: (([false, false, false, true] ++ v) ++ [false, false, false, false, false, false, false])))) = fun l => (vecs 3).map (fun v => some (canOb l ([false, false, false, true] ++ v))) := by kernel_rfl
theorem can_ffff : (fun (l : Rows2) => (vecs 3).map (fun v => lw 7 [sl2 0 l] [ro l] (false :: (([false, false, false, false] ++ v) ++ [false, false, false, false, false, false, false])))) = fun l => (vecs 3).map (fun v => some (canOb l ([false, false, false, false] ++ v))) := by kernel_rfl
theorem can_runs (l : Rows2) : ∀ (a b c d : Bool) (v : List Bool), v.length = 3 → lw 7 [sl2 0 l] [ro l] (false :: (([a, b, c, d] ++ v) ++ [false, false, false, false, false, false, false])) = some (canOb l ([a, b, c, d] ++ v)) := fun a b c d v hv => by
  have hm : v ∈ vecs 3 := hv ▸ vecs_mem v
  cases a <;> cases b <;> cases c <;> cases d
  · exact List.map_inj_left.1 (congrFun can_ffff l) v hm
  · exact List.map_inj_left.1 (congrFun can_ffft l) v hm
  · exact List.map_inj_left.1 (congrFun can_fftf l) v hm
  · exact List.map_inj_left.1 (congrFun can_fftt l) v hm
  · exact List.map_inj_left.1 (congrFun can_ftff l) v hm
  · exact List.map_inj_left.1 (congrFun can_ftft l) v hm
  · exact List.map_inj_left.1 (congrFun can_fttf l) v hm
  · exact List.map_inj_left.1 (congrFun can_fttt l) v hm
  · exact List.map_inj_left.1 (congrFun can_tfff l) v hm
  · exact List.map_inj_left.1 (congrFun can_tfft l) v hm
  · exact List.map_inj_left.1 (congrFun can_tftf l) v hm
  · exact List.map_inj_left.1 (congrFun can_tftt l) v hm
  · exact List.map_inj_left.1 (congrFun can_ttff l) v hm
  · exact List.map_inj_left.1 (congrFun can_ttft l) v hm
  · exact List.map_inj_left.1 (congrFun can_tttf l) v hm
  · exact List.map_inj_left.1 (congrFun can_tttt l) v hm
theorem can_long : (fun (l : Rows2) => lw 7 [sl2 0 l] [ro l] [true]) = fun (l : Rows2) => some ([decide ((300 : Int) < (↑(List.length l) : Int)) = true]) := by kernel_rfl
end Go.Proofs.Ytibknlliackohaa
