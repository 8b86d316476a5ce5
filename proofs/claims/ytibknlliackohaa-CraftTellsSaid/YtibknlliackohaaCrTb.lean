/- CraftTells' runs. -/
import Derived.Test.YtibknlliackohaaRfZ
namespace Go.Proofs.Ytibknlliackohaa
open Go.ChangeShapes Go.WideShapes Go.ChangeAt Go.RowKit Go.Sx
def tabT := tabs [(9, yes), (12, loc w2 (two2 gSame)), (10, loc w1 (one2n gMake)), (11, loc w1 (one2n gMake))]
noncomputable def lwT (args : List V) (m : List SB) (h : List Bool) := obsOf (callN Try.prog tabT (fun _ => false) 100000 4 3 args m h)
def vecs : Nat → List (List Bool)
  | 0 => [[]]
  | n + 1 => (vecs n).map (true :: ·) ++ (vecs n).map (false :: ·)
theorem vecs_mem : ∀ (v : List Bool), v ∈ vecs v.length
  | [] => by simp [vecs]
  | true :: t => by have := vecs_mem t; simp [vecs, this]
  | false :: t => by have := vecs_mem t; simp [vecs, this]
def telB (l k : Rows2) : List Int → List Bool → List Prop → List Prop
  | i :: r, v :: w, acc => telB l k r w ((decide ((makeS k i).2 = 0) = v) :: (l.length = k.length) :: wfL k :: acc)
  | _, _, acc => acc
def seven : List Int := [0, 1, 2, 3, 4, 5, 6]
def telOb (l : Rows2) (n : Int) (v : List Bool) : List Prop :=
  (decide ([] ++ l = l) = true) :: (l.length = ([] ++ l).length) :: (l.length = l.length) :: wfL ([] ++ l) :: wfL l :: telB l l seven v (telB l ([] ++ l) seven v
    [decide ((makeS ([] ++ l) n).2 = (makeS l n).2) = true, decide ((makeS ([] ++ l) n).1 = (makeS l n).1) = true, ([] ++ l).length = (makeS ([] ++ l) n).1.length, l.length = (makeS l n).1.length, wfL (makeS ([] ++ l) n).1, wfL (makeS l n).1,
      l.length = l.length, wfL l, l.length = ([] ++ l).length, wfL ([] ++ l), 0 = 0, l.length = l.length, l.length * 16 ≤ 140737488355328, l.length ≤ 9223372036854775807, decide ((300 : Int) < l.length) = false])
theorem tel_long : (fun (l : Rows2) (n : Int) => lwT [sl2 0 l, si .i64 n] [ro l] [true]) = fun (l : Rows2) (_ : Int) => some ([decide ((300 : Int) < (↑(List.length l) : Int)) = true]) := by kernel_rfl
theorem tel_tttt : (fun (l : Rows2) (n : Int) => (vecs 3).map (fun v => lwT [sl2 0 l, si .i64 n] [ro l] (false :: true :: true :: true :: (([true, true, true, true] ++ v) ++ (([true, true, true, true] ++ v) ++ [true]))))) = fun l n => (vecs 3).map (fun v => some (telOb l n ([true, true, true, true] ++ v))) := by kernel_rfl
theorem tel_tttf : (fun (l : Rows2) (n : Int) => (vecs 3).map (fun v => lwT [sl2 0 l, si .i64 n] [ro l] (false :: true :: true :: true :: (([true, true, true, false] ++ v) ++ (([true, true, true, false] ++ v) ++ [true]))))) = fun l n => (vecs 3).map (fun v => some (telOb l n ([true, true, true, false] ++ v))) := by kernel_rfl
theorem tel_ttft : (fun (l : Rows2) (n : Int) => (vecs 3).map (fun v => lwT [sl2 0 l, si .i64 n] [ro l] (false :: true :: true :: true :: (([true, true, false, true] ++ v) ++ (([true, true, false, true] ++ v) ++ [true]))))) = fun l n => (vecs 3).map (fun v => some (telOb l n ([true, true, false, true] ++ v))) := by kernel_rfl
theorem tel_ttff : (fun (l : Rows2) (n : Int) => (vecs 3).map (fun v => lwT [sl2 0 l, si .i64 n] [ro l] (false :: true :: true :: true :: (([true, true, false, false] ++ v) ++ (([true, true, false, false] ++ v) ++ [true]))))) = fun l n => (vecs 3).map (fun v => some (telOb l n ([true, true, false, false] ++ v))) := by kernel_rfl
theorem tel_tftt : (fun (l : Rows2) (n : Int) => (vecs 3).map (fun v => lwT [sl2 0 l, si .i64 n] [ro l] (false :: true :: true :: true :: (([true, false, true, true] ++ v) ++ (([true, false, true, true] ++ v) ++ [true]))))) = fun l n => (vecs 3).map (fun v => some (telOb l n ([true, false, true, true] ++ v))) := by kernel_rfl
theorem tel_tftf : (fun (l : Rows2) (n : Int) => (vecs 3).map (fun v => lwT [sl2 0 l, si .i64 n] [ro l] (false :: true :: true :: true :: (([true, false, true, false] ++ v) ++ (([true, false, true, false] ++ v) ++ [true]))))) = fun l n => (vecs 3).map (fun v => some (telOb l n ([true, false, true, false] ++ v))) := by kernel_rfl
theorem tel_tfft : (fun (l : Rows2) (n : Int) => (vecs 3).map (fun v => lwT [sl2 0 l, si .i64 n] [ro l] (false :: true :: true :: true :: (([true, false, false, true] ++ v) ++ (([true, false, false, true] ++ v) ++ [true]))))) = fun l n => (vecs 3).map (fun v => some (telOb l n ([true, false, false, true] ++ v))) := by kernel_rfl
theorem tel_tfff : (fun (l : Rows2) (n : Int) => (vecs 3).map (fun v => lwT [sl2 0 l, si .i64 n] [ro l] (false :: true :: true :: true :: (([true, false, false, false] ++ v) ++ (([true, false, false, false] ++ v) ++ [true]))))) = fun l n => (vecs 3).map (fun v => some (telOb l n ([true, false, false, false] ++ v))) := by kernel_rfl
theorem tel_fttt : (fun (l : Rows2) (n : Int) => (vecs 3).map (fun v => lwT [sl2 0 l, si .i64 n] [ro l] (false :: true :: true :: true :: (([false, true, true, true] ++ v) ++ (([false, true, true, true] ++ v) ++ [true]))))) = fun l n => (vecs 3).map (fun v => some (telOb l n ([false, true, true, true] ++ v))) := by kernel_rfl
theorem tel_fttf : (fun (l : Rows2) (n : Int) => (vecs 3).map (fun v => lwT [sl2 0 l, si .i64 n] [ro l] (false :: true :: true :: true :: (([false, true, true, false] ++ v) ++ (([false, true, true, false] ++ v) ++ [true]))))) = fun l n => (vecs 3).map (fun v => some (telOb l n ([false, true, true, false] ++ v))) := by kernel_rfl
theorem tel_ftft : (fun (l : Rows2) (n : Int) => (vecs 3).map (fun v => lwT [sl2 0 l, si .i64 n] [ro l] (false :: true :: true :: true :: (([false, true, false, true] ++ v) ++ (([false, true, false, true] ++ v) ++ [true]))))) = fun l n => (vecs 3).map (fun v => some (telOb l n ([false, true, false, true] ++ v))) := by kernel_rfl
theorem tel_ftff : (fun (l : Rows2) (n : Int) => (vecs 3).map (fun v => lwT [sl2 0 l, si .i64 n] [ro l] (false :: true :: true :: true :: (([false, true, false, false] ++ v) ++ (([false, true, false, false] ++ v) ++ [true]))))) = fun l n => (vecs 3).map (fun v => some (telOb l n ([false, true, false, false] ++ v))) := by kernel_rfl
theorem tel_fftt : (fun (l : Rows2) (n : Int) => (vecs 3).map (fun v => lwT [sl2 0 l, si .i64 n] [ro l] (false :: true :: true :: true :: (([false, false, true, true] ++ v) ++ (([false, false, true, true] ++ v) ++ [true]))))) = fun l n => (vecs 3).map (fun v => some (telOb l n ([false, false, true, true] ++ v))) := by kernel_rfl
theorem tel_fftf : (fun (l : Rows2) (n : Int) => (vecs 3).map (fun v => lwT [sl2 0 l, si .i64 n] [ro l] (false :: true :: true :: true :: (([false, false, true, false] ++ v) ++ (([false, false, true, false] ++ v) ++ [true]))))) = fun l n => (vecs 3).map (fun v => some (telOb l n ([false, false, true, false] ++ v))) := by kernel_rfl
theorem tel_ffft : (fun (l : Rows2) (n : Int) => (vecs 3).map (fun v => lwT [sl2 0 l, si .i64 n] [ro l] (false :: true :: true :: true :: (([false, false, false, true] ++ v) ++ (([false, false, false, true] ++ v) ++ [true]))))) = fun l n => (vecs 3).map (fun v => some (telOb l n ([false, false, false, true] ++ v))) := by kernel_rfl
theorem tel_ffff : (fun (l : Rows2) (n : Int) => (vecs 3).map (fun v => lwT [sl2 0 l, si .i64 n] [ro l] (false :: true :: true :: true :: (([false, false, false, false] ++ v) ++ (([false, false, false, false] ++ v) ++ [true]))))) = fun l n => (vecs 3).map (fun v => some (telOb l n ([false, false, false, false] ++ v))) := by kernel_rfl
theorem tel_runs (l : Rows2) (n : Int) : ∀ (a b c d : Bool) (v : List Bool), v.length = 3 → lwT [sl2 0 l, si .i64 n] [ro l] (false :: true :: true :: true :: (([a, b, c, d] ++ v) ++ (([a, b, c, d] ++ v) ++ [true]))) = some (telOb l n ([a, b, c, d] ++ v)) := fun a b c d v hv => by
  have hm : v ∈ vecs 3 := hv ▸ vecs_mem v
  cases a <;> cases b <;> cases c <;> cases d
  · exact List.map_inj_left.1 (congrFun (congrFun tel_ffff l) n) v hm
  · exact List.map_inj_left.1 (congrFun (congrFun tel_ffft l) n) v hm
  · exact List.map_inj_left.1 (congrFun (congrFun tel_fftf l) n) v hm
  · exact List.map_inj_left.1 (congrFun (congrFun tel_fftt l) n) v hm
  · exact List.map_inj_left.1 (congrFun (congrFun tel_ftff l) n) v hm
  · exact List.map_inj_left.1 (congrFun (congrFun tel_ftft l) n) v hm
  · exact List.map_inj_left.1 (congrFun (congrFun tel_fttf l) n) v hm
  · exact List.map_inj_left.1 (congrFun (congrFun tel_fttt l) n) v hm
  · exact List.map_inj_left.1 (congrFun (congrFun tel_tfff l) n) v hm
  · exact List.map_inj_left.1 (congrFun (congrFun tel_tfft l) n) v hm
  · exact List.map_inj_left.1 (congrFun (congrFun tel_tftf l) n) v hm
  · exact List.map_inj_left.1 (congrFun (congrFun tel_tftt l) n) v hm
  · exact List.map_inj_left.1 (congrFun (congrFun tel_ttff l) n) v hm
  · exact List.map_inj_left.1 (congrFun (congrFun tel_ttft l) n) v hm
  · exact List.map_inj_left.1 (congrFun (congrFun tel_tttf l) n) v hm
  · exact List.map_inj_left.1 (congrFun (congrFun tel_tttt l) n) v hm
end Go.Proofs.Ytibknlliackohaa
