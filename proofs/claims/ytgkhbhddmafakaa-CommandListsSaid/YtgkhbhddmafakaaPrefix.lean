/- Varints are told apart without their lengths. -/
import Derived.Test.YtgkhbhddmafakaaVint
namespace Go.Proofs.Ytgkhbhddmafakaa
theorem vintN_prefix : ∀ (n m : Nat) (r s : List Int), vintN n ++ r = vintN m ++ s → n = m ∧ r = s := fun n => by
  induction n using Nat.strongRecOn with
  | _ n ih =>
    intro m r s h
    by_cases hn : n < 128
    · by_cases hm : m < 128
      · rw [vintN_small hn, vintN_small hm] at h
        simp only [List.cons_append, List.nil_append, List.cons.injEq] at h
        exact ⟨by omega, h.2⟩
      · rw [vintN_small hn, vintN_big hm] at h
        simp only [List.cons_append, List.nil_append, List.cons.injEq] at h
        omega
    · by_cases hm : m < 128
      · rw [vintN_big hn, vintN_small hm] at h
        simp only [List.cons_append, List.nil_append, List.cons.injEq] at h
        omega
      · rw [vintN_big hn, vintN_big hm] at h
        simp only [List.cons_append, List.cons.injEq] at h
        obtain ⟨h1, h2⟩ := ih (n / 128) (by omega) (m / 128) r s h.2
        exact ⟨by omega, h2⟩
theorem vint_prefix {n m : Int} {r s : List Int} (hn : 0 ≤ n) (hm : 0 ≤ m) (h : vint n ++ r = vint m ++ s) : n = m ∧ r = s := by
  obtain ⟨h1, h2⟩ := vintN_prefix _ _ _ _ h
  exact ⟨by omega, h2⟩
theorem zz_inj {n m : Int} (h : zz n = zz m) : n = m := by
  unfold zz at h
  split at h <;> split at h <;> omega
theorem zz_nonneg (n : Int) : 0 ≤ zz n := by unfold zz; split <;> omega
theorem svint_prefix {n m : Int} {r s : List Int} (h : svint n ++ r = svint m ++ s) : n = m ∧ r = s := by
  obtain ⟨h1, h2⟩ := vint_prefix (zz_nonneg n) (zz_nonneg m) h
  exact ⟨zz_inj h1, h2⟩
/-- bytes, as a string's -/
def u8s (l : List Int) : List UInt8 := l.map fun n => UInt8.ofNat n.toNat
def isB (l : List Int) : Prop := ∀ x ∈ l, 0 ≤ x ∧ x < 256
theorem u8s_inj : ∀ {l m : List Int}, isB l → isB m → u8s l = u8s m → l = m
  | [], [], _, _, _ => rfl
  | [], _ :: _, _, _, h => by simp [u8s] at h
  | _ :: _, [], _, _, h => by simp [u8s] at h
  | x :: l, y :: m, hl, hm, h => by
    simp only [u8s, List.map_cons, List.cons.injEq] at h
    have hx := hl x (by simp)
    have hy := hm y (by simp)
    have h1 := congrArg UInt8.toNat h.1
    simp only [UInt8.toNat_ofNat'] at h1
    rw [Nat.mod_eq_of_lt (by omega), Nat.mod_eq_of_lt (by omega)] at h1
    rw [u8s_inj (fun z hz => hl z (by simp [hz])) (fun z hz => hm z (by simp [hz])) h.2]
    congr 1; omega
theorem u8s_beq {l m : List Int} (hl : isB l) (hm : isB m) : (u8s l == u8s m) = decide (l = m) := by
  by_cases h : l = m
  · subst h; simp
  · have : u8s l ≠ u8s m := fun e => h (u8s_inj hl hm e)
    simp [h, this]
theorem isB_vint (n : Int) : isB (vint n) := vintN_byte _
theorem isB_svint (n : Int) : isB (svint n) := vintN_byte _
theorem isB_app {l m : List Int} (hl : isB l) (hm : isB m) : isB (l ++ m) := fun x hx => by
  rcases List.mem_append.1 hx with h | h
  · exact hl x h
  · exact hm x h
theorem isB_take {l : List Int} (n : Nat) (hl : isB l) : isB (l.take n) := fun x hx => hl x (List.mem_of_mem_take hx)
theorem isB_drop {l : List Int} (n : Nat) (hl : isB l) : isB (l.drop n) := fun x hx => hl x (List.mem_of_mem_drop hx)
theorem svint_le {n : Int} (h : i64 n) : (svint n).length ≤ 10 := vint_le (zz_u64 h)
end Go.Proofs.Ytgkhbhddmafakaa
