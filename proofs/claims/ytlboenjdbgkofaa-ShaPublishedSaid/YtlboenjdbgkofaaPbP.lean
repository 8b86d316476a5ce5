/- A million bytes: their hash, by a run of the kernel over rounds that are written for it. -/
import Derived.Test.YtlboenjdbgkofaaZaD
namespace Go.Proofs.Ytlboenjdbgkofaa
/-- goes on with a number once it is reckoned -/
noncomputable def frc (x : Nat) (f : Nat → S8) : S8 := Nat.rec (motive := fun _ => S8) (f 0) (fun n _ => f (Nat.succ n)) x
theorem frc_eq (x : Nat) (f : Nat → S8) : frc x f = f x := by cases x <;> rfl
/-- three turns of a word, not cut -/
def tu3 (x i j k : Nat) : Nat := Nat.xor (Nat.xor (Nat.shiftRight (Nat.mul x 4294967297) i) (Nat.shiftRight (Nat.mul x 4294967297) j)) (Nat.shiftRight (Nat.mul x 4294967297) k)
noncomputable def rndK (l : List Nat) : Nat → Nat → Nat → Nat → Nat → Nat → Nat → Nat → (Nat → Nat → Nat → Nat → Nat → Nat → Nat → Nat → S8) → S8 :=
  List.rec (motive := fun _ => Nat → Nat → Nat → Nat → Nat → Nat → Nat → Nat → (Nat → Nat → Nat → Nat → Nat → Nat → Nat → Nat → S8) → S8)
    (fun a b c d e f g h k => k a b c d e f g h)
    (fun w _ ih a b c d e f g h k =>
      (fun y z => (fun x =>
        ih (Nat.mod (Nat.add (Nat.add x (Nat.xor (Nat.xor (Nat.shiftRight z 2) (Nat.shiftRight z 13)) (Nat.shiftRight z 22))) (Nat.lor (Nat.land a b) (Nat.land c (Nat.lor a b)))) 4294967296)
          a b c (Nat.mod (Nat.add d x) 4294967296) e f g k)
        (Nat.add (Nat.add (Nat.add h w) (Nat.xor (Nat.xor (Nat.shiftRight y 6) (Nat.shiftRight y 11)) (Nat.shiftRight y 25))) (Nat.xor g (Nat.land e (Nat.xor f g)))))
      (Nat.mul e 4294967297) (Nat.mul a 4294967297))
    l
def frW (s : S8) (w : Nat) : S8 :=
  ⟨Nat.mod (Nat.add (Nat.add (Nat.add (Nat.add (Nat.add s.h w) (Nat.xor (Nat.xor (Nat.shiftRight (Nat.mul s.e 4294967297) 6) (Nat.shiftRight (Nat.mul s.e 4294967297) 11)) (Nat.shiftRight (Nat.mul s.e 4294967297) 25))) (Nat.xor s.g (Nat.land s.e (Nat.xor s.f s.g)))) (Nat.xor (Nat.xor (Nat.shiftRight (Nat.mul s.a 4294967297) 2) (Nat.shiftRight (Nat.mul s.a 4294967297) 13)) (Nat.shiftRight (Nat.mul s.a 4294967297) 22))) (Nat.lor (Nat.land s.a s.b) (Nat.land s.c (Nat.lor s.a s.b)))) 4294967296,
    s.a, s.b, s.c, Nat.mod (Nat.add s.d (Nat.add (Nat.add (Nat.add s.h w) (Nat.xor (Nat.xor (Nat.shiftRight (Nat.mul s.e 4294967297) 6) (Nat.shiftRight (Nat.mul s.e 4294967297) 11)) (Nat.shiftRight (Nat.mul s.e 4294967297) 25))) (Nat.xor s.g (Nat.land s.e (Nat.xor s.f s.g))))) 4294967296, s.e, s.f, s.g⟩
theorem nmod (a b : Nat) : Nat.mod a b = a % b := rfl
theorem nadd (a b : Nat) : Nat.add a b = a + b := rfl
theorem nmul (a b : Nat) : Nat.mul a b = a * b := rfl
theorem nxor (a b : Nat) : Nat.xor a b = a ^^^ b := rfl
theorem nlor (a b : Nat) : Nat.lor a b = a ||| b := rfl
theorem nland (a b : Nat) : Nat.land a b = a &&& b := rfl
theorem nshr (a b : Nat) : Nat.shiftRight a b = a >>> b := rfl
theorem frW_nice (s : S8) (w : Nat) : frW s w = ⟨(s.h + w + tu3 s.e 6 11 25 + chN s.e s.f s.g + tu3 s.a 2 13 22 + mjN s.a s.b s.c) % 4294967296, s.a, s.b, s.c, (s.d + (s.h + w + tu3 s.e 6 11 25 + chN s.e s.f s.g)) % 4294967296, s.e, s.f, s.g⟩ := by
  unfold frW tu3 chN mjN
  simp only [nmod, nadd, nmul, nxor, nlor, nland, nshr]
theorem rndK_step (k : Nat → Nat → Nat → Nat → Nat → Nat → Nat → Nat → S8) (w : Nat) (l : List Nat) (a b c d e f g h : Nat) : rndK (w :: l) a b c d e f g h k =
    rndK l (Nat.mod (Nat.add (Nat.add (Nat.add (Nat.add (Nat.add h w) (Nat.xor (Nat.xor (Nat.shiftRight (Nat.mul e 4294967297) 6) (Nat.shiftRight (Nat.mul e 4294967297) 11)) (Nat.shiftRight (Nat.mul e 4294967297) 25))) (Nat.xor g (Nat.land e (Nat.xor f g)))) (Nat.xor (Nat.xor (Nat.shiftRight (Nat.mul a 4294967297) 2) (Nat.shiftRight (Nat.mul a 4294967297) 13)) (Nat.shiftRight (Nat.mul a 4294967297) 22))) (Nat.lor (Nat.land a b) (Nat.land c (Nat.lor a b)))) 4294967296)
      a b c (Nat.mod (Nat.add d (Nat.add (Nat.add (Nat.add h w) (Nat.xor (Nat.xor (Nat.shiftRight (Nat.mul e 4294967297) 6) (Nat.shiftRight (Nat.mul e 4294967297) 11)) (Nat.shiftRight (Nat.mul e 4294967297) 25))) (Nat.xor g (Nat.land e (Nat.xor f g))))) 4294967296) e f g k := by kernel_rfl
def at8 (k : Nat → Nat → Nat → Nat → Nat → Nat → Nat → Nat → S8) (t : S8) : S8 := k t.a t.b t.c t.d t.e t.f t.g t.h
theorem rndK_eq (k : Nat → Nat → Nat → Nat → Nat → Nat → Nat → Nat → S8) (l : List Nat) : ∀ s : S8, rndK l s.a s.b s.c s.d s.e s.f s.g s.h k = at8 k (l.foldl frW s) := by
  induction l with
  | nil => intro s; exact Eq.refl (at8 k s)
  | cons w l ih =>
    intro s
    have h := ih (frW s w)
    rw [List.foldl_cons, ← h, rndK_step]
    generalize hq : frW s w = q
    unfold frW at hq
    subst hq
    dsimp only
theorem shr_mod {x k : Nat} (hx : x < 4294967296) (hk : k ≤ 32) : Nat.shiftRight (Nat.mul x 4294967297) k % 4294967296 = rr x k := by
  have e1 : Nat.shiftRight (Nat.mul x 4294967297) k = x * 2 ^ (32 - k) + x / 2 ^ k := by
    show (x * 4294967297) >>> k = _
    rw [Nat.shiftRight_eq_div_pow]
    have h2 : 2 ^ (32 - k) * 2 ^ k = 4294967296 := by rw [← Nat.pow_add, Nat.sub_add_cancel hk]
    have h3 : x * 4294967297 = x + x * 2 ^ (32 - k) * 2 ^ k := by rw [Nat.mul_assoc, h2]; omega
    rw [h3, Nat.add_mul_div_right _ _ (Nat.two_pow_pos k), Nat.add_comm]
  rw [e1]
  unfold rr
  have h4 : x / 2 ^ k < 2 ^ (32 - k) := by
    rw [Nat.div_lt_iff_lt_mul (Nat.two_pow_pos k), ← Nat.pow_add, Nat.sub_add_cancel hk]; exact hx
  have h5 : x * 2 ^ (32 - k) % 4294967296 = 2 ^ (32 - k) * (x % 2 ^ k) := by
    have : (4294967296 : Nat) = 2 ^ (32 - k) * 2 ^ k := by rw [← Nat.pow_add, Nat.sub_add_cancel hk]
    rw [this, Nat.mul_comm x, Nat.mul_mod_mul_left]
  rw [h5, ← Nat.two_pow_add_eq_or_of_lt h4, Nat.add_mod, h5]
  have h6 : x / 2 ^ k < 4294967296 := dv_lt _ hx
  rw [Nat.mod_eq_of_lt h6, Nat.mod_eq_of_lt]
  have h7 : x % 2 ^ k < 2 ^ k := Nat.mod_lt _ (Nat.two_pow_pos k)
  have h8 : 2 ^ (32 - k) * (x % 2 ^ k) + 2 ^ (32 - k) ≤ 2 ^ (32 - k) * 2 ^ k := by
    rw [← Nat.mul_succ]; exact Nat.mul_le_mul_left _ h7
  have h9 : 2 ^ (32 - k) * 2 ^ k = 4294967296 := by rw [← Nat.pow_add, Nat.sub_add_cancel hk]
  omega
theorem tu3_mod {x i j k : Nat} (hx : x < 4294967296) (hi : i ≤ 32) (hj : j ≤ 32) (hk : k ≤ 32) : tu3 x i j k % 4294967296 = thrN x i j k := by
  show ((Nat.shiftRight (Nat.mul x 4294967297) i ^^^ Nat.shiftRight (Nat.mul x 4294967297) j) ^^^ Nat.shiftRight (Nat.mul x 4294967297) k) % 2 ^ 32 = _
  rw [Nat.xor_mod_two_pow, Nat.xor_mod_two_pow]
  show ((_ % 4294967296 ^^^ _ % 4294967296) ^^^ _ % 4294967296) = _
  rw [shr_mod hx hi, shr_mod hx hj, shr_mod hx hk]
  rfl
theorem frW_eq {s : S8} {k w : Nat} (ha : s.a < 4294967296) (he : s.e < 4294967296) : frW s ((k + w) % 4294967296) = st8 k w s := by
  have h1 := tu3_mod (i := 6) (j := 11) (k := 25) he (by decide) (by decide) (by decide)
  have h2 := tu3_mod (i := 2) (j := 13) (k := 22) ha (by decide) (by decide) (by decide)
  rw [frW_nice]
  unfold st8 x8 m32
  rw [← h1, ← h2]
  generalize tu3 s.e 6 11 25 = p
  generalize tu3 s.a 2 13 22 = q
  generalize chN s.e s.f s.g = c
  generalize mjN s.a s.b s.c = m
  congr 1 <;> omega
theorem fold_eq {R w : List Nat} {s : S8} (ha : s.a < 4294967296) (he : s.e < 4294967296) : ∀ t, ((List.range t).map fun i => (R.getD i 0 + w.getD i 0) % 4294967296).foldl frW s = rs8 R w s t ∧ (rs8 R w s t).a < 4294967296 ∧ (rs8 R w s t).e < 4294967296
  | 0 => ⟨rfl, ha, he⟩
  | t + 1 => by
    obtain ⟨h1, h2, h3⟩ := fold_eq (R := R) (w := w) ha he t
    refine ⟨?_, m32_lt _, m32_lt _⟩
    rw [List.range_succ, List.map_append, List.foldl_append, h1]
    exact frW_eq h2 h3
def itS (l : List Nat) : Nat → S8 → S8
  | 0, s => s
  | n + 1, s => itS l n (ad8 s (l.foldl frW s))
noncomputable def itK (l : List Nat) (n : Nat) : Nat → Nat → Nat → Nat → Nat → Nat → Nat → Nat → S8 :=
  Nat.rec (motive := fun _ => Nat → Nat → Nat → Nat → Nat → Nat → Nat → Nat → S8)
    (fun a b c d e f g h => ⟨a, b, c, d, e, f, g, h⟩)
    (fun _ ih a b c d e f g h => rndK l a b c d e f g h fun a' b' c' d' e' f' g' h' =>
      frc (Nat.mod (Nat.add a a') 4294967296) fun a => frc (Nat.mod (Nat.add b b') 4294967296) fun b => frc (Nat.mod (Nat.add c c') 4294967296) fun c => frc (Nat.mod (Nat.add d d') 4294967296) fun d =>
      frc (Nat.mod (Nat.add e e') 4294967296) fun e => frc (Nat.mod (Nat.add f f') 4294967296) fun f => frc (Nat.mod (Nat.add g g') 4294967296) fun g => frc (Nat.mod (Nat.add h h') 4294967296) fun h => ih a b c d e f g h)
    n
theorem itK_step (l : List Nat) (n : Nat) (s : S8) : itK l (n + 1) s.a s.b s.c s.d s.e s.f s.g s.h = rndK l s.a s.b s.c s.d s.e s.f s.g s.h fun a' b' c' d' e' f' g' h' =>
    frc (Nat.mod (Nat.add s.a a') 4294967296) fun a => frc (Nat.mod (Nat.add s.b b') 4294967296) fun b => frc (Nat.mod (Nat.add s.c c') 4294967296) fun c => frc (Nat.mod (Nat.add s.d d') 4294967296) fun d =>
    frc (Nat.mod (Nat.add s.e e') 4294967296) fun e => frc (Nat.mod (Nat.add s.f f') 4294967296) fun f => frc (Nat.mod (Nat.add s.g g') 4294967296) fun g => frc (Nat.mod (Nat.add s.h h') 4294967296) fun h => itK l n a b c d e f g h := by kernel_rfl
theorem itK_eq (l : List Nat) : ∀ (n : Nat) (s : S8), itK l n s.a s.b s.c s.d s.e s.f s.g s.h = itS l n s
  | 0, _ => by kernel_rfl
  | n + 1, s => by
    rw [itK_step, rndK_eq]
    have h := itK_eq l n (ad8 s (l.foldl frW s))
    simp only [ad8, m32] at h
    simp only [frc_eq, at8, nmod, nadd]
    exact h
theorem itS_add (l : List Nat) : ∀ (m n : Nat) (s : S8), itS l (m + n) s = itS l n (itS l m s)
  | 0, n, s => by rw [Nat.zero_add]; rfl
  | m + 1, n, s => by rw [Nat.add_right_comm]; exact itS_add l m n _
def kwA : List Nat := [2750124281, 3533219314, 388128048, 1259814150, 2595759036, 3142742866, 4087407621, 209567798, 963185657, 1944370274, 2240997151, 3060653860, 3558850261, 3795850079, 4248659976, 587027157, 3667503101, 3854337474, 1109373709, 1449834259, 1332383432, 1811277571, 1402599420, 41923541, 356419487, 2728937732, 4167673427, 1780128268, 3506461443, 1927923708, 3100717738, 957412701, 3211936012, 2525724465, 897656708, 2750766458, 3733122911, 1490448492, 1007131835, 215170638, 199900175, 3051847127, 2546784594, 1198467073, 1121424104, 1993824782, 4206943767, 1385611443, 2838015846, 320495253, 2870002303, 616322403, 3868675357, 810932918, 4192983651, 4114851946, 2567787456, 3518289627, 3043469264, 3431775655, 2875437985, 3700493388, 2838780141, 3572068108]
end Go.Proofs.Ytlboenjdbgkofaa
