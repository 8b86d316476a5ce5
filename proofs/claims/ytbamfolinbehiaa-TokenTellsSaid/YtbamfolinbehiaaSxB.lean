/- The symbolic evaluator: operators, conversions, cuts. -/
import Derived.Test.YtbamfolinbehiaaSxA
import Derived.WalkLawsBesides
import Derived.WalkSpells
namespace Go.Sx
open Go Go.RowKit
def Pure (P : Program) (s : Sem Value) (ρ : Env) (v : V) : Prop := ∃ u, v.rel ρ u ∧ ∀ w, s.run P w = .ok u w
theorem mkPure {P : Program} {s : Sem Value} {ρ : Env} {c : C} {u : Value} (h : ∀ w, s.run P w = .ok u w) (hc : c.rel ρ u) (h1 : u.oneCell' = true) : Pure P s ρ (.v (.one c)) :=
 ⟨u, ⟨hc, h1⟩, h⟩
theorem one_eq {c : C} {v : V} {ps : List Prop} (h : one c = some (v, ps)) : v = .v (.one c) ∧ ps = [] := by
 unfold one at h; injection h with h; injection h with h1 h2; exact ⟨h1.symm, h2.symm⟩
theorem oneP_eq {c : C} {v : V} {qs ps : List Prop} (h : oneP c qs = some (v, ps)) : v = .v (.one c) ∧ ps = qs := by
 unfold oneP at h; injection h with h; injection h with h1 h2; exact ⟨h1.symm, h2.symm⟩
section
variable {P : Program} {ρ : Env}
theorem arRun {op : BinOp} {k : IntKind} {x y n : Int} (xt : TypeId) (h : arI op x y = some n) (w : World) : (binOp op xt (.int k x) (.int k y)).run P w = .ok (.int k (k.wrap n)) w := by
 cases op <;> simp only [arI, reduceCtorEq, Option.some.injEq] at h <;> subst h <;> simp only [binOp_add, binOp_sub, binOp_mul, Op.intArith] <;> rfl
theorem bitRun {op : BinOp} {k : IntKind} {x y n : Int} (xt : TypeId) (h : bitI op k x y = some n) (w : World) : (binOp op xt (.int k x) (.int k y)).run P w = .ok (.int k n) w := by
 cases op <;> simp only [bitI, reduceCtorEq, Option.some.injEq] at h <;> subst h <;> simp only [binOp_and, binOp_or, binOp_xor, binOp_andNot] <;> rfl
theorem cmpRun {op : BinOp} {k : IntKind} {x y : Int} {b : Bool} (xt : TypeId) (h : cmpI op x y = some b) (w : World) : (binOp op xt (.int k x) (.int k y)).run P w = .ok (.bool b) w := by
 cases op <;> simp only [cmpI, reduceCtorEq, Option.some.injEq] at h <;> subst h <;> simp only [binOp_eql, binOp_neq, binOp_lss, binOp_leq, binOp_gtr, binOp_geq] <;> rfl
theorem quoRun {k : IntKind} {x y : Int} (xt : TypeId) (h : y ≠ 0) (w : World) : (binOp .quo xt (.int k x) (.int k y)).run P w = .ok (.int k (k.wrap (x.tdiv y))) w := by
 simp only [binOp_quo, Op.intDiv, if_neg h]; rfl
theorem remRun {k : IntKind} {x y : Int} (xt : TypeId) (h : y ≠ 0) (w : World) : (binOp .rem xt (.int k x) (.int k y)).run P w = .ok (.int k (x.tmod y)) w := by
 simp only [binOp_rem, Op.intDiv, if_neg h]; rfl
theorem binCC_sound {op : BinOp} {k : IntKind} {x y : Int} {v : V} {ps : List Prop} (xt : TypeId) (h : binCC op k x y = some (v, ps)) :
  Pure P (binOp op xt (.int k x) (.int k y)) ρ v := by
 unfold binCC at h
 split at h
 ·split at h
  ·rename_i n hn
   obtain ⟨rfl, _⟩ := one_eq h
   exact mkPure (arRun xt hn) rfl rfl
  ·cases h
 ·split at h
  ·cases h
  ·rename_i hy
   have hy' : y ≠ 0 := by simpa using hy
   split at h
   ·obtain ⟨rfl, _⟩ := one_eq h
    exact mkPure (quoRun xt hy') rfl rfl
   ·obtain ⟨rfl, _⟩ := one_eq h
    exact mkPure (remRun xt hy') rfl rfl
   ·cases h
 ·split at h
  ·rename_i n hn
   obtain ⟨rfl, _⟩ := one_eq h
   exact mkPure (bitRun xt hn) rfl rfl
  ·cases h
 ·cases h
 ·split at h
  ·rename_i n hn
   obtain ⟨rfl, _⟩ := one_eq h
   exact mkPure (cmpRun xt hn) rfl rfl
  ·cases h
theorem mem1 {p : Prop} {ps qs : List Prop} (h : ps = p :: qs) (hp : ∀ p ∈ ps, p) : p ∧ ∀ p ∈ qs, p := by
 subst h; exact ⟨hp _ (by simp), fun q hq => hp q (by simp [hq])⟩
theorem wrap_in {k : IntKind} {n : Int} (h : inK k n) : k.wrap n = n := by
 obtain ⟨h1, h2⟩ := h
 cases k <;> simp [IntKind.wrap, IntKind.min, IntKind.max, IntKind.signed, IntKind.bits] at * <;> omega
theorem binSS_sound {op : BinOp} {k : IntKind} {x y : Int} {v : V} {ps : List Prop} (xt : TypeId) (h : binSS op k x y = some (v, ps)) (hp : ∀ p ∈ ps, p) :
  Pure P (binOp op xt (.int k x) (.int k y)) ρ v := by
 unfold binSS at h
 split at h
 ·split at h
  ·rename_i n hn
   split at h
   ·obtain ⟨rfl, hps⟩ := oneP_eq h
    have hw := wrap_in (mem1 hps hp).1
    exact mkPure (fun w => by rw [arRun xt hn, hw]) rfl rfl
   ·obtain ⟨rfl, _⟩ := one_eq h
    exact mkPure (arRun xt hn) rfl rfl
  ·cases h
 ·split at h
  ·obtain ⟨rfl, hps⟩ := oneP_eq h
   obtain ⟨hy, hp⟩ := mem1 hps hp
   have hw := wrap_in (mem1 rfl hp).1
   exact mkPure (fun w => by rw [quoRun xt hy, hw]) rfl rfl
  ·obtain ⟨rfl, hps⟩ := oneP_eq h
   exact mkPure (remRun xt (mem1 hps hp).1) rfl rfl
  ·cases h
 ·split at h
  ·rename_i n hn
   obtain ⟨rfl, _⟩ := one_eq h
   exact mkPure (bitRun xt hn) rfl rfl
  ·cases h
 ·cases h
 ·split at h
  ·rename_i n hn
   obtain ⟨rfl, _⟩ := one_eq h
   exact mkPure (cmpRun xt hn) rfl rfl
  ·cases h
theorem shRun {op : BinOp} {k k' : IntKind} {x y n : Int} (xt : TypeId) (hy : 0 ≤ y) (hn : shI op k x y = some n) (w : World) :
  (binOp op xt (.int k x) (.int k' y)).run P w = .ok (.int k n) w := by
 have hy' : ¬ y < 0 := by omega
 cases op <;> simp only [shI, reduceCtorEq, Option.some.injEq] at hn <;> subst hn <;> simp only [binOp_shl, binOp_shr, Op.shift, if_neg hy'] <;> rfl
theorem shCC_sound {op : BinOp} {k k' : IntKind} {x y : Int} {v : V} {ps : List Prop} (xt : TypeId) (h : shCC op k x y = some (v, ps)) :
  Pure P (binOp op xt (.int k x) (.int k' y)) ρ v := by
 unfold shCC at h
 split at h
 ·cases h
 ·rename_i hy
  split at h
  ·rename_i n hn
   obtain ⟨rfl, _⟩ := one_eq h
   exact mkPure (fun w => shRun xt (by simpa using hy) hn w) rfl rfl
  ·cases h
theorem shSS_sound {op : BinOp} {k k' : IntKind} {x y : Int} {v : V} {ps : List Prop} (xt : TypeId) (h : shSS op k x y = some (v, ps)) (hp : ∀ p ∈ ps, p) :
  Pure P (binOp op xt (.int k x) (.int k' y)) ρ v := by
 unfold shSS at h
 split at h
 ·rename_i n hn
  obtain ⟨rfl, hps⟩ := oneP_eq h
  exact mkPure (fun w => shRun xt (mem1 hps hp).1 hn w) rfl rfl
 ·cases h
theorem shSC_sound {op : BinOp} {k k' : IntKind} {x y : Int} {v : V} {ps : List Prop} (xt : TypeId) (h : shSC op k x y = some (v, ps)) :
  Pure P (binOp op xt (.int k x) (.int k' y)) ρ v := by
 unfold shSC at h
 split at h
 ·cases h
 ·rename_i hy
  split at h
  ·rename_i n hn
   obtain ⟨rfl, _⟩ := one_eq h
   exact mkPure (fun w => shRun xt (by simpa using hy) hn w) rfl rfl
  ·cases h
theorem binSC_sound {op : BinOp} {k : IntKind} {x y : Int} {v : V} {ps : List Prop} (xt : TypeId) (h : binSC op k x y = some (v, ps)) (hp : ∀ p ∈ ps, p) :
  Pure P (binOp op xt (.int k x) (.int k y)) ρ v := by
 unfold binSC at h
 split at h
 ·split at h
  ·cases h
  ·rename_i hy
   have hy : y ≠ 0 := by simpa using hy
   split at h
   ·obtain ⟨rfl, hps⟩ := oneP_eq h
    have hw := wrap_in (mem1 hps hp).1
    exact mkPure (fun w => by rw [quoRun xt hy, hw]) rfl rfl
   ·obtain ⟨rfl, _⟩ := oneP_eq h
    exact mkPure (remRun xt hy) rfl rfl
   ·cases h
 ·exact binSS_sound xt h hp
theorem strRun {op : BinOp} {x y : List UInt8} {b : Bool} (xt : TypeId) (h : strOp op x y = some b) (w : World) :
  (binOp op xt (.string ⟨x.toArray⟩) (.string ⟨y.toArray⟩)).run P w = .ok (.bool b) w := by
 cases op <;> simp only [strOp, reduceCtorEq, Option.some.injEq] at h <;> subst h <;>
  simp only [binOp_string_eql, binOp_string_neq, binOp_string_lss, binOp_string_leq, binOp_string_gtr, binOp_string_geq, ByteArray.toList_mk] <;> rfl
theorem mkAppend (x y : List UInt8) : (⟨x.toArray⟩ : ByteArray) ++ ⟨y.toArray⟩ = ⟨(x ++ y).toArray⟩ := by
 apply ByteArray.ext
 simp
theorem addStrRun {x y : List UInt8} (xt : TypeId) (h : x.length + y.length ≤ 9223372036854775807) (w : World) :
  (binOp .add xt (.string ⟨x.toArray⟩) (.string ⟨y.toArray⟩)).run P w = .ok (.string ⟨(x ++ y).toArray⟩) w := by
 have hs : ¬ (((⟨x.toArray⟩ : ByteArray).size + (⟨y.toArray⟩ : ByteArray).size : Nat) : Int) > IntKind.i64.max := by
  rw [IntKind.max_i64]
  show ¬ (((x.toArray.size + y.toArray.size : Nat) : Int) > 9223372036854775807)
  simp only [List.size_toArray]
  omega
 rw [binOp_string_add]
 simp only [Op.stringOp, if_neg hs, mkAppend]
 rfl
theorem eqBRun {op : BinOp} {xt : TypeId} {a b : Value} {r b' : Bool} (h : eqB op r = some b') (he : ∀ w, (Op.equal xt a b).run P w = .ok r w)
  (hform : (binOp .eql xt a b : Sem Value) = (do pure (.bool (← Op.equal xt a b))) ∧ (binOp .neq xt a b : Sem Value) = (do pure (.bool (!(← Op.equal xt a b))))) (w : World) :
  (binOp op xt a b).run P w = .ok (.bool b') w := by
 cases op <;> simp only [eqB, reduceCtorEq, Option.some.injEq] at h <;> subst h
 ·rw [hform.1]; simp [he]
 ·rw [hform.2]; simp [he]
theorem boolOf_sound {op : BinOp} {xt : TypeId} {a b : Value} {r : Option (Bool × Bool)} {v : V} {ps : List Prop} (h : boolOf op r = some (v, ps))
  (he : ∀ c q, r = some (c, q) → ∀ w, (Op.equal xt a b).run P w = .ok q w)
  (hform : (binOp .eql xt a b : Sem Value) = (do pure (.bool (← Op.equal xt a b))) ∧ (binOp .neq xt a b : Sem Value) = (do pure (.bool (!(← Op.equal xt a b))))) :
  Pure P (binOp op xt a b) ρ v := by
 unfold boolOf at h
 split at h
 ·split at h
  ·rename_i q _ b' hb
   obtain ⟨rfl, _⟩ := one_eq h
   exact mkPure (eqBRun hb (he _ _ rfl) hform) rfl rfl
  ·cases h
 ·split at h
  ·rename_i q _ b' hb
   obtain ⟨rfl, _⟩ := one_eq h
   exact mkPure (eqBRun hb (he _ _ rfl) hform) rfl rfl
  ·cases h
 ·cases h
theorem part_plain {t : TypeId} {cs : Array Value} {off : Nat} {u : Value} (ht : isAggT P t = some false) (h : cs[off]? = some u) (w : World) : (part t cs off).run P w = .ok u w := by
 unfold isAggT at ht
 have hd : ∃ d, P.underlying t = some d ∧ (match d with | .struct _ => true | .array _ _ => true | _ => false) = false := by
  split at ht <;> simp_all
 obtain ⟨d, hd, hd'⟩ := hd
 simp only [part, isAgg, Sem.run_bind, run_underlying hd, Result.andThen_ok]
 cases d <;> simp_all
theorem eqFields_run (d : Nat) : ∀ (fs : List Field) (xs ys : List C) (j : Nat) (c b : Bool) (us vs : Array Value), plainFields P fs j = true → cellKinds P fs xs = true → cellKinds P fs ys = true →
  eqAgg xs ys = some (c, b) → relL ρ xs (us.toList.drop j) → relL ρ ys (vs.toList.drop j) → ∀ w, (Op.eqFields (d + 1) us vs fs).run P w = .ok b w
 | [], xs, ys, j, c, b, us, vs, _, hx, hy, he, _, _, w => by
  cases xs <;> cases ys <;> simp_all [cellKinds, eqAgg, Op.eqFields]
 | f :: fs, [], ys, j, c, b, us, vs, _, hx, _, _, _, _, w => by simp [cellKinds] at hx
 | f :: fs, x :: xs, [], j, c, b, us, vs, _, _, hy, _, _, _, w => by simp [cellKinds] at hy
 | f :: fs, x :: xs, y :: ys, j, c, b, us, vs, hf, hx, hy, he, hrx, hry, w => by
  simp only [plainFields, Bool.and_eq_true, Bool.not_eq_true'] at hf
  obtain ⟨⟨⟨hoff, hname⟩, hk⟩, hf'⟩ := hf
  have hoff := Nat.eq_of_beq_eq_true hoff
  simp only [cellKinds, Bool.and_eq_true] at hx hy
  obtain ⟨hx1, hx2⟩ := hx
  obtain ⟨hy1, hy2⟩ := hy
  simp only [eqAgg] at he
  split at he
  ·cases he
  ·rename_i c1 b1 heq
   split at he
   ·cases he
   ·rename_i c2 b2 heq2
    injection he with he; injection he with _ hb
    obtain ⟨u, r, hu, hxu, hr⟩ := hrx
    obtain ⟨u', r', hu', hyu, hr'⟩ := hry
    have hd1 : us.toList.drop (j + 1) = r := by rw [← List.tail_drop, hu]; rfl
    have hd2 : vs.toList.drop (j + 1) = r' := by rw [← List.tail_drop, hu']; rfl
    have ih := eqFields_run d fs xs ys (j + 1) c2 b2 us vs hf' hx2 hy2 heq2 (by rw [hd1]; exact hr) (by rw [hd2]; exact hr') w
    have g1 : us[f.offset]? = some u := by
     have := congrArg (fun l => l[0]?) hu
     simpa [hoff] using this
    have g2 : vs[f.offset]? = some u' := by
     have := congrArg (fun l => l[0]?) hu'
     simpa [hoff] using this
    have hn : f.name ≠ "_" := by simpa using hname
    have hagg : isAggT P f.type = some false := by
     unfold isAggT
     split at hk <;> simp_all
    have hq : ∀ w, (Op.equalIn (d + 1) f.type u u').run P w = .ok b1 w := by
     intro w
     clear ih hf' heq2
     cases hty : P.underlying f.type with
     | none => simp [hty] at hk
     | some ty =>
      cases ty <;> simp [hty] at hk hx1 hy1
      ·cases x <;> simp at hx1 <;> cases y <;> simp at hy1 <;> simp only [C.rel] at hxu hyu <;> subst hxu <;> subst hyu <;> simp only [eqC, Option.some.injEq, Prod.mk.injEq] at heq <;> obtain ⟨_, rfl⟩ := heq <;> exact run_equalIn_bool w d _ _ _ hty
      ·cases x <;> simp at hx1 <;> cases y <;> simp at hy1 <;> simp only [C.rel] at hxu hyu <;> subst hxu <;> subst hyu <;> subst hx1 <;> subst hy1 <;> simp only [eqC, Option.some.injEq, Prod.mk.injEq] at heq <;> obtain ⟨_, rfl⟩ := heq <;> exact run_equalIn_int w d _ _ _ _ _ hty
      ·cases x <;> simp at hx1 <;> cases y <;> simp at hy1 <;> simp only [C.rel] at hxu hyu <;> subst hxu <;> subst hyu <;> simp only [eqC, Option.some.injEq, Prod.mk.injEq] at heq <;> obtain ⟨_, rfl⟩ := heq <;> (rw [run_equalIn_string w d _ _ _ hty]; simp)
    simp only [Op.eqFields, if_pos hn, Sem.run_bind, part_plain hagg g1, part_plain hagg g2, hq, Result.andThen_ok]
    subst hb
    cases b1
    ·simp
    ·simpa using ih
theorem relL_take : ∀ (m : Nat) {xs : List C} {us : List Value}, relL ρ xs us → relL ρ (xs.take m) (us.take m)
 | 0, xs, us, _ => by simp [relL]
 | m + 1, [], us, h => by simp only [relL] at h; subst h; simp [relL]
 | m + 1, x :: xs, us, h => by
  obtain ⟨u, r, rfl, h1, h2⟩ := h
  exact ⟨u, r.take m, rfl, h1, relL_take m h2⟩
theorem relL_drop : ∀ (m : Nat) {xs : List C} {us : List Value}, relL ρ xs us → relL ρ (xs.drop m) (us.drop m)
 | 0, xs, us, h => h
 | m + 1, [], us, h => by simp only [relL] at h; subst h; simp [relL]
 | m + 1, x :: xs, us, h => by
  obtain ⟨u, r, rfl, h1, h2⟩ := h
  exact relL_drop m h2
theorem eqAgg_split : ∀ (m : Nat) {xs ys : List C} {c b : Bool}, eqAgg xs ys = some (c, b) → ∃ c1 b1 c2 b2, eqAgg (xs.take m) (ys.take m) = some (c1, b1) ∧ eqAgg (xs.drop m) (ys.drop m) = some (c2, b2) ∧ b = (b1 && b2)
 | 0, xs, ys, c, b, h => ⟨true, true, c, b, by simp [eqAgg], h, by simp⟩
 | m + 1, [], [], c, b, h => by
  simp only [eqAgg, Option.some.injEq, Prod.mk.injEq] at h
  obtain ⟨rfl, rfl⟩ := h
  exact ⟨true, true, true, true, rfl, rfl, rfl⟩
 | m + 1, [], _ :: _, c, b, h => by simp [eqAgg] at h
 | m + 1, _ :: _, [], c, b, h => by simp [eqAgg] at h
 | m + 1, x :: xs, y :: ys, c, b, h => by
  simp only [eqAgg] at h
  split at h
  ·cases h
  ·rename_i c0 b0 h0
   split at h
   ·cases h
   ·rename_i c' b' h'
    injection h with h; injection h with _ hb
    obtain ⟨c1, b1, c2, b2, k1, k2, k3⟩ := eqAgg_split m h'
    refine ⟨c0 && c1, b0 && b1, c2, b2, ?_, k2, by rw [← hb, k3, Bool.and_assoc]⟩
    show eqAgg (x :: xs.take m) (y :: ys.take m) = _
    simp only [eqAgg, h0, k1]
theorem part_agg {t : TypeId} {gs : Array Field} {inf : TypeInfo} {cs : Array Value} {off : Nat} (ht : P.underlying t = some (.struct gs)) (hi : P.info? t = some inf) (w : World) : (part t cs off).run P w = .ok (.agg (cs.extract off (off + inf.size))) w := by
 simp [part, isAgg, run_underlying ht, sizeOf, typeInfo, hi]
theorem eqFields2_run (d : Nat) : ∀ (fs : List Field) (xs ys : List C) (j : Nat) (c b : Bool) (us vs : Array Value), plainFields2 P fs j = true → cellKinds2 P fs xs = true → cellKinds2 P fs ys = true →
  eqAgg xs ys = some (c, b) → relL ρ xs (us.toList.drop j) → relL ρ ys (vs.toList.drop j) → ∀ w, (Op.eqFields (d + 2) us vs fs).run P w = .ok b w
 | [], xs, ys, j, c, b, us, vs, _, hx, hy, he, _, _, w => by
  cases xs <;> cases ys <;> simp_all [cellKinds2, eqAgg, Op.eqFields]
 | f :: fs, xs, ys, j, c, b, us, vs, hf, hx, hy, he, hrx, hry, w => by
  simp only [plainFields2, Bool.and_eq_true, Bool.not_eq_true'] at hf
  obtain ⟨⟨hoff, hname⟩, hk⟩ := hf
  have hoff := Nat.eq_of_beq_eq_true hoff
  have hn : f.name ≠ "_" := by simpa using hname
  cases hty : P.underlying f.type with
  | none => rw [hty] at hk; cases hk
  | some ty =>
   simp only [cellKinds2, hty] at hx hy
   rw [hty] at hk
   cases ty with
   | struct gs =>
    simp only [Bool.and_eq_true, Bool.not_eq_true'] at hk hx hy
    obtain ⟨⟨⟨hk1, hk2⟩, hk3⟩, hk4⟩ := hk
    cases hi : P.info? f.type with
    | none => rw [hi] at hk2; cases hk2
    | some inf =>
     rw [hi] at hk2
     have hsz := Nat.eq_of_beq_eq_true hk2
     obtain ⟨c1, b1, c2, b2, e1, e2, e3⟩ := eqAgg_split gs.toList.length he
     have ih := eqFields2_run d fs _ _ (j + gs.toList.length) c2 b2 us vs hk4 hx.2 hy.2 e2 (by rw [← List.drop_drop]; exact relL_drop _ hrx) (by rw [← List.drop_drop]; exact relL_drop _ hry) w
     have r1 : relL ρ (xs.take gs.toList.length) ((us.extract f.offset (f.offset + inf.size)).toList.drop 0) := by
      have := relL_take gs.toList.length hrx
      simpa [hoff, hsz] using this
     have r2 : relL ρ (ys.take gs.toList.length) ((vs.extract f.offset (f.offset + inf.size)).toList.drop 0) := by
      have := relL_take gs.toList.length hry
      simpa [hoff, hsz] using this
     have hft : P.underlying f.type = some (.struct (P.fieldsOf f.type)) := by simp [Program.fieldsOf, hty]
     have hfs : P.fieldsOf f.type = gs := by simp [Program.fieldsOf, hty]
     have hq : ∀ w, (Op.equalIn (d + 2) f.type (.agg (us.extract f.offset (f.offset + inf.size))) (.agg (vs.extract f.offset (f.offset + inf.size)))).run P w = .ok b1 w := by
      intro w
      rw [run_equalIn_struct w (d + 1) f.type _ _ hft hk3, hfs]
      exact eqFields_run d gs.toList _ _ 0 c1 b1 _ _ hk1 hx.1 hy.1 e1 r1 r2 w
     simp only [Op.eqFields, if_pos hn, Sem.run_bind, part_agg hty hi, hq, Result.andThen_ok]
     subst e3
     cases b1
     ·simp
     ·simpa using ih
   | int k =>
    simp only at hk
    have hagg : isAggT P f.type = some false := by simp [isAggT, hty]
    have one : ∀ {cs : List C}, (match cs with
      | .int k' _ :: cs' => decide (k = k') && cellKinds2 P fs cs'
      | .sint k' _ :: cs' => decide (k = k') && cellKinds2 P fs cs'
      | _ => false) = true → ∃ x r n, cs = x :: r ∧ (x = .int k n ∨ x = .sint k n) ∧ cellKinds2 P fs r = true := by
     intro cs h
     split at h
     ·rename_i k' n r
      simp only [Bool.and_eq_true, decide_eq_true_eq] at h
      obtain ⟨rfl, h⟩ := h
      exact ⟨_, _, n, rfl, .inl rfl, h⟩
     ·rename_i k' n r
      simp only [Bool.and_eq_true, decide_eq_true_eq] at h
      obtain ⟨rfl, h⟩ := h
      exact ⟨_, _, n, rfl, .inr rfl, h⟩
     ·cases h
    obtain ⟨x, xs', n, rfl, hxn, hx'⟩ := one hx
    obtain ⟨y, ys', m, rfl, hym, hy'⟩ := one hy
    have he1 : ∃ c1, eqC x y = some (c1, decide (n = m)) := by
     rcases hxn with rfl | rfl <;> rcases hym with rfl | rfl <;> simp [eqC]
    obtain ⟨c1, he1⟩ := he1
    simp only [eqAgg, he1] at he
    split at he
    ·cases he
    ·rename_i c2 b2 heq2
     injection he with he; injection he with _ hb
     obtain ⟨u, r, hu, hxu, hr⟩ := hrx
     obtain ⟨u', r', hu', hyu, hr'⟩ := hry
     have hd1 : us.toList.drop (j + 1) = r := by rw [← List.tail_drop, hu]; rfl
     have hd2 : vs.toList.drop (j + 1) = r' := by rw [← List.tail_drop, hu']; rfl
     have ih := eqFields2_run d fs xs' ys' (j + 1) c2 b2 us vs hk hx' hy' heq2 (by rw [hd1]; exact hr) (by rw [hd2]; exact hr') w
     have g1 : us[f.offset]? = some u := by
      have := congrArg (fun l => l[0]?) hu
      simpa [hoff] using this
     have g2 : vs[f.offset]? = some u' := by
      have := congrArg (fun l => l[0]?) hu'
      simpa [hoff] using this
     have hun : u = .int k n := by rcases hxn with rfl | rfl <;> exact hxu
     have hun' : u' = .int k m := by rcases hym with rfl | rfl <;> exact hyu
     have hq : ∀ w, (Op.equalIn (d + 2) f.type u u').run P w = .ok (decide (n = m)) w := by
      intro w
      subst hun; subst hun'
      exact run_equalIn_int w (d + 1) _ _ _ _ _ hty
     simp only [Op.eqFields, if_pos hn, Sem.run_bind, part_plain hagg g1, part_plain hagg g2, hq, Result.andThen_ok]
     rw [← hb]
     cases hnm : decide (n = m)
     ·simp
     ·simpa using ih
   | _ => cases hk
theorem eqIn_pn (d : Nat) {t el : TypeId} (a : Addr) (h : P.underlying t = some (.pointer el)) (w : World) : (Op.equalIn (d + 1) t (.pointer (some a)) (.pointer none)).run P w = .ok false w := by
 simp [Op.equalIn, run_underlying h]
theorem eqIn_nn (d : Nat) {t el : TypeId} (h : P.underlying t = some (.pointer el)) (w : World) : (Op.equalIn (d + 1) t (.pointer none) (.pointer none)).run P w = .ok true w := by
 simp [Op.equalIn, run_underlying h]
theorem eqIn_sn (d : Nat) {t el : TypeId} (a : Addr) (n m : Nat) (h : P.underlying t = some (.slice el)) (w : World) : (Op.equalIn (d + 1) t (.slice (some a) n m) (.slice none 0 0)).run P w = .ok false w := by
 simp [Op.equalIn, run_underlying h]
theorem eqIn_ss (d : Nat) {t el : TypeId} (h : P.underlying t = some (.slice el)) (w : World) : (Op.equalIn (d + 1) t (.slice none 0 0) (.slice none 0 0)).run P w = .ok true w := by
 simp [Op.equalIn, run_underlying h]
theorem all_ints_eq : ∀ (xs ys : List Int), xs.length = ys.length → ((List.range xs.length).all fun i => decide (xs.getD i 0 = ys.getD i 0)) = decide (xs = ys)
 | [], [], _ => rfl
 | x :: xs, y :: ys, h => by
  have ih := all_ints_eq xs ys (by simpa using h)
  rw [List.length_cons, List.range_succ_eq_map, List.all_cons, List.all_map]
  simp only [List.getD_cons_zero, Function.comp_def, List.getD_cons_succ, ih]
  rw [← Bool.decide_and]
  congr 1
  simp
 | [], _ :: _, h => by simp at h
 | _ :: _, [], h => by simp at h
theorem eqIn_ints (w : World) (d : Nat) {t e : TypeId} {n : Nat} {k : IntKind} {inf : TypeInfo} (ht : P.underlying t = some (.array n e)) (he : P.underlying e = some (.int k)) (hi : P.info? e = some inf) (hs : inf.size = 1)
  {xs ys : List Int} (hx : xs.length = n) (hy : ys.length = n) :
  (Op.equalIn (d + 2) t (.agg (xs.map (Value.int k)).toArray) (.agg (ys.map (Value.int k)).toArray)).run P w = .ok (decide (xs = ys)) w := by
 have hsz : ∀ w, (sizeOf e).run P w = .ok 1 w := fun w => by rw [run_sizeOf w hi]; simp [Program.cellsOf, hi, hs]
 rw [← all_ints_eq xs ys (hx.trans hy.symm), hx, List.range_eq_range', Op.equalIn]
 simp only [Sem.run_bind, run_underlying ht, Result.andThen_ok, hsz, Std.Legacy.Range.forIn_eq_forIn_range', Std.Legacy.Range.size, Nat.sub_zero, Nat.add_sub_cancel, Nat.div_one]
 have hl : ∀ i ∈ List.range' 0 n 1, i < n := fun i hi => by simpa using (List.mem_range'_1.1 hi).2
 generalize List.range' 0 n 1 = l at hl ⊢
 induction l with
 | nil => simp
 | cons i l ih =>
  have hi : i < n := hl i (by simp)
  have px : (part e (xs.map (Value.int k)).toArray (i * 1)).run P w = .ok (.int k (xs.getD i 0)) w := by
   simp [part, isAgg, run_underlying he, List.getD, List.getElem?_eq_getElem (show i < xs.length by omega)]
  have py : (part e (ys.map (Value.int k)).toArray (i * 1)).run P w = .ok (.int k (ys.getD i 0)) w := by
   simp [part, isAgg, run_underlying he, List.getD, List.getElem?_eq_getElem (show i < ys.length by omega)]
  have pe : (Op.equalIn (d + 1) e (.int k (xs.getD i 0)) (.int k (ys.getD i 0))).run P w = .ok (decide (xs.getD i 0 = ys.getD i 0)) w := by
   rw [run_equalIn_int w d e k k _ _ he]
   rfl
  simp only [List.forIn_cons, Sem.run_bind, px, py, pe, Result.andThen_ok, List.all_cons]
  cases hb : decide (xs.getD i 0 = ys.getD i 0)
  ·simp
  ·simp only [Bool.not_true, Bool.false_eq_true, if_false, Sem.run_pure, Result.andThen_ok, Bool.true_and]
   exact ih fun j hj => hl j (by simp [hj])
theorem intsOf_snd {k : IntKind} : ∀ {cs : List C} {l : List Int} {us : List Value}, intsOf k cs = some l → relL ρ cs us → us = l.map (Value.int k)
 | [], l, us, h, hr => by
  simp only [intsOf, Option.some.injEq] at h; subst h
  simpa [relL] using hr
 | c :: r, l, us, h, hr => by
  simp only [intsOf] at h
  split at h
  ·cases h
  ·rename_i n hn
   split at h
   ·cases h
   ·rename_i l0 hl
    injection h with h; subst h
    obtain ⟨u, us', rfl, hc, hr'⟩ := hr
    have e1 : u = .int k n := by
     unfold intOfC at hn
     split at hn
     ·split at hn
      ·rename_i hk; injection hn with hn; subst hn; rw [of_decide_eq_true hk]; exact hc
      ·cases hn
     ·split at hn
      ·rename_i hk; injection hn with hn; subst hn; rw [of_decide_eq_true hk]; exact hc
      ·cases hn
     ·cases hn
    rw [e1, intsOf_snd hl hr']; rfl
theorem arrV_rel {k : IntKind} {x : V} {c : Bool} {l : List Int} {a : Value} (h : arrV k x = some (c, l)) (hx : x.rel ρ a) : a = .agg (l.map (Value.int k)).toArray := by
 unfold arrV at h
 split at h
 ·split at h
  ·rename_i hk
   injection h with h; injection h with _ h; subst h
   have := of_decide_eq_true hk; subst this
   exact hx
  ·cases h
 ·split at h
  ·rename_i l0 hl
   injection h with h; injection h with _ h; subst h
   obtain ⟨us, rfl, hr, _⟩ := hx
   rw [intsOf_snd hl hr]
  ·cases h
 ·cases h
theorem eqArr_sound {op : BinOp} {xt : TypeId} {x y v : V} {ps : List Prop} {a b : Value} (h : eqArr P op xt x y = some (v, ps)) (hp : ∀ p ∈ ps, p) (hx : x.rel ρ a) (hy : y.rel ρ b) (xo yo : Operand) :
  Pure P (do eqGuard op xt xo yo a b; binOp op xt a b) ρ v := by
 unfold eqArr at h
 split at h
 ·rename_i n e ht
  split at h
  ·rename_i k inf he hi
   split at h
   ·rename_i c l c' l' hall ha hb
    simp only [Bool.and_eq_true, Bool.not_eq_true'] at hall
    split at h
    ·rename_i v1 ps1 hbo
     injection h with h; injection h with e1 e2; subst e1; subst e2
     have h1 : l.length = n := hp _ (List.Mem.head _)
     have h2 : l'.length = n := hp _ (List.Mem.tail _ (List.Mem.head _))
     obtain rfl := arrV_rel ha hx
     obtain rfl := arrV_rel hb hy
     obtain ⟨u, hu, hr⟩ : Pure P (binOp op xt _ _) ρ v1 := boolOf_sound hbo (fun c q hq w => by
      injection hq with hq; injection hq with _ hq; subst hq
      rw [Op.equal, Op.maxDepth]
      exact eqIn_ints w 9998 ht he hi (Nat.eq_of_beq_eq_true hall.1) h1 h2) ⟨rfl, rfl⟩
     refine ⟨u, hu, fun w => ?_⟩
     have hg := run_eqGuard_agg w op xt xo yo (l.map (Value.int k)).toArray (l'.map (Value.int k)).toArray hall.2
     simp only [Sem.run_bind, hg, Result.andThen_ok]; exact hr w
    ·cases h
   ·cases h
  ·cases h
 ·cases h
theorem evBin_sound {op : BinOp} {xt : TypeId} {x y v : V} {ps : List Prop} {a b : Value} (h : evBin P op xt x y = some (v, ps)) (hp : ∀ p ∈ ps, p) (hx : x.rel ρ a) (hy : y.rel ρ b) (xo yo : Operand) :
  Pure P (do eqGuard op xt xo yo a b; binOp op xt a b) ρ v := by
 have key : (∀ w, (eqGuard op xt xo yo a b).run P w = .ok () w) → Pure P (binOp op xt a b) ρ v → Pure P (do eqGuard op xt xo yo a b; binOp op xt a b) ρ v := fun hg ⟨u, hu, hr⟩ =>
  ⟨u, hu, fun w => by simp only [Sem.run_bind, hg, Result.andThen_ok]; exact hr w⟩
 have ints : ∀ {k k' : IntKind} {p q : Int}, a = .int k p → b = .int k' q → (match opMake op with | .sh => shCC op k p q | _ => match decide (k = k') with | true => binCC op k p q | false => none) = some (v, ps) →
   Pure P (do eqGuard op xt xo yo a b; binOp op xt a b) ρ v := fun ha hb h => by
  subst ha; subst hb
  refine key (fun w => by rw [eqGuard_at_int]; rfl) ?_
  split at h
  ·exact shCC_sound xt h
  ·split at h
   ·rename_i hk
    have hk := of_decide_eq_true hk
    subst hk
    exact binCC_sound xt h
   ·cases h
 have sints : ∀ {k k' : IntKind} {p q : Int}, a = .int k p → b = .int k' q → (match opMake op with | .sh => shSS op k p q | _ => match decide (k = k') with | true => binSS op k p q | false => none) = some (v, ps) →
   Pure P (do eqGuard op xt xo yo a b; binOp op xt a b) ρ v := fun ha hb h => by
  subst ha; subst hb
  refine key (fun w => by rw [eqGuard_at_int]; rfl) ?_
  split at h
  ·exact shSS_sound xt h hp
  ·split at h
   ·rename_i hk
    have hk := of_decide_eq_true hk
    subst hk
    exact binSS_sound xt h hp
   ·cases h
 have sintc : ∀ {k k' : IntKind} {p q : Int}, a = .int k p → b = .int k' q → (match opMake op with | .sh => shSC op k p q | _ => match decide (k = k') with | true => binSC op k p q | false => none) = some (v, ps) →
   Pure P (do eqGuard op xt xo yo a b; binOp op xt a b) ρ v := fun ha hb h => by
  subst ha; subst hb
  refine key (fun w => by rw [eqGuard_at_int]; rfl) ?_
  split at h
  ·exact shSC_sound xt h
  ·split at h
   ·rename_i hk
    have hk := of_decide_eq_true hk
    subst hk
    exact binSC_sound xt h hp
   ·cases h
 have bools : ∀ {p q c : Bool}, a = .bool p → b = .bool q → (match P.underlying xt with | some .bool => boolOf op (some (c, p == q)) | _ => none) = some (v, ps) →
   Pure P (do eqGuard op xt xo yo a b; binOp op xt a b) ρ v := fun ha hb h => by
  subst ha; subst hb
  refine key (fun w => by rw [eqGuard_at_bool]; rfl) ?_
  split at h
  ·rename_i ht
   refine boolOf_sound h (fun c q hq w => ?_) ⟨rfl, rfl⟩
   injection hq with hq; injection hq with _ hq; subst hq
   exact run_equalIn_bool w 9999 _ _ _ ht
  ·cases h
 have hx0 := hx
 have hy0 := hy
 unfold evBin at h
 split at h <;> try simp only [V.rel, V1.rel, C.rel] at hx hy
 ·exact ints hx.1 hy.1 h
 ·exact sints hx.1 hy.1 h
 ·exact sintc hx.1 hy.1 h
 ·exact sints hx.1 hy.1 h
 ·obtain ⟨rfl, _⟩ := hx; obtain ⟨rfl, _⟩ := hy
  refine key (fun w => by rw [eqGuard_at_string]; rfl) ?_
  split at h
  ·split at h
   ·rename_i hle; obtain ⟨rfl, _⟩ := one_eq h; exact mkPure (addStrRun xt (Nat.le_of_ble_eq_true hle)) rfl rfl
   ·cases h
  ·split at h
   ·rename_i hb; obtain ⟨rfl, _⟩ := one_eq h; exact mkPure (strRun xt hb) rfl rfl
   ·cases h
 ·obtain ⟨rfl, _⟩ := hx; obtain ⟨rfl, _⟩ := hy
  refine key (fun w => by rw [eqGuard_at_string]; rfl) ?_
  split at h
  ·obtain ⟨rfl, hps⟩ := oneP_eq h; exact mkPure (addStrRun xt (mem1 hps hp).1) rfl rfl
  ·split at h
   ·rename_i hb; obtain ⟨rfl, _⟩ := one_eq h; exact mkPure (strRun xt hb) rfl rfl
   ·cases h
 ·obtain ⟨rfl, _⟩ := hx; obtain ⟨rfl, _⟩ := hy
  refine key (fun w => by rw [eqGuard_at_string]; rfl) ?_
  split at h
  ·obtain ⟨rfl, hps⟩ := oneP_eq h; exact mkPure (addStrRun xt (mem1 hps hp).1) rfl rfl
  ·split at h
   ·rename_i hb; obtain ⟨rfl, _⟩ := one_eq h; exact mkPure (strRun xt hb) rfl rfl
   ·cases h
 ·obtain ⟨rfl, _⟩ := hx; obtain ⟨rfl, _⟩ := hy
  refine key (fun w => by rw [eqGuard_at_string]; rfl) ?_
  split at h
  ·obtain ⟨rfl, hps⟩ := oneP_eq h; exact mkPure (addStrRun xt (mem1 hps hp).1) rfl rfl
  ·split at h
   ·rename_i hb; obtain ⟨rfl, _⟩ := one_eq h; exact mkPure (strRun xt hb) rfl rfl
   ·cases h
 ·exact bools hx.1 hy.1 h
 ·exact bools hx.1 hy.1 h
 ·exact bools hx.1 hy.1 h
 ·exact bools hx.1 hy.1 h
 ·obtain ⟨⟨e, _, rfl⟩, _⟩ := hx; obtain ⟨rfl, _⟩ := hy
  refine key (fun w => by rw [eqGuard_at_pointer]; rfl) ?_
  split at h
  ·rename_i el ht
   refine boolOf_sound h (fun c q hq w => ?_) ⟨rfl, rfl⟩
   injection hq with hq; injection hq with _ hq; subst hq
   exact eqIn_pn 9999 _ ht w
  ·cases h
 ·obtain ⟨rfl, _⟩ := hx; obtain ⟨rfl, _⟩ := hy
  refine key (fun w => by rw [eqGuard_at_pointer]; rfl) ?_
  split at h
  ·rename_i el ht
   refine boolOf_sound h (fun c q hq w => ?_) ⟨rfl, rfl⟩
   injection hq with hq; injection hq with _ hq; subst hq
   exact eqIn_nn 9999 ht w
  ·cases h
 ·obtain ⟨⟨e, _, hu⟩, _⟩ := hx; obtain ⟨rfl, _⟩ := hy
  split at h
  ·rename_i el n ht
   rcases hu with ⟨h0, _⟩ | ⟨o, cap, rfl, _⟩
   ·simp [N.v] at h0
   refine key (fun w => by rw [eqGuard_at_slice]; rfl) ?_
   refine boolOf_sound h (fun c q hq w => ?_) ⟨rfl, rfl⟩
   injection hq with hq; injection hq with _ hq; subst hq
   exact eqIn_sn 9999 _ _ _ ht w
  ·rename_i el n ht
   split at h
   ·rename_i v' ps' hb
    injection h with h; injection h with e1 e2; subst e1; subst e2
    have hn : 0 < n := hp _ (List.Mem.head _)
    rcases hu with ⟨h0, _⟩ | ⟨o, cap, rfl, _⟩
    ·simp [N.v] at h0; omega
    refine key (fun w => by rw [eqGuard_at_slice]; rfl) ?_
    refine boolOf_sound hb (fun c q hq w => ?_) ⟨rfl, rfl⟩
    injection hq with hq; injection hq with _ hq; subst hq
    exact eqIn_sn 9999 _ _ _ ht w
   ·cases h
  ·cases h
 ·obtain ⟨rfl, _⟩ := hx; obtain ⟨rfl, _⟩ := hy
  refine key (fun w => by rw [eqGuard_at_slice]; rfl) ?_
  split at h
  ·rename_i el ht
   refine boolOf_sound h (fun c q hq w => ?_) ⟨rfl, rfl⟩
   injection hq with hq; injection hq with _ hq; subst hq
   exact eqIn_sn 9999 _ _ _ ht w
  ·cases h
 ·obtain ⟨rfl, _⟩ := hx; obtain ⟨rfl, _⟩ := hy
  refine key (fun w => by rw [eqGuard_at_slice]; rfl) ?_
  split at h
  ·rename_i el ht
   refine boolOf_sound h (fun c q hq w => ?_) ⟨rfl, rfl⟩
   injection hq with hq; injection hq with _ hq; subst hq
   exact eqIn_ss 9999 ht w
  ·cases h
 ·split at h
  ·rename_i fs ht
   obtain ⟨us, rfl, hxs, _⟩ := hx; obtain ⟨vs, rfl, hys, _⟩ := hy
   split at h
   ·rename_i hall
    simp only [Bool.and_eq_true, Bool.not_eq_true'] at hall
    obtain ⟨⟨⟨⟨hf, hc1⟩, hc2⟩, hst⟩, hgd⟩ := hall
    refine key (fun w => run_eqGuard_agg w op xt xo yo _ _ hgd) ?_
    refine boolOf_sound h (fun c q hq w => ?_) ⟨rfl, rfl⟩
    have hft : P.underlying xt = some (.struct (P.fieldsOf xt)) := by simp [Program.fieldsOf, ht]
    have hfs : P.fieldsOf xt = fs := by simp [Program.fieldsOf, ht]
    have := eqFields_run (P := P) (ρ := ρ) 9998 fs.toList _ _ 0 c q us.toArray vs.toArray hf hc1 hc2 hq (by simpa using hxs) (by simpa using hys) w
    rw [Op.equal, Op.maxDepth, run_equalIn_struct w 9999 xt _ _ hft hst, hfs]
    exact this
   ·split at h
    ·rename_i hall
     simp only [Bool.and_eq_true, Bool.not_eq_true'] at hall
     obtain ⟨⟨⟨⟨hf, hc1⟩, hc2⟩, hst⟩, hgd⟩ := hall
     refine key (fun w => run_eqGuard_agg w op xt xo yo _ _ hgd) ?_
     refine boolOf_sound h (fun c q hq w => ?_) ⟨rfl, rfl⟩
     have hft : P.underlying xt = some (.struct (P.fieldsOf xt)) := by simp [Program.fieldsOf, ht]
     have hfs : P.fieldsOf xt = fs := by simp [Program.fieldsOf, ht]
     have := eqFields2_run (P := P) (ρ := ρ) 9997 fs.toList _ _ 0 c q us.toArray vs.toArray hf hc1 hc2 hq (by simpa using hxs) (by simpa using hys) w
     rw [Op.equal, Op.maxDepth, run_equalIn_struct w 9999 xt _ _ hft hst, hfs]
     exact this
    ·cases h
  ·exact eqArr_sound h hp hx0 hy0 xo yo
 ·exact eqArr_sound h hp hx0 hy0 xo yo
end
end Go.Sx
