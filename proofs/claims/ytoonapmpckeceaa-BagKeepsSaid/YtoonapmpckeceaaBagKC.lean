/- BagKeeps: its loop. -/
import Derived.Test.YtoonapmpckeceaaBagKB
import Derived.Test.YtoonapmpckeceaaBagS
namespace Go.Proofs.Ytoonapmpckeceaa
open Go.ChangeShapes Go.WideShapes Go.ChangeAt Go.RowKit Go.Sx
theorem funK : Try.prog.funcs[6]? = some FK := by kernel_rfl
theorem bodK : FK.body = some (body 6) := by kernel_rfl
theorem tmpK : 3 ≤ FK.ntmps := Nat.le_of_ble_eq_true (by kernel_rfl)
theorem callL_ok (d : Nat) : CallOk Try.prog (callL d) := callN_sound tabL_ok d
abbrev EndK (W : World) : Ending → World → Prop := fun e w' => e = .returned (.bool true) ∧ Below W.heap.size W w'
def inB (n : Int) : Prop := -9223372036854775808 ≤ n ∧ n ≤ 9223372036854775807
theorem kpF {l k a b c d : Rows2} {x x1 x2 x3 i left sI sn e f g kk : Int} (w : wfL l ∧ wfL k ∧ wfL a ∧ wfL b ∧ wfL c ∧ wfL d) (o : l.all okR = true ∧ k.all okR = true ∧ a.all okR = true ∧ b.all okR = true ∧ c.all okR = true ∧ d.all okR = true)
    (n : l.length = a.length ∧ l.length = b.length ∧ l.length = c.length ∧ l.length = d.length) (hk : 0 ≤ kk ∧ kk < 15 ∧ kk < 256) (zl : inB (cnt kk l)) (zk : inB (cnt kk k))
    (cb : (kk = sI → ¬ kk = 0 → cnt kk b = cnt kk l - sn ∧ inB (cnt kk l - sn)) ∧ ((¬ kk = sI ∨ kk = 0) → cnt kk b = cnt kk l))
    (cc : (kk = i → f = 0 → cnt kk c = cnt kk l - x1 ∧ inB (cnt kk l - x1)) ∧ ((¬ kk = i ∨ ¬ f = 0) → cnt kk c = cnt kk l))
    (cd : (g = 0 → cnt kk d = cnt kk l + cnt kk k ∧ inB (cnt kk l + cnt kk k)) ∧ (¬ g = 0 → cnt kk d = cnt kk l))
    (hA0 : ¬ kk = i) (ea : cnt kk a = cnt kk l) :
    ∃ h ob, stopV [0, 1, 5, 7, 8, 9, 10, 11, 12, 13, 14, 15, 16, 97] [0, 1, 2, 3, 4, 5, 6, 7] (rndK (LK.2.length + 1) h l k a b c d x x1 x2 x3 i left sI sn e f g kk) = some (KK, TKv l k a b c d x x1 x2 x3 i left sI sn e f g kk, TKm l k a b c d x x1 x2 x3 sI sn, ob) ∧ allP ob := by
  obtain ⟨w1, w2, w3, w4, w5, w6⟩ := w
  obtain ⟨o1, o2, o3, o4, o5, o6⟩ := o
  obtain ⟨n1, n2, n3, n4⟩ := n
  obtain ⟨h0, hk, kx⟩ := hk
  obtain ⟨zl, zl'⟩ := zl
  obtain ⟨zk, zk'⟩ := zk
  have app : ∀ {A : Type} {F G : Rows2 → Rows2 → Rows2 → Rows2 → Rows2 → Rows2 → Int → Int → Int → Int → Int → Int → Int → Int → Int → Int → Int → Int → A}, F = G → F l k a b c d x x1 x2 x3 i left sI sn e f g kk = G l k a b c d x x1 x2 x3 i left sI sn e f g kk := fun h => by rw [h]
  have H := And.intro w1 (And.intro w2 (And.intro w3 (And.intro w4 (And.intro w5 (And.intro w6 (And.intro o1 (And.intro o2 (And.intro o3 (And.intro o4 (And.intro o5 (And.intro o6 (And.intro n1.symm (And.intro n2.symm (And.intro n3.symm (And.intro n4.symm (And.intro h0 (And.intro hk (And.intro kx (And.intro zl (And.intro zl' (And.intro zk zk')))))))))))))))))))))
  by_cases hB0 : kk = sI
  · by_cases hB1 : kk = 0
    · have eb := cb.2 (.inr hB1)
      have ec := cc.2 (.inl hA0)
      by_cases hD : g = 0
      · obtain ⟨ed, zd, zd'⟩ := cd.1 hD
        exact ⟨_, _, app krF_TF_F_T, by simp [allP, H, hA0, ea, eq_true hB0, eq_true hB1, eb, ec, eq_true hD, ed, zd, zd']⟩
      · have ed := cd.2 hD
        exact ⟨_, _, app krF_TF_F_F, by simp [allP, H, hA0, ea, eq_true hB0, eq_true hB1, eb, ec, hD, ed]⟩
    · obtain ⟨eb, zb, zb'⟩ := cb.1 hB0 hB1
      have ec := cc.2 (.inl hA0)
      by_cases hD : g = 0
      · obtain ⟨ed, zd, zd'⟩ := cd.1 hD
        exact ⟨_, _, app krF_TT_F_T, by simp [allP, H, hA0, ea, eq_true hB0, hB1, eb, zb, zb', ec, eq_true hD, ed, zd, zd']⟩
      · have ed := cd.2 hD
        exact ⟨_, _, app krF_TT_F_F, by simp [allP, H, hA0, ea, eq_true hB0, hB1, eb, zb, zb', ec, hD, ed]⟩
  · have eb := cb.2 (.inl hB0)
    have ec := cc.2 (.inl hA0)
    by_cases hD : g = 0
    · obtain ⟨ed, zd, zd'⟩ := cd.1 hD
      exact ⟨_, _, app krF_F_F_T, by simp [allP, H, hA0, ea, hB0, eb, ec, eq_true hD, ed, zd, zd']⟩
    · have ed := cd.2 hD
      exact ⟨_, _, app krF_F_F_F, by simp [allP, H, hA0, ea, hB0, eb, ec, hD, ed]⟩
theorem kpTF {l k a b c d : Rows2} {x x1 x2 x3 i left sI sn e f g kk : Int} (w : wfL l ∧ wfL k ∧ wfL a ∧ wfL b ∧ wfL c ∧ wfL d) (o : l.all okR = true ∧ k.all okR = true ∧ a.all okR = true ∧ b.all okR = true ∧ c.all okR = true ∧ d.all okR = true)
    (n : l.length = a.length ∧ l.length = b.length ∧ l.length = c.length ∧ l.length = d.length) (hk : 0 ≤ kk ∧ kk < 15 ∧ kk < 256) (zl : inB (cnt kk l)) (zk : inB (cnt kk k))
    (cb : (kk = sI → ¬ kk = 0 → cnt kk b = cnt kk l - sn ∧ inB (cnt kk l - sn)) ∧ ((¬ kk = sI ∨ kk = 0) → cnt kk b = cnt kk l))
    (cc : (kk = i → f = 0 → cnt kk c = cnt kk l - x1 ∧ inB (cnt kk l - x1)) ∧ ((¬ kk = i ∨ ¬ f = 0) → cnt kk c = cnt kk l))
    (cd : (g = 0 → cnt kk d = cnt kk l + cnt kk k ∧ inB (cnt kk l + cnt kk k)) ∧ (¬ g = 0 → cnt kk d = cnt kk l))
    (hA0 : kk = i) (hA1 : ¬ 0 < x1) (ea : cnt kk a = cnt kk l) :
    ∃ h ob, stopV [0, 1, 5, 7, 8, 9, 10, 11, 12, 13, 14, 15, 16, 97] [0, 1, 2, 3, 4, 5, 6, 7] (rndK (LK.2.length + 1) h l k a b c d x x1 x2 x3 i left sI sn e f g kk) = some (KK, TKv l k a b c d x x1 x2 x3 i left sI sn e f g kk, TKm l k a b c d x x1 x2 x3 sI sn, ob) ∧ allP ob := by
  obtain ⟨w1, w2, w3, w4, w5, w6⟩ := w
  obtain ⟨o1, o2, o3, o4, o5, o6⟩ := o
  obtain ⟨n1, n2, n3, n4⟩ := n
  obtain ⟨h0, hk, kx⟩ := hk
  obtain ⟨zl, zl'⟩ := zl
  obtain ⟨zk, zk'⟩ := zk
  have app : ∀ {A : Type} {F G : Rows2 → Rows2 → Rows2 → Rows2 → Rows2 → Rows2 → Int → Int → Int → Int → Int → Int → Int → Int → Int → Int → Int → Int → A}, F = G → F l k a b c d x x1 x2 x3 i left sI sn e f g kk = G l k a b c d x x1 x2 x3 i left sI sn e f g kk := fun h => by rw [h]
  have H := And.intro w1 (And.intro w2 (And.intro w3 (And.intro w4 (And.intro w5 (And.intro w6 (And.intro o1 (And.intro o2 (And.intro o3 (And.intro o4 (And.intro o5 (And.intro o6 (And.intro n1.symm (And.intro n2.symm (And.intro n3.symm (And.intro n4.symm (And.intro h0 (And.intro hk (And.intro kx (And.intro zl (And.intro zl' (And.intro zk zk')))))))))))))))))))))
  by_cases hB0 : kk = sI
  · by_cases hB1 : kk = 0
    · have eb := cb.2 (.inr hB1)
      by_cases hC : f = 0
      · obtain ⟨ec, zc, zc'⟩ := cc.1 hA0 hC
        by_cases hD : g = 0
        · obtain ⟨ed, zd, zd'⟩ := cd.1 hD
          exact ⟨_, _, app krTF_TF_TT_T, by simp [allP, H, eq_true hA0, hA1, ea, eq_true hB0, eq_true hB1, eb, eq_true hC, ec, zc, zc', eq_true hD, ed, zd, zd']⟩
        · have ed := cd.2 hD
          exact ⟨_, _, app krTF_TF_TT_F, by simp [allP, H, eq_true hA0, hA1, ea, eq_true hB0, eq_true hB1, eb, eq_true hC, ec, zc, zc', hD, ed]⟩
      · have ec := cc.2 (.inr hC)
        by_cases hD : g = 0
        · obtain ⟨ed, zd, zd'⟩ := cd.1 hD
          exact ⟨_, _, app krTF_TF_TF_T, by simp [allP, H, eq_true hA0, hA1, ea, eq_true hB0, eq_true hB1, eb, hC, ec, eq_true hD, ed, zd, zd']⟩
        · have ed := cd.2 hD
          exact ⟨_, _, app krTF_TF_TF_F, by simp [allP, H, eq_true hA0, hA1, ea, eq_true hB0, eq_true hB1, eb, hC, ec, hD, ed]⟩
    · obtain ⟨eb, zb, zb'⟩ := cb.1 hB0 hB1
      by_cases hC : f = 0
      · obtain ⟨ec, zc, zc'⟩ := cc.1 hA0 hC
        by_cases hD : g = 0
        · obtain ⟨ed, zd, zd'⟩ := cd.1 hD
          exact ⟨_, _, app krTF_TT_TT_T, by simp [allP, H, eq_true hA0, hA1, ea, eq_true hB0, hB1, eb, zb, zb', eq_true hC, ec, zc, zc', eq_true hD, ed, zd, zd']⟩
        · have ed := cd.2 hD
          exact ⟨_, _, app krTF_TT_TT_F, by simp [allP, H, eq_true hA0, hA1, ea, eq_true hB0, hB1, eb, zb, zb', eq_true hC, ec, zc, zc', hD, ed]⟩
      · have ec := cc.2 (.inr hC)
        by_cases hD : g = 0
        · obtain ⟨ed, zd, zd'⟩ := cd.1 hD
          exact ⟨_, _, app krTF_TT_TF_T, by simp [allP, H, eq_true hA0, hA1, ea, eq_true hB0, hB1, eb, zb, zb', hC, ec, eq_true hD, ed, zd, zd']⟩
        · have ed := cd.2 hD
          exact ⟨_, _, app krTF_TT_TF_F, by simp [allP, H, eq_true hA0, hA1, ea, eq_true hB0, hB1, eb, zb, zb', hC, ec, hD, ed]⟩
  · have eb := cb.2 (.inl hB0)
    by_cases hC : f = 0
    · obtain ⟨ec, zc, zc'⟩ := cc.1 hA0 hC
      by_cases hD : g = 0
      · obtain ⟨ed, zd, zd'⟩ := cd.1 hD
        exact ⟨_, _, app krTF_F_TT_T, by simp [allP, H, eq_true hA0, hA1, ea, hB0, eb, eq_true hC, ec, zc, zc', eq_true hD, ed, zd, zd']⟩
      · have ed := cd.2 hD
        exact ⟨_, _, app krTF_F_TT_F, by simp [allP, H, eq_true hA0, hA1, ea, hB0, eb, eq_true hC, ec, zc, zc', hD, ed]⟩
    · have ec := cc.2 (.inr hC)
      by_cases hD : g = 0
      · obtain ⟨ed, zd, zd'⟩ := cd.1 hD
        exact ⟨_, _, app krTF_F_TF_T, by simp [allP, H, eq_true hA0, hA1, ea, hB0, eb, hC, ec, eq_true hD, ed, zd, zd']⟩
      · have ed := cd.2 hD
        exact ⟨_, _, app krTF_F_TF_F, by simp [allP, H, eq_true hA0, hA1, ea, hB0, eb, hC, ec, hD, ed]⟩
theorem kpTTF {l k a b c d : Rows2} {x x1 x2 x3 i left sI sn e f g kk : Int} (w : wfL l ∧ wfL k ∧ wfL a ∧ wfL b ∧ wfL c ∧ wfL d) (o : l.all okR = true ∧ k.all okR = true ∧ a.all okR = true ∧ b.all okR = true ∧ c.all okR = true ∧ d.all okR = true)
    (n : l.length = a.length ∧ l.length = b.length ∧ l.length = c.length ∧ l.length = d.length) (hk : 0 ≤ kk ∧ kk < 15 ∧ kk < 256) (zl : inB (cnt kk l)) (zk : inB (cnt kk k))
    (cb : (kk = sI → ¬ kk = 0 → cnt kk b = cnt kk l - sn ∧ inB (cnt kk l - sn)) ∧ ((¬ kk = sI ∨ kk = 0) → cnt kk b = cnt kk l))
    (cc : (kk = i → f = 0 → cnt kk c = cnt kk l - x1 ∧ inB (cnt kk l - x1)) ∧ ((¬ kk = i ∨ ¬ f = 0) → cnt kk c = cnt kk l))
    (cd : (g = 0 → cnt kk d = cnt kk l + cnt kk k ∧ inB (cnt kk l + cnt kk k)) ∧ (¬ g = 0 → cnt kk d = cnt kk l))
    (hA0 : kk = i) (hA1 : 0 < x1) (hA2 : kk = 0) (ea : cnt kk a = cnt kk l) :
    ∃ h ob, stopV [0, 1, 5, 7, 8, 9, 10, 11, 12, 13, 14, 15, 16, 97] [0, 1, 2, 3, 4, 5, 6, 7] (rndK (LK.2.length + 1) h l k a b c d x x1 x2 x3 i left sI sn e f g kk) = some (KK, TKv l k a b c d x x1 x2 x3 i left sI sn e f g kk, TKm l k a b c d x x1 x2 x3 sI sn, ob) ∧ allP ob := by
  obtain ⟨w1, w2, w3, w4, w5, w6⟩ := w
  obtain ⟨o1, o2, o3, o4, o5, o6⟩ := o
  obtain ⟨n1, n2, n3, n4⟩ := n
  obtain ⟨h0, hk, kx⟩ := hk
  obtain ⟨zl, zl'⟩ := zl
  obtain ⟨zk, zk'⟩ := zk
  have app : ∀ {A : Type} {F G : Rows2 → Rows2 → Rows2 → Rows2 → Rows2 → Rows2 → Int → Int → Int → Int → Int → Int → Int → Int → Int → Int → Int → Int → A}, F = G → F l k a b c d x x1 x2 x3 i left sI sn e f g kk = G l k a b c d x x1 x2 x3 i left sI sn e f g kk := fun h => by rw [h]
  have H := And.intro w1 (And.intro w2 (And.intro w3 (And.intro w4 (And.intro w5 (And.intro w6 (And.intro o1 (And.intro o2 (And.intro o3 (And.intro o4 (And.intro o5 (And.intro o6 (And.intro n1.symm (And.intro n2.symm (And.intro n3.symm (And.intro n4.symm (And.intro h0 (And.intro hk (And.intro kx (And.intro zl (And.intro zl' (And.intro zk zk')))))))))))))))))))))
  by_cases hB0 : kk = sI
  · have eb := cb.2 (.inr hA2)
    by_cases hC : f = 0
    · obtain ⟨ec, zc, zc'⟩ := cc.1 hA0 hC
      by_cases hD : g = 0
      · obtain ⟨ed, zd, zd'⟩ := cd.1 hD
        exact ⟨_, _, app krTTF_TF_TT_T, by simp [allP, H, eq_true hA0, eq_true hA1, eq_true hA2, ea, eq_true hB0, eb, eq_true hC, ec, zc, zc', eq_true hD, ed, zd, zd']⟩
      · have ed := cd.2 hD
        exact ⟨_, _, app krTTF_TF_TT_F, by simp [allP, H, eq_true hA0, eq_true hA1, eq_true hA2, ea, eq_true hB0, eb, eq_true hC, ec, zc, zc', hD, ed]⟩
    · have ec := cc.2 (.inr hC)
      by_cases hD : g = 0
      · obtain ⟨ed, zd, zd'⟩ := cd.1 hD
        exact ⟨_, _, app krTTF_TF_TF_T, by simp [allP, H, eq_true hA0, eq_true hA1, eq_true hA2, ea, eq_true hB0, eb, hC, ec, eq_true hD, ed, zd, zd']⟩
      · have ed := cd.2 hD
        exact ⟨_, _, app krTTF_TF_TF_F, by simp [allP, H, eq_true hA0, eq_true hA1, eq_true hA2, ea, eq_true hB0, eb, hC, ec, hD, ed]⟩
  · have eb := cb.2 (.inl hB0)
    by_cases hC : f = 0
    · obtain ⟨ec, zc, zc'⟩ := cc.1 hA0 hC
      by_cases hD : g = 0
      · obtain ⟨ed, zd, zd'⟩ := cd.1 hD
        exact ⟨_, _, app krTTF_F_TT_T, by simp [allP, H, eq_true hA0, eq_true hA1, eq_true hA2, ea, hB0, eb, eq_true hC, ec, zc, zc', eq_true hD, ed, zd, zd']⟩
      · have ed := cd.2 hD
        exact ⟨_, _, app krTTF_F_TT_F, by simp [allP, H, eq_true hA0, eq_true hA1, eq_true hA2, ea, hB0, eb, eq_true hC, ec, zc, zc', hD, ed]⟩
    · have ec := cc.2 (.inr hC)
      by_cases hD : g = 0
      · obtain ⟨ed, zd, zd'⟩ := cd.1 hD
        exact ⟨_, _, app krTTF_F_TF_T, by simp [allP, H, eq_true hA0, eq_true hA1, eq_true hA2, ea, hB0, eb, hC, ec, eq_true hD, ed, zd, zd']⟩
      · have ed := cd.2 hD
        exact ⟨_, _, app krTTF_F_TF_F, by simp [allP, H, eq_true hA0, eq_true hA1, eq_true hA2, ea, hB0, eb, hC, ec, hD, ed]⟩
theorem kpTTTF {l k a b c d : Rows2} {x x1 x2 x3 i left sI sn e f g kk : Int} (w : wfL l ∧ wfL k ∧ wfL a ∧ wfL b ∧ wfL c ∧ wfL d) (o : l.all okR = true ∧ k.all okR = true ∧ a.all okR = true ∧ b.all okR = true ∧ c.all okR = true ∧ d.all okR = true)
    (n : l.length = a.length ∧ l.length = b.length ∧ l.length = c.length ∧ l.length = d.length) (hk : 0 ≤ kk ∧ kk < 15 ∧ kk < 256) (zl : inB (cnt kk l)) (zk : inB (cnt kk k))
    (cb : (kk = sI → ¬ kk = 0 → cnt kk b = cnt kk l - sn ∧ inB (cnt kk l - sn)) ∧ ((¬ kk = sI ∨ kk = 0) → cnt kk b = cnt kk l))
    (cc : (kk = i → f = 0 → cnt kk c = cnt kk l - x1 ∧ inB (cnt kk l - x1)) ∧ ((¬ kk = i ∨ ¬ f = 0) → cnt kk c = cnt kk l))
    (cd : (g = 0 → cnt kk d = cnt kk l + cnt kk k ∧ inB (cnt kk l + cnt kk k)) ∧ (¬ g = 0 → cnt kk d = cnt kk l))
    (hA0 : kk = i) (hA1 : 0 < x1) (hA2 : ¬ kk = 0) (hA3 : ¬ kk ≤ 12) (ea : cnt kk a = cnt kk l) :
    ∃ h ob, stopV [0, 1, 5, 7, 8, 9, 10, 11, 12, 13, 14, 15, 16, 97] [0, 1, 2, 3, 4, 5, 6, 7] (rndK (LK.2.length + 1) h l k a b c d x x1 x2 x3 i left sI sn e f g kk) = some (KK, TKv l k a b c d x x1 x2 x3 i left sI sn e f g kk, TKm l k a b c d x x1 x2 x3 sI sn, ob) ∧ allP ob := by
  obtain ⟨w1, w2, w3, w4, w5, w6⟩ := w
  obtain ⟨o1, o2, o3, o4, o5, o6⟩ := o
  obtain ⟨n1, n2, n3, n4⟩ := n
  obtain ⟨h0, hk, kx⟩ := hk
  obtain ⟨zl, zl'⟩ := zl
  obtain ⟨zk, zk'⟩ := zk
  have app : ∀ {A : Type} {F G : Rows2 → Rows2 → Rows2 → Rows2 → Rows2 → Rows2 → Int → Int → Int → Int → Int → Int → Int → Int → Int → Int → Int → Int → A}, F = G → F l k a b c d x x1 x2 x3 i left sI sn e f g kk = G l k a b c d x x1 x2 x3 i left sI sn e f g kk := fun h => by rw [h]
  have H := And.intro w1 (And.intro w2 (And.intro w3 (And.intro w4 (And.intro w5 (And.intro w6 (And.intro o1 (And.intro o2 (And.intro o3 (And.intro o4 (And.intro o5 (And.intro o6 (And.intro n1.symm (And.intro n2.symm (And.intro n3.symm (And.intro n4.symm (And.intro h0 (And.intro hk (And.intro kx (And.intro zl (And.intro zl' (And.intro zk zk')))))))))))))))))))))
  by_cases hB0 : kk = sI
  · obtain ⟨eb, zb, zb'⟩ := cb.1 hB0 hA2
    by_cases hC : f = 0
    · obtain ⟨ec, zc, zc'⟩ := cc.1 hA0 hC
      by_cases hD : g = 0
      · obtain ⟨ed, zd, zd'⟩ := cd.1 hD
        exact ⟨_, _, app krTTTF_TT_TT_T, by simp [allP, H, eq_true hA0, eq_true hA1, hA2, hA3, ea, eq_true hB0, eb, zb, zb', eq_true hC, ec, zc, zc', eq_true hD, ed, zd, zd']⟩
      · have ed := cd.2 hD
        exact ⟨_, _, app krTTTF_TT_TT_F, by simp [allP, H, eq_true hA0, eq_true hA1, hA2, hA3, ea, eq_true hB0, eb, zb, zb', eq_true hC, ec, zc, zc', hD, ed]⟩
    · have ec := cc.2 (.inr hC)
      by_cases hD : g = 0
      · obtain ⟨ed, zd, zd'⟩ := cd.1 hD
        exact ⟨_, _, app krTTTF_TT_TF_T, by simp [allP, H, eq_true hA0, eq_true hA1, hA2, hA3, ea, eq_true hB0, eb, zb, zb', hC, ec, eq_true hD, ed, zd, zd']⟩
      · have ed := cd.2 hD
        exact ⟨_, _, app krTTTF_TT_TF_F, by simp [allP, H, eq_true hA0, eq_true hA1, hA2, hA3, ea, eq_true hB0, eb, zb, zb', hC, ec, hD, ed]⟩
  · have eb := cb.2 (.inl hB0)
    by_cases hC : f = 0
    · obtain ⟨ec, zc, zc'⟩ := cc.1 hA0 hC
      by_cases hD : g = 0
      · obtain ⟨ed, zd, zd'⟩ := cd.1 hD
        exact ⟨_, _, app krTTTF_F_TT_T, by simp [allP, H, eq_true hA0, eq_true hA1, hA2, hA3, ea, hB0, eb, eq_true hC, ec, zc, zc', eq_true hD, ed, zd, zd']⟩
      · have ed := cd.2 hD
        exact ⟨_, _, app krTTTF_F_TT_F, by simp [allP, H, eq_true hA0, eq_true hA1, hA2, hA3, ea, hB0, eb, eq_true hC, ec, zc, zc', hD, ed]⟩
    · have ec := cc.2 (.inr hC)
      by_cases hD : g = 0
      · obtain ⟨ed, zd, zd'⟩ := cd.1 hD
        exact ⟨_, _, app krTTTF_F_TF_T, by simp [allP, H, eq_true hA0, eq_true hA1, hA2, hA3, ea, hB0, eb, hC, ec, eq_true hD, ed, zd, zd']⟩
      · have ed := cd.2 hD
        exact ⟨_, _, app krTTTF_F_TF_F, by simp [allP, H, eq_true hA0, eq_true hA1, hA2, hA3, ea, hB0, eb, hC, ec, hD, ed]⟩
theorem kpTTTT {l k a b c d : Rows2} {x x1 x2 x3 i left sI sn e f g kk : Int} (w : wfL l ∧ wfL k ∧ wfL a ∧ wfL b ∧ wfL c ∧ wfL d) (o : l.all okR = true ∧ k.all okR = true ∧ a.all okR = true ∧ b.all okR = true ∧ c.all okR = true ∧ d.all okR = true)
    (n : l.length = a.length ∧ l.length = b.length ∧ l.length = c.length ∧ l.length = d.length) (hk : 0 ≤ kk ∧ kk < 15 ∧ kk < 256) (zl : inB (cnt kk l)) (zk : inB (cnt kk k))
    (cb : (kk = sI → ¬ kk = 0 → cnt kk b = cnt kk l - sn ∧ inB (cnt kk l - sn)) ∧ ((¬ kk = sI ∨ kk = 0) → cnt kk b = cnt kk l))
    (cc : (kk = i → f = 0 → cnt kk c = cnt kk l - x1 ∧ inB (cnt kk l - x1)) ∧ ((¬ kk = i ∨ ¬ f = 0) → cnt kk c = cnt kk l))
    (cd : (g = 0 → cnt kk d = cnt kk l + cnt kk k ∧ inB (cnt kk l + cnt kk k)) ∧ (¬ g = 0 → cnt kk d = cnt kk l))
    (hA0 : kk = i) (hA1 : 0 < x1) (hA2 : ¬ kk = 0) (hA3 : kk ≤ 12) (ea : cnt kk a = cnt kk l + (x1 - left)) (zx : inB (x1 - left)) (za : inB (cnt kk l + (x1 - left))) :
    ∃ h ob, stopV [0, 1, 5, 7, 8, 9, 10, 11, 12, 13, 14, 15, 16, 97] [0, 1, 2, 3, 4, 5, 6, 7] (rndK (LK.2.length + 1) h l k a b c d x x1 x2 x3 i left sI sn e f g kk) = some (KK, TKv l k a b c d x x1 x2 x3 i left sI sn e f g kk, TKm l k a b c d x x1 x2 x3 sI sn, ob) ∧ allP ob := by
  obtain ⟨w1, w2, w3, w4, w5, w6⟩ := w
  obtain ⟨o1, o2, o3, o4, o5, o6⟩ := o
  obtain ⟨n1, n2, n3, n4⟩ := n
  obtain ⟨h0, hk, kx⟩ := hk
  obtain ⟨zl, zl'⟩ := zl
  obtain ⟨zk, zk'⟩ := zk
  have app : ∀ {A : Type} {F G : Rows2 → Rows2 → Rows2 → Rows2 → Rows2 → Rows2 → Int → Int → Int → Int → Int → Int → Int → Int → Int → Int → Int → Int → A}, F = G → F l k a b c d x x1 x2 x3 i left sI sn e f g kk = G l k a b c d x x1 x2 x3 i left sI sn e f g kk := fun h => by rw [h]
  obtain ⟨zx, zx'⟩ := zx
  obtain ⟨za, za'⟩ := za
  have H := And.intro w1 (And.intro w2 (And.intro w3 (And.intro w4 (And.intro w5 (And.intro w6 (And.intro o1 (And.intro o2 (And.intro o3 (And.intro o4 (And.intro o5 (And.intro o6 (And.intro n1.symm (And.intro n2.symm (And.intro n3.symm (And.intro n4.symm (And.intro h0 (And.intro hk (And.intro kx (And.intro zl (And.intro zl' (And.intro zk zk')))))))))))))))))))))
  by_cases hB0 : kk = sI
  · obtain ⟨eb, zb, zb'⟩ := cb.1 hB0 hA2
    by_cases hC : f = 0
    · obtain ⟨ec, zc, zc'⟩ := cc.1 hA0 hC
      by_cases hD : g = 0
      · obtain ⟨ed, zd, zd'⟩ := cd.1 hD
        exact ⟨_, _, app krTTTT_TT_TT_T, by simp [allP, H, eq_true hA0, eq_true hA1, hA2, eq_true hA3, ea, zx, zx', za, za', eq_true hB0, eb, zb, zb', eq_true hC, ec, zc, zc', eq_true hD, ed, zd, zd']⟩
      · have ed := cd.2 hD
        exact ⟨_, _, app krTTTT_TT_TT_F, by simp [allP, H, eq_true hA0, eq_true hA1, hA2, eq_true hA3, ea, zx, zx', za, za', eq_true hB0, eb, zb, zb', eq_true hC, ec, zc, zc', hD, ed]⟩
    · have ec := cc.2 (.inr hC)
      by_cases hD : g = 0
      · obtain ⟨ed, zd, zd'⟩ := cd.1 hD
        exact ⟨_, _, app krTTTT_TT_TF_T, by simp [allP, H, eq_true hA0, eq_true hA1, hA2, eq_true hA3, ea, zx, zx', za, za', eq_true hB0, eb, zb, zb', hC, ec, eq_true hD, ed, zd, zd']⟩
      · have ed := cd.2 hD
        exact ⟨_, _, app krTTTT_TT_TF_F, by simp [allP, H, eq_true hA0, eq_true hA1, hA2, eq_true hA3, ea, zx, zx', za, za', eq_true hB0, eb, zb, zb', hC, ec, hD, ed]⟩
  · have eb := cb.2 (.inl hB0)
    by_cases hC : f = 0
    · obtain ⟨ec, zc, zc'⟩ := cc.1 hA0 hC
      by_cases hD : g = 0
      · obtain ⟨ed, zd, zd'⟩ := cd.1 hD
        exact ⟨_, _, app krTTTT_F_TT_T, by simp [allP, H, eq_true hA0, eq_true hA1, hA2, eq_true hA3, ea, zx, zx', za, za', hB0, eb, eq_true hC, ec, zc, zc', eq_true hD, ed, zd, zd']⟩
      · have ed := cd.2 hD
        exact ⟨_, _, app krTTTT_F_TT_F, by simp [allP, H, eq_true hA0, eq_true hA1, hA2, eq_true hA3, ea, zx, zx', za, za', hB0, eb, eq_true hC, ec, zc, zc', hD, ed]⟩
    · have ec := cc.2 (.inr hC)
      by_cases hD : g = 0
      · obtain ⟨ed, zd, zd'⟩ := cd.1 hD
        exact ⟨_, _, app krTTTT_F_TF_T, by simp [allP, H, eq_true hA0, eq_true hA1, hA2, eq_true hA3, ea, zx, zx', za, za', hB0, eb, hC, ec, eq_true hD, ed, zd, zd']⟩
      · have ed := cd.2 hD
        exact ⟨_, _, app krTTTT_F_TF_F, by simp [allP, H, eq_true hA0, eq_true hA1, hA2, eq_true hA3, ea, zx, zx', za, za', hB0, eb, hC, ec, hD, ed]⟩
/-- what is known of the four bags, and of an item in them -/
structure KFacts (l k a b c d : Rows2) (x1 i left sI sn e f g : Int) : Prop where
  w : wfL l ∧ wfL k ∧ wfL a ∧ wfL b ∧ wfL c ∧ wfL d
  o : l.all okR = true ∧ k.all okR = true ∧ a.all okR = true ∧ b.all okR = true ∧ c.all okR = true ∧ d.all okR = true
  n : l.length = a.length ∧ l.length = b.length ∧ l.length = c.length ∧ l.length = d.length
  bd : ∀ x, (0 ≤ cnt x l ∧ cnt x l ≤ 6400) ∧ (0 ≤ cnt x k ∧ cnt x k ≤ 6400) ∧ (0 ≤ cnt x a ∧ cnt x a ≤ 6400) ∧ (0 ≤ cnt x b ∧ cnt x b ≤ 6400) ∧ (0 ≤ cnt x c ∧ cnt x c ≤ 6400) ∧ (0 ≤ cnt x d ∧ cnt x d ≤ 6400)
  x1b : x1 ≤ 9223372036854775807
  lf : 0 ≤ left ∧ (0 < x1 → left ≤ x1)
  ce : e = 0 ↔ 0 < sn
  ca : ∀ x, 0 ≤ x → x < 15 → (x = i ∧ 0 < x1 ∧ x ≠ 0 ∧ x ≤ 12 → cnt x a = cnt x l + (x1 - left)) ∧ (¬(x = i ∧ 0 < x1 ∧ x ≠ 0 ∧ x ≤ 12) → cnt x a = cnt x l)
  cb : ∀ x, 0 ≤ x → x < 15 → (x = sI ∧ x ≠ 0 → cnt x b = cnt x l - sn) ∧ (¬(x = sI ∧ x ≠ 0) → cnt x b = cnt x l)
  cc : ∀ x, 0 ≤ x → x < 15 → (x = i ∧ f = 0 → cnt x c = cnt x l - x1) ∧ (¬(x = i ∧ f = 0) → cnt x c = cnt x l)
  cd : ∀ x, 0 ≤ x → x < 15 → (g = 0 → cnt x d = cnt x l + cnt x k) ∧ (g ≠ 0 → cnt x d = cnt x l)
theorem keep_loop {l k a b c d : Rows2} {x x1 x2 x3 i left sI sn e f g : Int} (K : KFacts l k a b c d x1 i left sI sn e f g) {W : World} {e1 e2 : E}
    {ρ' : Env} {ac : Act} {w : World} (hr : Rel ([e1, e2] ++ ρ') (upto W) W FK.ntmps (TK l k a b c d x x1 x2 x3 i left sI sn e f g 0 []) ac w) : Goes Try.prog 6 (EndK W) EK ac w := by
  refine goes_loop (ρ0 := [e1, e2]) (fun kk : Int => TK l k a b c d x x1 x2 x3 i left sI sn e f g kk []) (fun kk => 0 ≤ kk ∧ kk ≤ 15) (fun kk => (15 - kk).toNat) ?_ ⟨Int.le_refl _, by omega⟩ hr
  intro kk hg ρ' ac w hri ih
  obtain ⟨h0, h15⟩ := hg
  obtain ⟨w1, w2, w3, w4, w5, w6⟩ := K.w
  obtain ⟨o1, o2, o3, o4, o5, o6⟩ := K.o
  obtain ⟨n1, n2, n3, n4⟩ := K.n
  obtain ⟨hl0, hl1⟩ := K.lf
  have hce := K.ce
  have app : ∀ {A : Type} {F G : Rows2 → Rows2 → Rows2 → Rows2 → Rows2 → Rows2 → Int → Int → Int → Int → Int → Int → Int → Int → Int → Int → Int → Int → A}, F = G → F l k a b c d x x1 x2 x3 i left sI sn e f g kk = G l k a b c d x x1 x2 x3 i left sI sn e f g kk := fun h => by rw [h]
  by_cases hk : kk < 15
  · obtain ⟨⟨b1, b1'⟩, ⟨b2, b2'⟩, ⟨b3, b3'⟩, ⟨b4, b4'⟩, ⟨b5, b5'⟩, ⟨b6, b6'⟩⟩ := K.bd kk
    have ca := K.ca kk h0 hk
    have cb := K.cb kk h0 hk
    have cc := K.cc kk h0 hk
    have cd := K.cd kk h0 hk
    have hx1 := K.x1b
    clear hce K
    have hw8 : IntKind.wrap .u8 (kk + 1) = kk + 1 := by
      simp [IntKind.wrap, IntKind.signed, IntKind.bits]; omega
    have key : ∃ h ob, stopV [0, 1, 5, 7, 8, 9, 10, 11, 12, 13, 14, 15, 16, 97] [0, 1, 2, 3, 4, 5, 6, 7] (rndK (LK.2.length + 1) h l k a b c d x x1 x2 x3 i left sI sn e f g kk) = some (KK, TKv l k a b c d x x1 x2 x3 i left sI sn e f g kk, TKm l k a b c d x x1 x2 x3 sI sn, ob) ∧ allP ob := by
      have zl : inB (cnt kk l) := by unfold inB; omega
      have zk : inB (cnt kk k) := by unfold inB; omega
      have cb' : (kk = sI → ¬ kk = 0 → cnt kk b = cnt kk l - sn ∧ inB (cnt kk l - sn)) ∧ ((¬ kk = sI ∨ kk = 0) → cnt kk b = cnt kk l) := ⟨fun p q => by have := cb.1 ⟨p, q⟩; exact ⟨this, by unfold inB; omega⟩, fun p => cb.2 (fun q => p.elim (fun r => r q.1) (fun r => q.2 r))⟩
      have cc' : (kk = i → f = 0 → cnt kk c = cnt kk l - x1 ∧ inB (cnt kk l - x1)) ∧ ((¬ kk = i ∨ ¬ f = 0) → cnt kk c = cnt kk l) := ⟨fun p q => by have := cc.1 ⟨p, q⟩; exact ⟨this, by unfold inB; omega⟩, fun p => cc.2 (fun q => p.elim (fun r => r q.1) (fun r => r q.2))⟩
      have cd' : (g = 0 → cnt kk d = cnt kk l + cnt kk k ∧ inB (cnt kk l + cnt kk k)) ∧ (¬ g = 0 → cnt kk d = cnt kk l) := ⟨fun p => by have := cd.1 p; exact ⟨this, by unfold inB; omega⟩, cd.2⟩
      have kx : kk < 256 := by omega
      by_cases hA0 : kk = i
      · by_cases hA1 : 0 < x1
        · by_cases hA2 : kk = 0
          · have ea := ca.2 (fun q => q.2.2.1 hA2)
            exact kpTTF ⟨w1, w2, w3, w4, w5, w6⟩ ⟨o1, o2, o3, o4, o5, o6⟩ ⟨n1, n2, n3, n4⟩ ⟨h0, hk, kx⟩ zl zk cb' cc' cd' hA0 hA1 hA2 ea
          · by_cases hA3 : kk ≤ 12
            · have ea := ca.1 ⟨hA0, hA1, hA2, hA3⟩
              exact kpTTTT ⟨w1, w2, w3, w4, w5, w6⟩ ⟨o1, o2, o3, o4, o5, o6⟩ ⟨n1, n2, n3, n4⟩ ⟨h0, hk, kx⟩ zl zk cb' cc' cd' hA0 hA1 hA2 hA3 ea (by have := hl1 hA1; unfold inB; omega) (by have := hl1 hA1; unfold inB; omega)
            · have ea := ca.2 (fun q => hA3 q.2.2.2)
              exact kpTTTF ⟨w1, w2, w3, w4, w5, w6⟩ ⟨o1, o2, o3, o4, o5, o6⟩ ⟨n1, n2, n3, n4⟩ ⟨h0, hk, kx⟩ zl zk cb' cc' cd' hA0 hA1 hA2 hA3 ea
        · have ea := ca.2 (fun q => hA1 q.2.1)
          exact kpTF ⟨w1, w2, w3, w4, w5, w6⟩ ⟨o1, o2, o3, o4, o5, o6⟩ ⟨n1, n2, n3, n4⟩ ⟨h0, hk, kx⟩ zl zk cb' cc' cd' hA0 hA1 ea
      · have ea := ca.2 (fun q => hA0 q.1)
        exact kpF ⟨w1, w2, w3, w4, w5, w6⟩ ⟨o1, o2, o3, o4, o5, o6⟩ ⟨n1, n2, n3, n4⟩ ⟨h0, hk, kx⟩ zl zk cb' cc' cd' hA0 ea
    obtain ⟨h, ob, hv, hob⟩ := key
    refine goes_stop (ρ0 := [e1, e2]) (r := [2, 3, 4, 5, 6, 7]) (T := TK l k a b c d x x1 x2 x3 i left sI sn e f g (kk + 1) []) (callL_ok 4) funK hv hob ⟨(by decide : ([0, 1, 2, 3, 4, 5, 6, 7] : List Nat).Nodup), ?_, ?_⟩
      (fun ρ' a w hh => ih (kk + 1) ⟨by omega, by omega⟩ (by omega) ρ' a w hh) (S := TK l k a b c d x x1 x2 x3 i left sI sn e f g kk h) ⟨hri.sl, hri.m⟩
    · simp [TK, TKv, leSlots, leV, leV1, leC, si, sl, sl2, N.v, hw8]
    · simp [TK, TKm, leBs, leB, leCells, leL, leC, ro, ow]
  · have : kk = 15 := by omega
    subst this
    refine goes_true (callL_ok 4) funK (S := TK l k a b c d x x1 x2 x3 i left sI sn e f g 15 [false, true, true]) (app krX) ?_ (fun w' h => ⟨rfl, h.toBelow⟩) (ρ0 := [e1, e2]) ⟨hri.sl, hri.m⟩
    simp only [allP, hce]; simp [hl0]
end Go.Proofs.Ytoonapmpckeceaa
