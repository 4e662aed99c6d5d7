/- Clocks that go on: plain laws. -/
import Derived.Test.YtackbdcpbkohoaaTakeW
namespace Go.Proofs.Ytackbdcpbkohoaa
open Go.RowKit
theorem set_at {ys : List Ck} {j : Nat} {x y : Ck} (hj : ys[j]? = some y) (i : Nat) : (ys.set j x)[i]? = if i = j then some x else ys[i]? := by
  have := (List.getElem?_eq_some_iff.1 hj).1
  by_cases e : i = j
  · subst e; rw [if_pos rfl, List.getElem?_set_self this]
  · rw [if_neg e, List.getElem?_set_ne (by omega)]
theorem Inj.step {ys : List Ck} (h : Inj ys) {j g : Nat} {s a s' : Int} (hj : ys[j]? = some (some (g, s, a))) : Inj (ys.set j (some (g, s', a))) := by
  have key : ∀ (i g2 : Nat) (s2 a2 : Int), (ys.set j (some (g, s', a)))[i]? = some (some (g2, s2, a2)) → ∃ s3 a3 : Int, ys[i]? = some (some (g2, s3, a3)) := by
    intro i g2 s2 a2 e
    rw [set_at hj] at e
    split at e
    · rename_i hi
      subst hi
      simp only [Option.some.injEq, Prod.mk.injEq] at e
      obtain ⟨rfl, _, _⟩ := e
      exact ⟨s, a, hj⟩
    · exact ⟨s2, a2, e⟩
  intro i k g2 s1 a1 s2 a2 e1 e2
  obtain ⟨x1, x2, x3⟩ := key i g2 s1 a1 e1
  obtain ⟨y1, y2, y3⟩ := key k g2 s2 a2 e2
  exact h i k g2 _ _ _ _ x3 y3
theorem Clks.step {B : Nat} {w w' : World} {ys : List Ck} (h : Clks B w ys) (hi : Inj ys) {j g : Nat} {s a s' : Int} (hj : ys[j]? = some (some (g, s, a))) (hg : w.grownBy w' (some g)) (hc : Clk w' g s' a) (hgood : GoodC s' a) : Clks B w' (ys.set j (some (g, s', a))) := by
  intro i g2 s2 a2 e
  rw [set_at hj] at e
  split at e
  · rename_i hh
    subst hh
    simp only [Option.some.injEq, Prod.mk.injEq] at e
    obtain ⟨rfl, rfl, rfl⟩ := e
    exact ⟨hc, (h i g s a hj).2.1, hgood⟩
  · rename_i hne
    obtain ⟨c, d, f⟩ := h i g2 s2 a2 e
    refine ⟨Blk.grown c hg (fun e2 => ?_), d, f⟩
    injection e2 with e2
    subst e2
    exact hne (hi i j g _ _ _ _ e hj)
theorem ptrs_step {ys : List Ck} {j g : Nat} {s a s' : Int} (hj : ys[j]? = some (some (g, s, a))) : (ys.set j (some (g, s', a))).map ptrV = ys.map ptrV := by
  refine List.ext_getElem? fun i => ?_
  rw [List.getElem?_map, List.getElem?_map, set_at hj]
  split
  · rename_i e; subst e; rw [hj]; rfl
  · rfl
/-- From one row of clocks to a later one; mv: whether one that is asked for went on. -/
structure Adv (xs ys : List Ck) (ps : List Int) (mv : Bool) : Prop where
  len : ys.length = xs.length
  noCk : ∀ j : Nat, xs[j]? = some none → ys[j]? = some none
  yesCk : ∀ (j g : Nat) (s a : Int), xs[j]? = some (some (g, s, a)) → ∃ s', s ≤ s' ∧ ys[j]? = some (some (g, s', a)) ∧ (s < s' → (j : Int) ∈ ps → mv = true)
  moved : mv = true → ∃ (j g : Nat) (s a s' : Int), xs[j]? = some (some (g, s, a)) ∧ ys[j]? = some (some (g, s', a)) ∧ s < s' ∧ (j : Int) ∈ ps
theorem Adv.refl (xs : List Ck) (ps : List Int) : Adv xs xs ps false :=
  ⟨rfl, fun _ h => h, fun j g s a h => ⟨s, by omega, h, fun h => by omega⟩, fun h => by cases h⟩
theorem Adv.step {xs ys : List Ck} {ps : List Int} {mv : Bool} (h : Adv xs ys ps mv) {j g : Nat} {s a : Int} (hj : ys[j]? = some (some (g, s, a))) : Adv xs (ys.set j (some (g, s + 1, a))) ps (mv || decide ((j : Int) ∈ ps)) := by
  have hx : ∃ s0, s0 ≤ s ∧ xs[j]? = some (some (g, s0, a)) := by
    have hl := (List.getElem?_eq_some_iff.1 hj).1
    rw [h.len] at hl
    have hxj := List.getElem?_eq_getElem hl
    generalize xs[j] = x at hxj
    rcases x with _ | ⟨g0, s0, a0⟩
    · have := h.noCk j hxj
      rw [hj] at this
      cases this
    · obtain ⟨s', h1, h2, _⟩ := h.yesCk j g0 s0 a0 hxj
      rw [hj] at h2
      simp only [Option.some.injEq, Prod.mk.injEq] at h2
      obtain ⟨rfl, rfl, rfl⟩ := h2
      exact ⟨s0, h1, hxj⟩
  obtain ⟨s0, h0, hxj⟩ := hx
  refine ⟨by rw [List.length_set, h.len], fun i hi => ?_, fun i g2 s2 a2 hi => ?_, fun hm => ?_⟩
  · rw [set_at hj]
    split
    · rename_i e; subst e; rw [hxj] at hi; cases hi
    · exact h.noCk i hi
  · rw [set_at hj]
    split
    · rename_i e
      subst e
      rw [hxj] at hi
      simp only [Option.some.injEq, Prod.mk.injEq] at hi
      obtain ⟨rfl, rfl, rfl⟩ := hi
      exact ⟨s + 1, by omega, rfl, fun _ hm => by simp [hm]⟩
    · obtain ⟨s', h1, h2, h3⟩ := h.yesCk i g2 s2 a2 hi
      exact ⟨s', h1, h2, fun a b => by rw [h3 a b]; rfl⟩
  · by_cases hp : (j : Int) ∈ ps
    · exact ⟨j, g, s0, a, s + 1, hxj, by rw [set_at hj, if_pos rfl], by omega, hp⟩
    · have hm' : mv = true := by simpa [hp] using hm
      obtain ⟨i, g2, s2, a2, s3, k1, k2, k3, k4⟩ := h.moved hm'
      have hij : i ≠ j := fun e => hp (e ▸ k4)
      exact ⟨i, g2, s2, a2, s3, k1, by rw [set_at hj, if_neg hij]; exact k2, k3, k4⟩
theorem adv_below {xs ys : List Ck} {ps : List Int} {mv : Bool} (h : Adv xs ys ps mv) : belowB (takeL xs ps) (takeL ys ps) = true := by
  refine belowB_yes (by rw [takeL_length, takeL_length, h.len]) fun i hi => ?_
  rw [takeL_length] at hi
  rw [takeL_at _ _ _ hi, takeL_at _ _ _ (by rw [h.len]; exact hi)]
  have hx := List.getElem?_eq_getElem hi
  generalize xs[i] = x at hx
  rcases x with _ | ⟨g, s, a⟩
  · rw [takeAt_none hx, takeAt_none (h.noCk i hx)]
    exact Int.le_refl _
  · obtain ⟨s', h1, h2, _⟩ := h.yesCk i g s a hx
    unfold takeAt
    rw [hx, h2]
    by_cases hm : (i : Int) ∈ ps
    · simp only [hm, if_true]; exact h1
    · simp only [hm, if_false]; exact Int.le_refl _
theorem adv_same {xs ys : List Ck} {ps : List Int} {mv : Bool} (h : Adv xs ys ps mv) : (decide (takeL xs ps = takeL ys ps) != mv) = true := by
  cases hmv : mv with
  | true =>
    obtain ⟨j, g, s, a, s', k1, k2, k3, k4⟩ := h.moved hmv
    have : takeL xs ps ≠ takeL ys ps := fun e => by
      have hl := (List.getElem?_eq_some_iff.1 k1).1
      have e1 := takeL_at xs ps j hl
      rw [e, takeL_at ys ps j (by rw [h.len]; exact hl)] at e1
      unfold takeAt at e1
      rw [k1, k2] at e1
      simp only [k4, if_true] at e1
      omega
    rw [decide_eq_false this]
    rfl
  | false =>
    have : takeL xs ps = takeL ys ps := by
      refine (list_eq_iff _ _ (by rw [takeL_length, takeL_length, h.len])).2 fun i hi => ?_
      rw [takeL_length] at hi
      rw [takeL_at _ _ _ hi, takeL_at _ _ _ (by rw [h.len]; exact hi)]
      have hx := List.getElem?_eq_getElem hi
      generalize xs[i] = x at hx
      rcases x with _ | ⟨g, s, a⟩
      · rw [takeAt_none hx, takeAt_none (h.noCk i hx)]
      · obtain ⟨s', h1, h2, h3⟩ := h.yesCk i g s a hx
        unfold takeAt
        rw [hx, h2]
        by_cases hm : (i : Int) ∈ ps
        · simp only [hm, if_true]
          by_cases hs : s < s'
          · have := h3 hs hm
            rw [hmv] at this
            cases this
          · omega
        · simp only [hm, if_false]
    rw [decide_eq_true this]
    rfl
end Go.Proofs.Ytackbdcpbkohoaa
