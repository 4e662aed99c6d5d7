/- The reference of layer 9, walked: All. -/
import Derived.Test.YtjgiiolamaimnaaAllIt
import Derived.Test.YtjgiiolamaimnaaRefRd
namespace Go.Proofs.Ytjgiiolamaimnaa
open Go.RowKit
set_option linter.unusedVariables false
set_option linter.unusedSimpArgs false
theorem own_apart9 {w : World} {B B' : Nat} {e e' : TypeId} {z z' n n' : Nat} {v v' : Value} {xs xs' : List Value} (h : w.ownsRow B e z v n xs) (h' : w.ownsRow B' e' z' v' n' xs') (hne : e ≠ e') : v.ownBlock = none ∨ v.ownBlock ≠ v'.ownBlock := by
  rcases h.2 with ⟨rfl, _⟩ | ⟨g, cap, cur, rfl, _, hg, _⟩
  · exact .inl rfl
  · rcases h'.2 with ⟨rfl, _⟩ | ⟨g', cap', cur', rfl, _, hg', _⟩
    · exact .inr (by simp [Value.ownBlock])
    · refine .inr fun e => ?_
      simp only [Value.ownBlock, Option.some.injEq] at e
      rw [e, hg'] at hg
      simp only [Option.some.injEq, Obj.cells.injEq] at hg
      exact hne hg.2.1.symm
/-- A frame that All tells: its end, its payload. -/
def fcell (x : Nat × Option Addr × Nat × Nat) : List Value := [.int .i64 (x.1 : Nat), .slice x.2.1 x.2.2.1 x.2.2.2]
theorem fcell_one (xs : List (Nat × Option Addr × Nat × Nat)) : ∀ u ∈ xs.flatMap fcell, u.oneCell' = true := by
  intro u hu
  obtain ⟨x, _, hx⟩ := List.mem_flatMap.1 hu
  simp only [fcell, List.mem_cons, List.not_mem_nil, or_false] at hx
  rcases hx with rfl | rfl <;> rfl
theorem info_found : (Try.prog.info? 47).map (fun i => (i.zero, i.size, i.bytes)) = some (some (.agg #[.int .i64 0, .slice none 0 0]), 2, 32) := by kernel_rfl
def fz : Nat × Option Addr × Nat × Nat := (0, none, 0, 0)
/-- The first k frames, as the reference's list tells them. -/
structure Tld (w : World) (B : Nat) (A : Option Addr) (c : Nat) (b : List UInt8) (k : Nat) (xs : List (Nat × Option Addr × Nat × Nat)) : Prop where
  len : xs.length = k
  own : w.ownsRow B 47 2 (.slice A k c) k (xs.flatMap fcell)
  each : ∀ j, j < k → (xs.getD j fz).1 = posL 0 (allF b) (j + 1) ∧ (xs.getD j fz).2.2.1 = ((allF b).getD j (0, [])).2.length ∧
    w.ownsRow B 5 1 (.slice (xs.getD j fz).2.1 (xs.getD j fz).2.2.1 (xs.getD j fz).2.2.2) (xs.getD j fz).2.2.1 (bvals ((allF b).getD j (0, [])).2)
theorem Tld.below {w w1 : World} {B : Nat} {A : Option Addr} {c : Nat} {b : List UInt8} {k : Nat} {xs : List (Nat × Option Addr × Nat × Nat)} (h : Tld w B A c b k xs) (hb : Below w.heap.size w w1) : Tld w1 B A c b k xs :=
  ⟨h.len, own_below h.own hb, fun j hj => ⟨(h.each j hj).1, (h.each j hj).2.1, own_below (h.each j hj).2.2 hb⟩⟩
theorem flat_at (xs : List (Nat × Option Addr × Nat × Nat)) : ∀ j, j < xs.length → (xs.flatMap fcell)[j * 2]? = some (.int .i64 ((xs.getD j fz).1 : Nat)) ∧ (xs.flatMap fcell)[j * 2 + 1]? = some (.slice (xs.getD j fz).2.1 (xs.getD j fz).2.2.1 (xs.getD j fz).2.2.2) := by
  induction xs with
  | nil => intro j hj; simp at hj
  | cons x tl ih =>
    intro j hj
    cases j with
    | zero => simp [fcell]
    | succ j =>
      have := ih j (by simpa using hj)
      rw [List.getD_cons_succ, List.flatMap_cons, show (j + 1) * 2 = (j * 2) + 1 + 1 by omega, show (j * 2) + 1 + 1 + 1 = (j * 2 + 1) + 1 + 1 by omega]
      exact this
theorem Tld.at_ {w : World} {B : Nat} {A : Option Addr} {c : Nat} {b : List UInt8} {k : Nat} {xs : List (Nat × Option Addr × Nat × Nat)} (h : Tld w B A c b k xs) {j : Nat} (hj : j < k) :
    ∃ g, A = some ⟨g, 0, none⟩ ∧ B ≤ g ∧ k ≤ c ∧ w.cell? ⟨g, j * 2, none⟩ = some (.int .i64 (posL 0 (allF b) (j + 1) : Nat)) ∧ w.cell? ⟨g, j * 2 + 1, none⟩ = some (.slice (xs.getD j fz).2.1 ((allF b).getD j (0, [])).2.length (xs.getD j fz).2.2.2) := by
  have hl := h.len
  have he := h.each j hj
  have hf := flat_at xs j (by omega)
  rw [he.1, he.2.1] at hf
  rcases h.own.2 with ⟨_, h0⟩ | ⟨g, cap, cur, hv, hb, hg, hn, hcm, hcs, ht⟩
  · omega
  · injection hv with h1 h2 h3
    subst h1
    subst h3
    refine ⟨g, rfl, hb, hn, ?_, ?_⟩
    · rw [cell_of_row _ _ _ _ _ _ hg, ← hf.1, ← ht, List.getElem?_take_of_lt (by omega), Array.getElem?_toList]
    · rw [cell_of_row _ _ _ _ _ _ hg, ← hf.2, ← ht, List.getElem?_take_of_lt (by omega), Array.getElem?_toList]
theorem Tld.more {w w1 : World} {B : Nat} {A A' : Option Addr} {c c' : Nat} {b : List UInt8} {k : Nat} {xs : List (Nat × Option Addr × Nat × Nat)} {p : Option Addr} {pc : Nat}
    (h : Tld w B A c b k xs) (hg : w.grownBy w1 (Value.ownBlock (.slice A k c))) (ho : w1.ownsRow B 47 2 (.slice A' (k + 1) c') (k + 1) (xs.flatMap fcell ++ fcell (posL 0 (allF b) (k + 1), p, ((allF b).getD k (0, [])).2.length, pc)))
    (hp : w1.ownsRow B 5 1 (.slice p ((allF b).getD k (0, [])).2.length pc) ((allF b).getD k (0, [])).2.length (bvals ((allF b).getD k (0, [])).2)) :
    Tld w1 B A' c' b (k + 1) (xs ++ [(posL 0 (allF b) (k + 1), p, ((allF b).getD k (0, [])).2.length, pc)]) := by
  have hl := h.len
  refine ⟨by rw [List.length_append, hl]; rfl, by rw [List.flatMap_append]; exact ho, fun j hj => ?_⟩
  by_cases hjk : j < k
  · have e : (xs ++ [(posL 0 (allF b) (k + 1), p, ((allF b).getD k (0, [])).2.length, pc)]).getD j fz = xs.getD j fz := by
      rw [List.getD_eq_getElem?_getD, List.getElem?_append_left (by omega), List.getD_eq_getElem?_getD]
    rw [e]
    have := h.each j hjk
    exact ⟨this.1, this.2.1, this.2.2.kept hg (own_apart9 this.2.2 h.own (by decide))⟩
  · obtain rfl : k = j := by omega
    have e : (xs ++ [(posL 0 (allF b) (k + 1), p, ((allF b).getD k (0, [])).2.length, pc)]).getD k fz = (posL 0 (allF b) (k + 1), p, ((allF b).getD k (0, [])).2.length, pc) := by
      rw [List.getD_eq_getElem?_getD, List.getElem?_append_right (by omega), hl]
      simp
    rw [e]
    exact ⟨rfl, rfl, hp⟩
set_option maxRecDepth 100000 in
set_option maxHeartbeats 3200000 in
theorem refAll_any (A : Option Addr) (n c : Nat) (b : List UInt8) (w : World) (hb : Bytes w A n b) (hc : n ≤ c) (hn : n ≤ 1099511627776) :
    Calls Try.prog 22 #[.slice A n c] w fun e w' => ∃ A' c' xs, e = .returned (.slice A' (allF b).length c') ∧ Tld w' w.heap.size A' c' b (allF b).length xs ∧ Below w.heap.size w w' := by
  have hlen : b.length = n := hb.1
  have HLEN := Lib.hid hlen
  have HNS := Lib.hid (allF_spec b)
  have hba := below_alloc w (.cells #[] 47)
  have H0 : (w.alloc (.cells #[] 47)).ownsRow w.heap.size 47 2 (.slice (some ⟨w.heap.size, 0, none⟩) 0 0) 0 ([].flatMap fcell) := World.ownsRow_made (e := 47) (size := 2) w #[] 0 (Nat.le_refl _) (by simp [maxLen]) rfl
  have HT0 : Tld (w.alloc (.cells #[] 47)) w.heap.size (some ⟨w.heap.size, 0, none⟩) 0 b 0 [] := ⟨rfl, H0, fun j hj => by omega⟩
  clear H0
  go_enter Try.func22, Try.ntmps22
  go_wp2
  go_loopw [3, 4] (fun o p wr => ∃ k : Nat, ∃ A1 c1 xs, k ≤ (allF b).length ∧ p = .int .i64 (posL 0 (allF b) k : Nat) ∧ o = .slice A1 k c1 ∧ Tld wr w.heap.size A1 c1 b k xs ∧ Below w.heap.size w wr) (fun _ p _ => b.length + 1 - (intOf p).toNat)
  case atStart => exact ⟨0, _, _, [], Nat.zero_le _, rfl, rfl, HT0, hba⟩
  case round =>
    obtain ⟨k, A1, c1, xs, hk, rfl, rfl, hT, hB⟩ := hrel
    have hsp := HNS.out k hk
    obtain ⟨p, hp⟩ : ∃ p, posL 0 (allF b) k = p := ⟨_, rfl⟩
    have hpl : p ≤ n := by rw [← hp, ← hlen]; exact hsp.1
    have hk9 : 9 * k ≤ n := by rw [hp] at hsp; omega
    have hby := (bytes_opt9 (hb.below hB) p hpl hc)
    have HP := Lib.hid hp
    rw [hp] at hsp ⊢
    have hpn : (p : Int) ≤ (n : Int) := by omega
    have hpc : (p : Int) ≤ (c : Int) := by omega
    have hp0 : (0 : Int) ≤ (p : Int) := by omega
    have key : ∀ X' c', Bytes wr X' (n - p) (b.drop p) → n - p ≤ c' → Calls Try.prog 20 #[.slice X' (n - p) c'] wr (ReadR (rd (b.drop p)) wr) := fun X' c' hx hc' => refRead_any X' (n - p) c' _ _ hx hc' (by omega)
    clear hp hsp
    rcases Decidable.em (c = p) with hcp | hcp
    all_goals first | rw [if_pos hcp] at hby | rw [if_neg hcp] at hby
    all_goals go_wp2_with fail
    all_goals refine (key _ _ hby (by omega)).mono ?_
    all_goals rintro e w1 ⟨A2, c2, rfl, ho, hb1⟩
    all_goals clear hcp key hby
    all_goals have hB1 := below_then hB hb1 hB.size
    all_goals have hT1 := hT.below hb1
    all_goals
      by_cases hlt : k < (allF b).length
      · have hr := (allF_rd hlt).1
        have hpos := (allF_rd hlt).2
        rw [HP.out] at hr hpos
        rw [hr] at ho ⊢
        obtain ⟨q, hq⟩ : ∃ q, ((allF b).getD k (0, [])).2 = q := ⟨_, rfl⟩
        simp only at ho ⊢
        have hpi : ((posL 0 (allF b) (k + 1) : Nat) : Int) = (p : Int) + (((((allF b).getD k (0, [])).2.length : Nat) : Int) + 9) := by omega
        obtain ⟨L, hL⟩ : ∃ L, ((allF b).getD k (0, [])).2.length = L := ⟨_, rfl⟩
        have hsp1 := (HNS.out (k + 1) hlt).1
        have HL := Lib.hid hL
        have HPI := Lib.hid hpi
        have hpL : (p : Int) + ((L : Int) + 9) ≤ (n : Int) := by omega
        have hoo := own_mono ho hB.size
        have e1 : ((posL 0 (allF b) (k + 1) : Nat) : Int) = ((p : Int) + ((L : Int) + 9)) := by rw [HPI.out, HL.out]
        have E1 := Lib.hid e1
        have hfc := fcell_one [(posL 0 (allF b) (k + 1), A2, L, c2)]
        have hba2 := below_alloc w1 (.cells #[.int .i64 ((p : Int) + ((L : Int) + 9)), .slice A2 L c2] 47)
        have hR7 := rdc_block (heap_alloc_new w1 (.cells #[.int .i64 ((p : Int) + ((L : Int) + 9)), .slice A2 L c2] 47))
        have hfe : #[Value.int .i64 ((p : Int) + ((L : Int) + 9)), .slice A2 L c2].toList = [(posL 0 (allF b) (k + 1), A2, L, c2)].flatMap fcell := by
          simp only [List.flatMap_cons, List.flatMap_nil, fcell, List.append_nil, e1]
        rw [hfe] at hR7
        have hT2 := hT1.below hba2
        have ho2 := own_below hoo hba2
        have hB2 := below_then hB1 hba2 hB1.size
        have hTo := hT2.own
        rw [hL] at ho2 ⊢
        have hk32 : (k + 1) * 32 ≤ 214748364800000 := by omega
        clear hr hpos hpi hq hsp1 ho e1 hT1 hoo hba2 hL hlen
        go_wp2_with (at_builtin; (refine wpl_append _ rfl (.tmp 23) (.tmp 27) 41 rfl w.heap.size 47 _ 2 32 Try.underlying41 info_found rfl (by decide) (.slice A1 k c1) k _ rfl hTo _ 1 _ _ rfl hR7 hfc (by decide) (by decide) hk32 hB2.size ?_); intro A4 c4 w8 hk8 hg8 hne8 hnn8; clear hnn8 hne8)
        have hB8 := hB2.grown hg8 hB2.size (own_base hTo)
        have ho8 := ho2.kept hg8 (own_apart9 ho2 hTo (by decide))
        rw [← HL.out] at hk8 ho8
        have hT8 := hT2.more hg8 hk8 ho8
        go_roundw
        case rel => exact ⟨k + 1, A4, c4, _, hlt, by rw [E1.out], rfl, hT8, hB8⟩
        case measure => have := HLEN.out; simp [intOf]; omega
      · obtain rfl : (allF b).length = k := by omega
        have he := allF_end b
        rw [HP.out] at he
        generalize rd (b.drop p) = r at *
        obtain ⟨r1, r2, r3⟩ := r
        obtain ⟨h1, h2, h3⟩ := he
        simp only at h1 h2 h3 ho ⊢
        have z1 : (r3 != 0) = true := by rw [bne_iff_ne]; exact h1
        clear h1 hlen
        go_wp2
        go_ret
        exact ⟨_, _, _, rfl, hT1, hB1⟩
end Go.Proofs.Ytjgiiolamaimnaa
