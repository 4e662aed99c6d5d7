/- Package frame's All, walked: what it returns, and the iterator's rounds. -/
import Derived.Test.YtjgiiolamaimnaaHead
import Derived.Test.YtjgiiolamaimnaaFound
import Derived.Test.YtjgiiolamaimnaaIter
namespace Go.Proofs.Ytjgiiolamaimnaa
open Go.RowKit Go.Shelf
set_option linter.unusedVariables false
set_option linter.unusedSimpArgs false
attribute [local go_sem] Oper.semAt_some
/-- The iterator over these bytes. -/
structure AllAt (w : World) (B : Nat) (X : Nat) (A : Option Addr) (n c : Nat) (b : List UInt8) : Prop where
  box : Blk w X #[.slice A n c] 22
  own : w.ownsRow B 5 1 (.slice A n c) n (bvals b)
  lo : B ≤ X
def AllRet (n : Nat) (b : List UInt8) (w : World) (e : Ending) (w' : World) : Prop :=
  ∃ X A c, e = .returned (.func (.func 37) #[] #[.pointer (some ⟨X, 0, none⟩)]) ∧ AllAt w' w.heap.size X A n c b ∧ Below w.heap.size w w'
set_option maxHeartbeats 800000 in
theorem fall_any (A : Option Addr) (n c : Nat) (b : List UInt8) (w : World) (hb : Bytes w A n b) (hn : n ≤ 214748364800000) :
    Calls Try.prog 23 #[.slice A n c] w (AllRet n b w) := by
  have hmf : ∀ (fn : Fn) (first cap : Array Value) (w : World), (Instr.makeFunc fn first cap).run Try.prog w = .ok (.func fn first cap) w := fun _ _ _ _ => rfl
  have hba := below_alloc w (.cells #[.slice A n c] 22)
  have hB := Blk.fresh w #[.slice A n c] 22
  have hR := (hb.below hba).rdc
  go_enter Try.func23, Try.ntmps23
  go_wp2_with (at_builtin; (refine wpl_append _ rfl _ _ 22 rfl w.heap.size 5 _ 1 1 Try.underlying22 info_byte rfl (by decide) (.slice none 0 0) 0 [] rfl (World.ownsRow_nil _ _ _ _) A n c (bvals b) rfl hR (bvals_one _) (by decide) (by decide) (by omega) hba.size ?_); intro A6 c6 w6 ho6 hg6 hne6 hnn6; simp only [Nat.zero_add, List.nil_append] at ho6 ⊢; clear hnn6 hne6; have hB6 := Blk.grown hB hg6 (by simp [Value.ownBlock]); have f6 := hB6.frozen 0; have c6' : w6.cell? ⟨w.heap.size, 0, none⟩ = some (.slice A n c) := hB6.cell 0)
  have hb6 : Below w.heap.size w w6 := hba.grown hg6 hba.size (fun k h => by simp [Value.ownBlock] at h)
  have hS := hB6.set 0 (.slice A6 n c6)
  have hoS := own_chg ho6 (chg_set w6 w.heap.size 0 (.slice A6 n c6)) (fun q e e2 => own_not_blk4 ho6 hB6 (by decide) (by rw [e, e2]))
  have hbS := hb6.setCell (p := ⟨w.heap.size, 0, none⟩) (Nat.le_refl _) (.slice A6 n c6)
  go_ret
  exact ⟨w.heap.size, A6, c6, rfl, ⟨hS, hoS, Nat.le_refl _⟩, hbS⟩
theorem bytes_opt9 {w : World} {A : Option Addr} {n c : Nat} {bs : List UInt8} (h : Bytes w A n bs) (k : Nat) (hk : k ≤ n) (hc : n ≤ c) : Bytes w (if c = k then A else Option.map (fun x => x.add k) A) (n - k) (bs.drop k) := by
  by_cases h0 : n - k = 0
  · refine ⟨by rw [List.length_drop, h.1], by have := h.2.1; omega, .inl h0⟩
  · rw [if_neg (by omega)]
    rcases h.2.2 with e | ⟨b, o, rfl, _⟩
    · omega
    · have := h.drop k hk
      simpa [add_plain] using this
/-- The iterator's blocks. -/
def allP (X : Nat) (A : Option Addr) : Nat → Prop := fun q => q = X ∨ blkO A = some q
theorem AllAt.lt {w : World} {B X : Nat} {A : Option Addr} {n c : Nat} {b : List UInt8} (h : AllAt w B X A n c b) : ∀ q, allP X A q → q < w.heap.size := fun q e => by
  rcases e with e | e
  · subst e; exact h.box.lt
  · exact (h.own.lt q (by rw [ownBlock_slice]; exact e)).2
/-- What round k is handed. -/
def AllV (b : List UInt8) (k : Nat) (W0 W : World) (vals : Array Value) : Prop :=
  ∃ A n c, vals = #[.int .i64 (posL 0 (allF b) (k + 1) : Nat), .slice A n c] ∧ Hid (n = ((allF b).getD k (0, [])).2.length) ∧ W.ownsRow W0.heap.size 5 1 (.slice A n c) n (bvals ((allF b).getD k (0, [])).2)
set_option maxRecDepth 100000 in
set_option maxHeartbeats 3200000 in
theorem allIt (w : World) (B X : Nat) (A : Option Addr) (n c : Nat) (b : List UInt8) (m : Nat) (h : AllAt w B X A n c b) (hn : n ≤ 214748364800000) :
    Iter Try.prog 37 #[.pointer (some ⟨X, 0, none⟩)] m (AllV b) (allF b).length (allP X A) w := by
  intro l J Jx W hW hJs hY h0
  have hlen : b.length = n := by have := h.own.1; rwa [bvals_length, Nat.mul_one] at this
  have hbw := own_bytes' h.own (by omega)
  have hcap := own_cap4 h.own
  have HLEN := Lib.hid hlen
  refine callsIn_of_wp Try.func37 rfl trivial ?_ rfl
  simp only [Try.ntmps37, List.size_toArray, List.length_cons, List.length_nil, Nat.reduceAdd, Nat.reduceSub, Array.replicate_succ, Array.replicate_zero, List.push_toArray, List.append_toArray, List.nil_append, List.cons_append]
  gi_wp2_with fail
  gi_loopw [3] (fun p wr => ∃ k : Nat, k ≤ (allF b).length ∧ p = .int .i64 (posL 0 (allF b) k : Nat) ∧ J k wr ∧ Chg (fun q => ¬ allP X A q) W wr) (fun p _ => b.length + 1 - (intOf p).toNat)
  case atStart => exact ⟨0, Nat.zero_le _, rfl, h0, Chg.refl _ _⟩
  case round =>
    obtain ⟨k, hk, rfl, hJ, hB⟩ := hrel
    have hC : Chg (fun q => ¬ allP X A q) w wr := Chg.after hW hB
    have hbox : Blk wr X #[.slice A n c] 22 := h.box.chg hC (fun e => e (.inl rfl))
    have cX : wr.cell? ⟨X, 0, none⟩ = some (.slice A n c) := hbox.cell 0
    have hsp := allF_spec b k hk
    obtain ⟨p, hp⟩ : ∃ p, posL 0 (allF b) k = p := ⟨_, rfl⟩
    have hpl : p ≤ n := by rw [← hp, ← hlen]; exact hsp.1
    have hbr := hbw.chg hC (fun q e e2 => e2 (.inr e))
    have hby := (bytes_opt9 hbr p hpl hcap)
    have HP := Lib.hid hp
    rw [hp] at hsp ⊢
    have hpn : (p : Int) ≤ (n : Int) := by omega
    have hpc : (p : Int) ≤ (c : Int) := by omega
    have hp0 : (0 : Int) ≤ (p : Int) := by omega
    have key : ∀ X' c', Bytes wr X' (n - p) (b.drop p) → n - p ≤ c' → CallsIn Fence.wide m Try.prog 21 #[.slice X' (n - p) c'] wr (ReadR (rd (b.drop p)) wr) := fun X' c' hx hc' => callsIn_wide.2 (fread_any X' (n - p) c' _ _ hx hc' (by omega))
    clear hp hsp hC hbr
    rcases Decidable.em (c = p) with hcp | hcp
    all_goals first | rw [if_pos hcp] at hby | rw [if_neg hcp] at hby
    all_goals gi_wp2_with fail
    all_goals refine ⟨trivial, (key _ _ hby (by omega)).mono ?_⟩
    all_goals rintro e w1 ⟨A1, c1, rfl, ho, hb1⟩
    all_goals clear hcp key hby
    all_goals have hB1 := hB.then_ hb1
    all_goals
      by_cases hlt : k < (allF b).length
      · have hr := (allF_rd hlt).1
        have hpos := (allF_rd hlt).2
        rw [HP.out] at hr hpos
        rw [hr] at ho ⊢
        obtain ⟨q, hq⟩ : ∃ q, ((allF b).getD k (0, [])).2 = q := ⟨_, rfl⟩
        simp only at ho ⊢
        obtain ⟨fn, tmps, assign, body, hy, hR⟩ := hY k wr w1 #[.int .i64 (posL 0 (allF b) (k + 1) : Nat), .slice A1 ((allF b).getD k (0, [])).2.length c1] hlt hJ hb1 ⟨A1, _, c1, rfl, Lib.hid rfl, ho⟩
        rw [hq] at hpos hy ho ⊢
        obtain ⟨L, hL⟩ : ∃ L, q.length = L := ⟨_, rfl⟩
        rw [hL] at hpos hy ho ⊢
        have hpi : ((posL 0 (allF b) (k + 1) : Nat) : Int) = (p : Int) + ((L : Int) + 9) := by omega
        have hsp := (allF_spec b (k + 1) hlt).1
        have HPI := Lib.hid hpi
        rw [hpi] at hy
        have s1 : (p : Int) + ((L : Int) + 9) ≤ (n : Int) := by omega
        have s2 : p < posL 0 (allF b) (k + 1) := by omega
        have HS := Lib.hid (And.intro s2 hsp)
        clear hr hpos hpi hq hL hsp hlen s2
        gi_wp2
        refine hR.mono ?_
        rintro e W3 (⟨rfl, hJ3, hk3⟩ | ⟨rfl, hJx3⟩)
        · gi_wp2
          go_roundw
          case rel => exact ⟨k + 1, hlt, by rw [HPI.out], hJ3, hB1.trans hk3 (fun q e => .inl e)⟩
          case measure => have := HS.out; have := HPI.out; simp [intOf]; omega
        · gi_wp2
          refine bodyPost_ret (results_none rfl _ _ _) rfl ?_
          exact ⟨⟨_, rfl⟩, .inr ⟨k + 1, hlt, hJx3⟩⟩
      · obtain rfl : (allF b).length = k := by omega
        have he := allF_end b
        rw [HP.out] at he
        generalize rd (b.drop p) = r at *
        obtain ⟨r1, r2, r3⟩ := r
        obtain ⟨h1, h2, h3⟩ := he
        simp only at h1 h2 h3 ho ⊢
        have z1 : (r3 != 0) = true := by rw [bne_iff_ne]; exact h1
        clear h1 hlen
        gi_wp2
        refine bodyPost_ret (results_none rfl _ _ _) rfl ?_
        exact ⟨⟨_, rfl⟩, .inl (hJs _ _ _ hJ hb1)⟩
end Go.Proofs.Ytjgiiolamaimnaa
