/- What is there behind a Strike: the plain law. -/
import Derived.Test.YtodaplkijdjbpaaDownP
namespace Go.Proofs.Ytodaplkijdjbpaa
open Go.RowKit
set_option linter.unusedVariables false
set_option linter.unusedSimpArgs false
theorem crash_zero (bs : List UInt8) (s : Nat) (t u : UInt8) : crashB bs s 0 t = crashB bs s 0 u := by simp [crashB]
/-- The one area behind a Strike. -/
theorem struck_one {P : Pd} {pa : Pa} {bs : List UInt8} {sf len kp : Nat} {keep : Int} {t : UInt8} (hpa : P.p 0 = pa) (hbs : pa.bs = bs) (hsf : pa.safe = sf) (hlen : bs.length = len) (hk : (P.fate pa).k = keep) (ht : P.armed = true → (P.fate pa).t = t) (h0 : P.armed = false → keep = 0) (hkp : crashK len sf keep = kp) (hle : sf + kp ≤ len) :
    (P.strike.p 0).bs = crashB bs sf kp t ∧ (P.strike.p 0).safe = sf + kp ∧ (P.strike.p 0).bs.length = sf + kp ∧ (P.strike.p 0).done = 0 ∧ P.strike.armed = false := by
  have e : crashB bs sf kp (P.fate pa).t = crashB bs sf kp t := by
    cases ha : P.armed with
    | true => rw [ht ha]
    | false =>
      have := h0 ha
      subst this
      have hz : kp = 0 := by rw [← hkp]; unfold crashK; omega
      rw [hz]
      exact crash_zero _ _ _ _
  have h1 : (P.strike.p 0).bs = crashB bs sf kp t := by
    simp only [Pd.strike, Pa.arm, Pa.crash]
    rw [hpa, hbs, hsf, hlen, hk, hkp, e]
  refine ⟨h1, ?_, ?_, rfl, rfl⟩
  · simp only [Pd.strike, Pa.arm, Pa.crash]
    rw [hpa, hbs, hsf, hlen, hk, hkp]
  · rw [h1]
    exact crashB_length bs sf kp t (by omega)
/-- How many loose bytes stay. -/
def keptI (keep : Int) (n s : Nat) : Int := min (max keep 0) ((n : Int) - (s : Int))
theorem kept_is (keep : Int) (n s : Nat) (h : s ≤ n) : keptI keep n s = (crashK n s keep : Nat) := by
  unfold keptI crashK
  omega
/-- An append to the one area of a disk that lets it. -/
theorem append_ok {P : Pd} (hn : P.n = 1) (hd : P.down 0 = false) (b : List UInt8) :
    (P.op 0 (Pa.append b)).2 = 0 ∧ (P.op 0 (Pa.append b)).1.n = 1 ∧ (P.op 0 (Pa.append b)).1.armed = P.armed ∧ ((P.op 0 (Pa.append b)).1.p 0).f = (P.p 0).f := by
  unfold Pd.op
  rw [if_neg (by omega)]
  simp only [Int.toNat_zero]
  rw [hd]
  simp [Pa.append, Pd.set, upd_same, hn]
theorem sync_ok {P : Pd} (hn : P.n = 1) (ha : P.armed = false) : (P.op 0 Pa.sync).2 = 0 := by
  unfold Pd.op
  rw [if_neg (by omega)]
  simp [Int.toNat_zero, Pd.down, ha, Pa.sync]
theorem image_one {P : Pd} (hn : P.n = 1) : P.image = [((P.p 0).base, (P.p 0).bs.take (P.p 0).safe)] := by
  simp [Pd.image, Pd.imageK, hn]
theorem never_armed {P : Pd} (k a b : Int) (p : List UInt8) (f : List Ft) (h0 : 0 ≤ k) (h3 : k ≤ 3) (ha : P.armed = false) : (P.step ⟨k, 0, a, b, p, f⟩).armed = false := by
  have hop : ∀ g : Pa → Option Pa, (P.op 0 g).1.armed = P.armed := fun g => by
    unfold Pd.op
    split
    · rfl
    · split
      · rfl
      · split <;> rfl
  have hk : k = 0 ∨ k = 1 ∨ k = 2 ∨ k = 3 := by omega
  rcases hk with rfl | rfl | rfl | rfl <;> simp [Pd.step, hop, ha]
/-- All that was ever put into the areas. -/
def Pd.tiny (P : Pd) (K : Nat) : Prop := ∀ j, j < P.n → (P.p j).base + (P.p j).bs.length ≤ K
theorem tiny_op {P : Pd} {K L : Nat} (h : P.tiny K) (hl : P.lim K) (hk : K ≤ L) (i : Int) (f : Pa → Option Pa) (hf : ∀ j, j < P.n → ∀ a, f (P.p j) = some a → a.base + a.bs.length ≤ L) : (P.op i f).1.tiny L := by
  have h0 : P.tiny L := fun j hj => by have := h j hj; omega
  unfold Pd.op
  split
  · exact h0
  · split
    · exact h0
    · split
      · exact h0
      · rename_i hi _ a ha
        intro j hj
        have hj' : j < P.n := hj
        by_cases e : j = i.toNat
        · subst e
          simp only [Pd.set, upd_same]
          exact hf _ hj' a ha
        · simp only [Pd.set, upd_other _ _ _ _ e]
          exact h0 j hj'
theorem tiny_step {P : Pd} {K : Nat} (h : P.tiny K) (hl : P.lim K) (k a b : Int) (p : List UInt8) (f : List Ft) (h0 : 0 ≤ k) (h3 : k ≤ 3) {L : Nat} (hL : K + p.length + 1 ≤ L) : (P.step ⟨k, 0, a, b, p, f⟩).tiny L := by
  have hk : k = 0 ∨ k = 1 ∨ k = 2 ∨ k = 3 := by omega
  rcases hk with rfl | rfl | rfl | rfl
  · have e : P.step ⟨0, 0, a, b, p, f⟩ = (P.op 0 (Pa.append p)).1 := by simp [Pd.step]
    rw [e]
    refine tiny_op h hl (by omega) _ _ (fun j hj x hx => ?_)
    unfold Pa.append at hx
    injection hx with hx
    subst hx
    have := h j hj
    simp only [List.length_append]
    omega
  · have e : P.step ⟨1, 0, a, b, p, f⟩ = (P.op 0 Pa.sync).1 := by simp [Pd.step]
    rw [e]
    refine tiny_op h hl (by omega) _ _ (fun j hj x hx => ?_)
    unfold Pa.sync at hx
    injection hx with hx
    subst hx
    have := h j hj
    simp only
    omega
  · have e : P.step ⟨2, 0, a, b, p, f⟩ = (P.op 0 (Pa.cut a)).1 := by simp [Pd.step]
    rw [e]
    refine tiny_op h hl (by omega) _ _ (fun j hj x hx => ?_)
    unfold Pa.cut at hx
    split at hx
    · cases hx
    · injection hx with hx
      subst hx
      have := h j hj
      simp only [List.length_take]
      omega
  · have e : P.step ⟨3, 0, a, b, p, f⟩ = (P.op 0 (Pa.trim a)).1 := by simp [Pd.step]
    rw [e]
    refine tiny_op h hl (by omega) _ _ (fun j hj x hx => ?_)
    unfold Pa.trim at hx
    split at hx
    · cases hx
    · rename_i hi
      injection hx with hx
      subst hx
      have := h j hj
      have := (hl.a j hj).s
      simp only [List.length_drop]
      omega
open Go.Shelf in
/-- Append of many bytes to areas that are small. -/
theorem diskAppend_big {w : World} {G pb K : Nat} {ls : Nat → Loc} {P : Pd} (h : DAt w G pb ls P K) (ht : P.tiny K) (hK : K ≤ 2147483648) (i : Int) (B : Option Addr) (m mc : Nat) (b : List UInt8) (hb : Bytes w B m b) (hm : m ≤ 140737488355328) :
    Calls Try.prog 26 #[.pointer (some ⟨G, 0, none⟩), .int .i64 i, .slice B m mc] w fun e w' => e = .returned (.int .i64 (P.op i (Pa.append b)).2) ∧ DTo w G pb ls (P.op i (Pa.append b)).1 (K + 1) w' P.n := by
  have hmf : ∀ (fn : Fn) (first cap : Array Value) (w : World), (Instr.makeFunc fn first cap).run Try.prog w = .ok (.func fn first cap) w := fun _ _ _ _ => rfl
  have hlen := hb.1
  have hba := below_alloc w (.cells #[.slice B m mc] 30)
  have hq := Blk.fresh w #[.slice B m mc] 30
  have hop := op_any (L := K + 1) (h.below hba) i 48 #[.pointer (some ⟨w.heap.size, 0, none⟩)] (enters_of Try.func48 (by kernel_rfl) rfl) (Pa.append b)
    (fun j hj w1 hw => by
      have hl := h.lim.a j hj
      have h1 := ht j hj
      have h2 := hl.b0
      exact append1_any (((h.ar j hj).below hba).below hw) _ B m mc b (hq.keep hw) ((hb.below hba).below hw) (by omega) (by omega))
    (fun j hj a ha => by
      have hl := h.lim.a j hj
      have h1 := ht j hj
      have h2 := hl.b0
      have h3 := hl.d
      have h4 := hl.s
      unfold Pa.append at ha
      injection ha with ha
      subst ha
      refine ⟨?_, hl.b0, ?_, ?_, ?_, hl.f⟩ <;> simp only [List.length_append] <;> omega) (by omega) (by omega)
  have HOP := Lib.hid hop
  clear hop hq
  go_enter Try.func26, Try.ntmps26
  go_wp2_with fail
  refine HOP.out.mono ?_
  rintro e w' ⟨rfl, hh⟩
  go_wp2_with fail
  go_ret
  exact ⟨rfl, DTo.after hba hh⟩
end Go.Proofs.Ytodaplkijdjbpaa
