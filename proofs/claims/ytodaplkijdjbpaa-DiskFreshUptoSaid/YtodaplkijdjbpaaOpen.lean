/- Arguments opened: a slice of bytes, a slice of numbers, as they are read. -/
import Derived.Test.YtodaplkijdjbpaaWords
import Derived.ProofKit
import Derived.OpenShut
import Derived.ChangeOld
import Derived.SizedLaws
import Derived.ChangeSlices
import Derived.Deep.Slices
namespace Go.Proofs.Ytodaplkijdjbpaa
open Go.RowKit Go.ChangeShapes Go.WideShapes Go.ChangeAt
set_option linter.unusedVariables false
set_option linter.unusedSimpArgs false
section
variable {H : Type} {enc : TypeId × Value → H} {P : Program} {W : World} {base : Nat} {spare : Nat → Bool} {held : Bool}
theorem trod_ints {t e : TypeId} {k : IntKind} {a : Option Addr} {len cap : Nat} {d : DataW H} {ps : List MemPlace} {ts : List TypeId} {ds : List (DataW H)} {j : Nat} {B : Nat}
    (hsz : (DataW.weightsEach P ts ds).all (· ≤ reachBytes) = true) (ht : ts[j]? = some t) (hd : ds[j]? = some d) (hu : P.underlying t = some (.slice e)) (he : P.underlying e = some (.int k)) (hc : P.cellsOf e = 1) (hB : P.bytesOf e = B)
    (h : DataW.Trod enc P W base spare held t (.slice a len cap) d ps) :
    len * B ≤ 140737488351232 ∧ len ≤ cap ∧ ∃ zs : List Int, zs.length = len ∧ (∀ z ∈ zs, (Lit.int k z).wf = true) ∧ (len = 0 ∨ ∃ b o, a = some ⟨b, o, none⟩ ∧ ∀ i, i < len → W.cell? ⟨b, o + i, none⟩ = some (.int k (zs.getD i 0))) := by
  obtain ⟨fuel, hf⟩ := h
  rcases open_ints hu he hc hf with ⟨hcs, _⟩ | ⟨x, l, c, zs, hcs, _, hl, hm, hz, hx, hcell, hwz⟩
  · simp [Value.cells] at hcs
    obtain ⟨rfl, rfl, rfl⟩ := hcs
    exact ⟨by simp, Nat.le_refl _, [], rfl, fun z hz => by simp at hz, .inl rfl⟩
  · simp [Value.cells] at hcs
    obtain ⟨rfl, rfl, rfl⟩ := hcs
    obtain ⟨hx, _⟩ := Prod.mk.inj hx
    subst hx
    have z := sized_slice hsz ht hd hu
    rw [hB] at z
    have hl2 : len ≤ zs.length := by
      rw [hz]
      split
      · exact hl
      · exact Nat.le_refl _
    have h1 : (lits (H := H) k (zs.take len)).length + (lits (H := H) k (zs.drop len)).length = zs.length := by
      simp [lits]
      omega
    rw [h1] at z
    refine ⟨Nat.le_trans (Nat.mul_le_mul_right _ hl2) z, hl, zs.take len, by simp; omega, fun z hz => hwz z (List.mem_of_mem_take hz), ?_⟩
    by_cases h0 : len = 0
    · exact .inl h0
    · obtain ⟨b, o, spot⟩ := x
      have hspot : spot = none := by simpa [Addr.add] using World.cell?_spot (hcell 0 (by omega))
      subst hspot
      refine .inr ⟨b, o, rfl, fun i hi => ?_⟩
      have := hcell i (by omega)
      rw [add_plain] at this
      rw [this]
      simp [List.getD_eq_getElem?_getD, hi]
theorem trod_bytes {t e : TypeId} {a : Option Addr} {len cap : Nat} {d : DataW H} {ps : List MemPlace} {ts : List TypeId} {ds : List (DataW H)} {j : Nat}
    (hsz : (DataW.weightsEach P ts ds).all (· ≤ reachBytes) = true) (ht : ts[j]? = some t) (hd : ds[j]? = some d) (hu : P.underlying t = some (.slice e)) (he : P.underlying e = some (.int .u8)) (hc : P.cellsOf e = 1) (hB : P.bytesOf e = 1)
    (h : DataW.Trod enc P W base spare held t (.slice a len cap) d ps) : len ≤ 140737488351232 ∧ len ≤ cap ∧ ∃ bs, Bytes W a len bs := by
  obtain ⟨h1, hlc, zs, hl, hw, hc⟩ := trod_ints hsz ht hd hu he hc hB h
  rw [Nat.mul_one] at h1
  refine ⟨h1, hlc, zs.map fun z => UInt8.ofNat z.toNat, by simpa using hl, by omega, ?_⟩
  rcases hc with h0 | ⟨b, o, ha, hcell⟩
  · exact .inl h0
  · refine .inr ⟨b, o, ha, fun i hi => ?_⟩
    rw [hcell i hi]
    have hi' : i < zs.length := by omega
    have hz := bounds_u8 (hw (zs.getD i 0) (by simp [List.getD_eq_getElem?_getD, hi']))
    simp only [List.getD_eq_getElem?_getD, List.getElem?_eq_getElem hi', List.getElem?_map, Option.map_some, Option.getD_some] at hz ⊢
    congr 2
    rw [UInt8.toNat_ofNat']
    omega
end
/-! ### Arguments of whatever depth -/
/-- Cells that read as a value of type t, none of whose rows passes the form's reach, are so. -/
def Opn (P : Program) (W : World) (t : TypeId) (Φ : List Value → Prop) : Prop :=
  ∀ (H : Type) (enc : TypeId × Value → H) (fuel : Nat) (cs : List Value) (d : DataW H) (ps : List MemPlace),
    DataW.trod enc P W 0 (fun _ => true) true fuel t cs = some (d, ps) → (∀ n ∈ d.weights P t, n ≤ reachBytes) → Φ cs
section
variable {P : Program} {W : World}
theorem Opn.imp {t : TypeId} {Φ Ψ : List Value → Prop} (h : Opn P W t Φ) (hi : ∀ cs, Φ cs → Ψ cs) : Opn P W t Ψ := fun H enc fuel cs d ps ht hw => hi _ (h H enc fuel cs d ps ht hw)
theorem opn_int {t : TypeId} {k : IntKind} (ht : P.underlying t = some (.int k)) : Opn P W t (fun cs => ∃ n, cs = [.int k n] ∧ (Lit.int k n).wf = true) := by
  intro H enc fuel cs d ps h _
  obtain ⟨n, h1, h2, h3⟩ := DataW.trod_int ht h
  exact ⟨n, by simpa using h1, h3⟩
theorem weights_all_mem {H : Type} {e : TypeId} {n : Nat} {d : DataW H} : ∀ {ds : List (DataW H)}, d ∈ ds → n ∈ d.weights P e → n ∈ DataW.weightsAll P e ds
  | x :: xs, hm, hn => by
    simp only [DataW.weightsAll, List.mem_append]
    rcases List.mem_cons.1 hm with rfl | hm
    · exact .inl hn
    · exact .inr (weights_all_mem hm hn)
/-- A slice. -/
def SliceOf (W : World) (sz B : Nat) (Φ : List Value → Prop) (cs : List Value) : Prop :=
  ∃ A l c, cs = [.slice A l c] ∧ l ≤ c ∧ c * B ≤ 140737488351232 ∧
    (l = 0 ∨ ∃ b o, A = some ⟨b, o, none⟩ ∧ ∀ i, i < l → ∃ cs', cs'.length = sz ∧ Φ cs' ∧ ∀ j u, cs'[j]? = some u → W.cell? ⟨b, o + i * sz + j, none⟩ = some u)
theorem opn_slice {t e : TypeId} {sz B : Nat} {Φ : List Value → Prop} (ht : P.underlying t = some (.slice e)) (hc : P.cellsOf e = sz) (hB : P.bytesOf e = B) (hz : 0 < sz) (he : Opn P W e Φ) : Opn P W t (SliceOf W sz B Φ) := by
  intro H enc fuel cs d ps h hw
  rcases Deep.open_slice ht h with ⟨rfl, _⟩ | ⟨a, len, cap, m, n, D, Pl, rfl, _, hl, hm, hmm, hx, hel⟩
  · exact ⟨none, 0, 0, rfl, Nat.le_refl _, by simp, .inl rfl⟩
  · simp only [if_true] at hmm
    subst hmm
    obtain ⟨rfl, _⟩ := Prod.mk.inj hx
    have hlen : ((List.range len).map D).length + ((List.range (m - len)).map fun j => D (len + j)).length = m := by simp; omega
    have h0 := hw (m * P.bytesOf e) (by
      simp only [DataW.weights, ht, hlen]
      exact List.mem_cons_self)
    rw [hB] at h0
    refine ⟨some a, len, m, rfl, hl, h0, ?_⟩
    by_cases hz0 : len = 0
    · exact .inl hz0
    · obtain ⟨b, o, spot⟩ := a
      have key : ∀ i, i < len → ∃ cs', cs'.length = sz ∧ Φ cs' ∧ ∀ j u, cs'[j]? = some u → W.cell? (((⟨b, o, spot⟩ : Addr).add (i * sz)).add j) = some u := by
        intro i hi
        obtain ⟨cs', h1, h2⟩ := hel i (by omega)
        rw [hc] at h1
        obtain ⟨_, h3, h4⟩ := World.cells?_some h1
        refine ⟨cs', h3, he H enc n cs' (D i) (Pl i) h2 (fun q hq => hw q ?_), fun j u hj => ?_⟩
        · simp only [DataW.weights, ht, List.mem_cons, List.mem_append]
          exact .inr (.inl (weights_all_mem (List.mem_map.2 ⟨i, by simpa using hi, rfl⟩) hq))
        · have hj' : j < sz := by rw [← h3]; exact (List.getElem?_eq_some_iff.1 hj).1
          have := h4 j hj'
          rw [hj] at this
          exact this
      have hspot : spot = none := by
        obtain ⟨cs', h3, -, h4⟩ := key 0 (by omega)
        have h5 : 0 < cs'.length := by rw [h3]; exact hz
        have h6 := World.cell?_spot (h4 0 _ (List.getElem?_eq_getElem h5))
        simpa [Addr.add] using h6
      subst hspot
      refine .inr ⟨b, o, rfl, fun i hi => ?_⟩
      obtain ⟨cs', h3, h4, h5⟩ := key i hi
      refine ⟨cs', h3, h4, fun j u hj => ?_⟩
      have := h5 j u hj
      rwa [add_plain, add_plain] at this
/-- A struct: its fields, each at its place. -/
theorem opn_struct {t : TypeId} {fs : Array Field} (ht : P.underlying t = some (.struct fs)) (Ψ : TypeId → List Value → Prop) (hf : ∀ f ∈ fs, Opn P W f.type (Ψ f.type)) :
    Opn P W t (fun cs => cs.length = P.cellsOf t ∧ ∀ f ∈ fs, Ψ f.type ((cs.drop f.offset).take (P.cellsOf f.type))) := by
  intro H enc fuel cs d ps h hw
  obtain ⟨xs, n, _, hx, hl, hlen, hel⟩ := DataW.trod_struct ht h
  obtain ⟨rfl, _⟩ := Prod.mk.inj hx
  refine ⟨hl, fun f hmem => ?_⟩
  obtain ⟨i, hi, rfl⟩ := Array.mem_iff_getElem.1 hmem
  have h1 := hel i fs[i] (by simp [hi])
  have hi' : i < xs.length := by omega
  rw [List.getElem?_eq_getElem hi'] at h1
  refine hf _ hmem H enc n _ xs[i].1 xs[i].2 h1 (fun q hq => hw q ?_)
  simp only [DataW.weights, ht]
  refine DataW.weights_mem_each (j := i) (t := fs[i].type) (d := xs[i].1) ?_ ?_ q hq
  · simp [hi]
  · simp [hi']
theorem opn_struct_list {t : TypeId} {fs : Array Field} (ht : P.underlying t = some (.struct fs)) (L : List (TypeId × Nat × Nat)) (hL : fs.toList.map (fun f => (f.type, f.offset, P.cellsOf f.type)) = L) {N : Nat} (hc : P.cellsOf t = N)
    (Ψ : TypeId → List Value → Prop) (hf : ∀ x ∈ L, Opn P W x.1 (Ψ x.1)) : Opn P W t (fun cs => cs.length = N ∧ ∀ x ∈ L, Ψ x.1 ((cs.drop x.2.1).take x.2.2)) := by
  subst hL
  refine (opn_struct ht Ψ (fun f hm => hf _ (List.mem_map.2 ⟨f, by simpa using hm, rfl⟩))).imp ?_
  rintro cs ⟨hl, hall⟩
  refine ⟨hl.trans hc, fun x hx => ?_⟩
  obtain ⟨f, hm, rfl⟩ := List.mem_map.1 hx
  exact hall f (by simpa using hm)
/-- A whole number's cell. -/
def IntOf (k : IntKind) (cs : List Value) : Prop := ∃ n, cs = [.int k n] ∧ (Lit.int k n).wf = true
/-- The weights of one argument out of all. -/
theorem weights_of {H : Type} {ts : List TypeId} {ds : List (DataW H)} {j : Nat} {t : TypeId} {d : DataW H} (hsz : (DataW.weightsEach P ts ds).all (· ≤ reachBytes) = true) (ht : ts[j]? = some t) (hd : ds[j]? = some d) : ∀ n ∈ d.weights P t, n ≤ reachBytes := by
  intro n hn
  simpa using List.all_eq_true.1 hsz n (DataW.weights_mem_each ht hd n hn)
end
/-- Bytes among cells. -/
def BytesOf (W : World) (cs : List Value) : Prop := ∃ A l c bs, cs = [.slice A l c] ∧ l ≤ c ∧ c ≤ 140737488351232 ∧ Bytes W A l bs
theorem opn_bytes {P : Program} {W : World} {t e : TypeId} (ht : P.underlying t = some (.slice e)) (he : P.underlying e = some (.int .u8)) (hc : P.cellsOf e = 1) (hB : P.bytesOf e = 1) : Opn P W t (BytesOf W) := by
  refine (opn_slice ht hc hB (by omega) (opn_int he)).imp ?_
  rintro cs ⟨A, l, c, rfl, hlc, hcB, hel⟩
  rw [Nat.mul_one] at hcB
  rcases hel with rfl | ⟨b, o, rfl, hel⟩
  · exact ⟨A, 0, c, [], rfl, hlc, hcB, rfl, by omega, .inl rfl⟩
  · have h1 : ∀ i, i < l → ∃ x : UInt8, W.cell? ⟨b, o + i, none⟩ = some (.int .u8 ((x.toNat : Nat) : Int)) := by
      intro i hi
      obtain ⟨cs', _, ⟨n, rfl, hn⟩, h3⟩ := hel i hi
      have := h3 0 _ rfl
      have hb := bounds_u8 hn
      refine ⟨UInt8.ofNat n.toNat, ?_⟩
      rw [Nat.mul_one, Nat.add_zero] at this
      rw [this, UInt8.toNat_ofNat']
      congr 2
      omega
    have h2 : ∀ i, ∃ x : UInt8, i < l → W.cell? ⟨b, o + i, none⟩ = some (.int .u8 ((x.toNat : Nat) : Int)) := fun i => by
      by_cases hi : i < l
      · obtain ⟨x, hx⟩ := h1 i hi
        exact ⟨x, fun _ => hx⟩
      · exact ⟨0, fun h => absurd h hi⟩
    obtain ⟨f, hf⟩ := Classical.axiomOfChoice h2
    refine ⟨some ⟨b, o, none⟩, l, c, (List.range l).map f, rfl, hlc, hcB, by simp, by omega, .inr ⟨b, o, rfl, fun j hj => ?_⟩⟩
    rw [hf j hj]
    simp [List.getD_eq_getElem?_getD, hj]

/-- A list of lists of bytes, each in memory of whatever place. -/
def BRows (W : World) (A : Option Addr) (n : Nat) (bss : List (List UInt8)) : Prop :=
  bss.length = n ∧ n ≤ 140737488351232 ∧ (n = 0 ∨ ∃ b o, A = some ⟨b, o, none⟩ ∧
    ∀ j, j < n → ∃ A' l c, W.cell? ⟨b, o + j, none⟩ = some (.slice A' l c) ∧ Bytes W A' l (bss.getD j []) ∧ l ≤ c ∧ c ≤ 140737488351232)
theorem BRows.below {w w1 : World} {A : Option Addr} {n : Nat} {bss : List (List UInt8)} (h : BRows w A n bss) (hb : Below w.heap.size w w1) : BRows w1 A n bss := by
  refine ⟨h.1, h.2.1, ?_⟩
  rcases h.2.2 with h0 | ⟨b, o, hA, hc⟩
  · exact .inl h0
  · refine .inr ⟨b, o, hA, fun j hj => ?_⟩
    obtain ⟨A', l, c, h1, h2, h3⟩ := hc j hj
    exact ⟨A', l, c, (hb.cell (p := ⟨b, o + j, none⟩) (block_lt_of_cell h1)).trans h1, h2.below hb, h3⟩
theorem brows_of {W : World} {cs : List Value} (h : SliceOf W 1 24 (BytesOf W) cs) :
    ∃ A l c bss, cs = [.slice A l c] ∧ l ≤ c ∧ BRows W A l bss := by
  obtain ⟨A, l, c, rfl, hlc, hcB, hel⟩ := h
  rcases hel with rfl | ⟨b, o, rfl, hel⟩
  · exact ⟨A, 0, c, [], rfl, hlc, rfl, by omega, .inl rfl⟩
  · have h2 : ∀ i, ∃ x : List UInt8, i < l → ∃ A' m c', W.cell? ⟨b, o + i, none⟩ = some (.slice A' m c') ∧ Bytes W A' m x ∧ m ≤ c' ∧ c' ≤ 140737488351232 := fun i => by
      by_cases hi : i < l
      · obtain ⟨cs', _, ⟨A', m, c', bs, rfl, h1, h2, h3⟩, h4⟩ := hel i hi
        have := h4 0 _ rfl
        rw [Nat.mul_one, Nat.add_zero] at this
        exact ⟨bs, fun _ => ⟨A', m, c', this, h3, h1, h2⟩⟩
      · exact ⟨[], fun h => absurd h hi⟩
    obtain ⟨f, hf⟩ := Classical.axiomOfChoice h2
    refine ⟨some ⟨b, o, none⟩, l, c, (List.range l).map f, rfl, hlc, by simp, by omega, .inr ⟨b, o, rfl, fun j hj => ?_⟩⟩
    obtain ⟨A', m, c', h1, h2, h3⟩ := hf j hj
    exact ⟨A', m, c', h1, by simpa [List.getD_eq_getElem?_getD, hj] using h2, h3⟩
theorem trod_brows {H : Type} {enc : TypeId × Value → H} {P : Program} {W : World} {t e q : TypeId} {a : Option Addr} {len cap : Nat} {d : DataW H} {ps : List MemPlace} {ts : List TypeId} {ds : List (DataW H)} {j : Nat}
    (hsz : (DataW.weightsEach P ts ds).all (· ≤ reachBytes) = true) (ht : ts[j]? = some t) (hd : ds[j]? = some d) (hu : P.underlying t = some (.slice e)) (he : P.underlying e = some (.slice q)) (hq : P.underlying q = some (.int .u8))
    (ce : P.cellsOf e = 1) (be : P.bytesOf e = 24) (cq : P.cellsOf q = 1) (bq : P.bytesOf q = 1)
    (h : DataW.Trod enc P W 0 (fun _ => true) true t (.slice a len cap) d ps) : len ≤ cap ∧ ∃ bss, BRows W a len bss := by
  obtain ⟨fuel, hf⟩ := h
  obtain ⟨A, l, c, bss, hcs, h1, h2⟩ := brows_of (opn_slice hu ce be (by omega) (opn_bytes he hq cq bq) H enc fuel _ d ps hf (weights_of hsz ht hd))
  simp [Value.cells] at hcs
  obtain ⟨rfl, rfl, rfl⟩ := hcs
  exact ⟨h1, bss, h2⟩

/-- A list of records, sz cells each: R tells what a record's cells say. -/
def RecS {α : Type} (R : World → List Value → α → Prop) (W : World) (sz : Nat) (A : Option Addr) (n : Nat) (xs : List α) : Prop :=
  xs.length = n ∧ (n = 0 ∨ ∃ b o, A = some ⟨b, o, none⟩ ∧ ∀ i, i < n → ∃ cs x, xs[i]? = some x ∧ cs.length = sz ∧ R W cs x ∧ ∀ j u, cs[j]? = some u → W.cell? ⟨b, o + i * sz + j, none⟩ = some u)
theorem RecS.below {α : Type} {R : World → List Value → α → Prop} {w w1 : World} {sz : Nat} {A : Option Addr} {n : Nat} {xs : List α} (h : RecS R w sz A n xs) (hb : Below w.heap.size w w1) (hR : ∀ cs x, R w cs x → R w1 cs x) : RecS R w1 sz A n xs := by
  refine ⟨h.1, ?_⟩
  rcases h.2 with h0 | ⟨b, o, hA, hc⟩
  · exact .inl h0
  · refine .inr ⟨b, o, hA, fun i hi => ?_⟩
    obtain ⟨cs, x, h1, h2, h3, h4⟩ := hc i hi
    exact ⟨cs, x, h1, h2, hR _ _ h3, fun j u hj => (hb.cell (p := ⟨b, o + i * sz + j, none⟩) (block_lt_of_cell (h4 j u hj))).trans (h4 j u hj)⟩
theorem RecS.at_ {α : Type} {R : World → List Value → α → Prop} {w : World} {sz : Nat} {A : Option Addr} {n : Nat} {xs : List α} (h : RecS R w sz A n xs) (k : Nat) (hk : k < n) :
    ∃ b o cs x, A = some ⟨b, o, none⟩ ∧ xs[k]? = some x ∧ cs.length = sz ∧ R w cs x ∧ ∀ j u, cs[j]? = some u → w.cell? ⟨b, o + k * sz + j, none⟩ = some u := by
  rcases h.2 with h0 | ⟨b, o, hA, hc⟩
  · omega
  · obtain ⟨cs, x, h1⟩ := hc k hk
    exact ⟨b, o, cs, x, hA, h1⟩
theorem SliceOf.recs {α : Type} {R : World → List Value → α → Prop} {W : World} {sz B : Nat} {cs : List Value} (h : SliceOf W sz B (fun cs => ∃ x, R W cs x) cs) :
    ∃ A l c xs, cs = [.slice A l c] ∧ l ≤ c ∧ c * B ≤ 140737488351232 ∧ RecS R W sz A l xs := by
  obtain ⟨A, l, c, rfl, hlc, hcB, hel⟩ := h
  rcases hel with rfl | ⟨b, o, rfl, hel⟩
  · exact ⟨A, 0, c, [], rfl, hlc, hcB, rfl, .inl rfl⟩
  · rcases Nat.eq_zero_or_pos l with rfl | hpos
    · exact ⟨_, 0, c, [], rfl, hlc, hcB, rfl, .inl rfl⟩
    · have h2 : ∀ i : Nat, ∃ x : α, i < l → ∃ cs, cs.length = sz ∧ R W cs x ∧ ∀ j u, cs[j]? = some u → W.cell? ⟨b, o + i * sz + j, none⟩ = some u := fun i => by
        by_cases hi : i < l
        · obtain ⟨cs', h1, ⟨x, hx⟩, h3⟩ := hel i hi
          exact ⟨x, fun _ => ⟨cs', h1, hx, h3⟩⟩
        · obtain ⟨_, _, ⟨x, _⟩, _⟩ := hel 0 hpos
          exact ⟨x, fun h => absurd h hi⟩
      obtain ⟨f, hf⟩ := Classical.axiomOfChoice h2
      refine ⟨some ⟨b, o, none⟩, l, c, (List.range l).map f, rfl, hlc, hcB, by simp, .inr ⟨b, o, rfl, fun i hi => ?_⟩⟩
      obtain ⟨cs', h1, h2, h3⟩ := hf i hi
      exact ⟨cs', f i, by simp [hi], h1, h2, h3⟩
theorem trod_recs {α : Type} {R : World → List Value → α → Prop} {H : Type} {enc : TypeId × Value → H} {P : Program} {W : World} {t e : TypeId} {a : Option Addr} {len cap : Nat} {d : DataW H} {ps : List MemPlace} {ts : List TypeId} {ds : List (DataW H)} {j : Nat} {sz B : Nat}
    (hsz : (DataW.weightsEach P ts ds).all (· ≤ reachBytes) = true) (ht : ts[j]? = some t) (hd : ds[j]? = some d) (hu : P.underlying t = some (.slice e)) (ce : P.cellsOf e = sz) (be : P.bytesOf e = B) (hz : 0 < sz)
    (hO : Opn P W e (fun cs => ∃ x, R W cs x))
    (h : DataW.Trod enc P W 0 (fun _ => true) true t (.slice a len cap) d ps) : len ≤ cap ∧ cap * B ≤ 140737488351232 ∧ ∃ xs, RecS R W sz a len xs := by
  obtain ⟨fuel, hf⟩ := h
  obtain ⟨A, l, c, xs, hcs, h1, h2, h3⟩ := SliceOf.recs (opn_slice hu ce be hz hO H enc fuel _ d ps hf (weights_of hsz ht hd))
  simp [Value.cells] at hcs
  obtain ⟨rfl, rfl, rfl⟩ := hcs
  exact ⟨h1, h2, xs, h3⟩
end Go.Proofs.Ytodaplkijdjbpaa
