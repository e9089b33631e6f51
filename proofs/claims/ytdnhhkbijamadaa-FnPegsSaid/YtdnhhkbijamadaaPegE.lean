/- Pegs, impl: a copy of a board, a move made, what is known. -/
import Derived.Test.YtdnhhkbijamadaaPegC
import Derived.Test.YtdnhhkbijamadaaAv
import Derived.Maps.OwnSet
import Derived.Maps.Keyed
import Derived.Maps.Views
import Derived.ChangeMaps
namespace Go.Proofs.Ytdnhhkbijamadaa
open Go.RowKit
set_option linter.unusedVariables false

theorem boolCells_one (xs : List Bool) : ∀ u ∈ xs.map Value.bool, u.oneCell' = true := by
  intro u hu
  obtain ⟨x, _, rfl⟩ := List.mem_map.1 hu
  rfl
theorem Row.news {α : Type} {f : α → Value} {w : World} {ad : Addr} {n c : Nat} {xs : List α} (h : Row f w (some ad) n c xs) : ∀ j u, (xs.map f)[j]? = some u → w.cell? (ad.add j) = some u := by
  intro j u hu
  obtain ⟨h1, h2, h3, h4⟩ := h
  have hj : j < n * 1 := by rw [← h1]; exact (List.getElem?_eq_some_iff.1 hu).1
  rcases h4 with h4 | ⟨b, off, ha, hlt, hc⟩
  · omega
  · cases ha
    have := hc j hj
    rw [hu] at this
    rw [← this]
    unfold Addr.add
    split
    · rename_i h0; subst h0; rfl
    · rfl
theorem infoBp : (Try.prog.info? 4).map (fun i => (i.zero, i.size, i.bytes)) = some (some (.bool false), 1, 1) := by kernel_rfl
theorem cloneB_any (ad : Addr) (n c : Nat) (xs : List Bool) (w : World) (h : Row Value.bool w (some ad) n c xs) (hn : n ≤ 1048576) :
    Calls Try.prog 21 #[.slice (some ad) n c] w fun e w' => ∃ a' c', e = .returned (.slice a' n c') ∧ Below w.heap.size w w' ∧ w'.ownsRow w.heap.size 4 1 (.slice a' n c') n (xs.map Value.bool) := by
  obtain ⟨i0, hi, hz0, hz1, hz2⟩ := info_parts infoBp
  have qq := fun (w : World) (a : Option Addr) (n c n' c' : Nat) => Lib.run_eql_slice_nil (P := Try.prog) w 25 4 a n c n' c' Try.underlying25
  have hN := Lib.hid h.news
  have hL : Hid ((xs.map Value.bool).length = n * 1) := h.1
  clear h
  go_enter Try.func21, Try.ntmps21
  go_wp2_with (first | (at_builtin; go_must (refine wpList_append_own _ rfl _ _ 25 rfl w.heap.size 4 i0 (.bool false) 1 1 Try.underlying25 hi hz0 hz1 hz2 rfl (by decide) _ _ _ rfl (World.ownsRow_made w #[] 0 (Nat.le_refl _) (Nat.zero_le _) (by simp)) ad n c (xs.map Value.bool) rfl hL.out (fun j u hu => cell_on ((Below.refl _ _).alloc (Nat.le_refl _) _) (hN.out j u hu)) (boolCells_one xs) (by unfold maxLen; omega) (by omega) (by simp) ?_); intro v' w1 hown1 hg1 _))
  have M : (w.alloc (.cells #[] 4)).ownsRow w.heap.size 4 1 (.slice (some ⟨w.heap.size, 0, none⟩) 0 0) 0 [] := World.ownsRow_made w #[] 0 (Nat.le_refl _) (Nat.zero_le _) (by simp)
  have HB : Below w.heap.size w w1 := below_grown ((Below.refl w.heap.size w).alloc (Nat.le_refl _) _) (by simp) hg1 M
  have HO := hown1
  simp only [Nat.zero_add, List.nil_append] at HO
  obtain ⟨a', c', rfl⟩ := own_form HO
  clear hown1 hg1
  go_wp2
  go_ret
  exact ⟨a', c', by simp, HB, HO⟩

set_option maxRecDepth 100000 in
theorem jumped_any (ad : Addr) (n c : Nat) (bs : List Bool) (f t : Nat) (w : World) (h : Row Value.bool w (some ad) n c bs) (hn : n ≤ 14) (hf : f < n) (ht : t < n) (hm : (f + t) / 2 < n) :
    Calls Try.prog 15 #[.slice (some ad) n c, .int .i64 f, .int .i64 t] w fun e w' => ∃ g c', e = .returned (.slice (some ⟨g, 0, none⟩) n c') ∧ Below w.heap.size w w' ∧ w'.ownsRow w.heap.size 4 1 (.slice (some ⟨g, 0, none⟩) n c') n ((jump bs f t).map Value.bool) := by
  have C1 := Lib.hid (cloneB_any ad n c bs w h (by omega))
  obtain ⟨hc, hb, _⟩ := h.at false
  have em := mid_int f t
  clear h
  generalize hM : (f + t) / 2 = M at *
  go_enter Try.func15, Try.ntmps15
  go_wp2_with (fail)
  refine C1.out.mono ?_
  rintro e w1 ⟨a1, c1, rfl, hb1, ho1⟩
  have hcap : n ≤ c1 ∧ c1 ≤ 9223372036854775807 := by have := Rd.own ho1; exact ⟨this.2.1, this.2.2.1⟩
  obtain ⟨g, rfl⟩ : ∃ g, a1 = some ⟨g, 0, none⟩ := by
    rcases ho1.2 with h2 | ⟨g, cap, cur, e, _⟩
    · omega
    · simp only [Value.slice.injEq] at e
      exact ⟨g, e.1⟩
  have hgb := (ho1.lt g rfl).1
  have HB := Lib.hid hb1
  have k0 := own_getB ho1 f hf
  have k1 := own_getB (own_putB ho1 f false) M hm
  have k2 := own_getB (own_putB (own_putB ho1 f false) M false) t ht
  have fz := fun j => ho1.frozenAt j
  have fz1 := fun j => (own_putB ho1 f false).frozenAt j
  have fz2 := fun j => (own_putB (own_putB ho1 f false) M false).frozenAt j
  have HN : Hid ((((w1.setCell ⟨g, f, none⟩ (.bool false)).setCell ⟨g, M, none⟩ (.bool false)).setCell ⟨g, t, none⟩ (.bool true)).ownsRow w.heap.size 4 1 (.slice (some ⟨g, 0, none⟩) n c1) n ((jump bs f t).map Value.bool)) := by
    show World.ownsRow _ _ _ _ _ _ _
    unfold jump
    rw [hM]
    exact own_putB (own_putB (own_putB ho1 f false) M false) t true
  clear hb1 ho1 C1
  go_wp2
  go_ret
  exact ⟨g, c1, rfl, ((HB.out.setCell hgb _).setCell hgb _).setCell hgb _, HN.out⟩

def KeysB (D : DataW Unit) : Prop := ∃ es, D = .map es ∧ es.Pairwise (fun p q => p.1 ≠ q.1) ∧ ∀ p ∈ es, ∃ m : Nat, m < 16384 ∧ p.1 = .int .i64 m
theorem KeysB.empty : KeysB (.map []) := ⟨[], rfl, List.Pairwise.nil, fun p hp => by cases hp⟩
theorem KeysB.put {D : DataW Unit} (h : KeysB D) {m : Nat} (hm : m < 16384) (d : DataW Unit) : KeysB (D.put (.int .i64 m) d) := by
  obtain ⟨es, rfl, h1, h2⟩ := h
  have ht : Maps.Tidy (DataW.map es : DataW Unit) := ⟨es, rfl, h1⟩
  obtain ⟨es', e', h3⟩ := ht.put (k := .int .i64 m) trivial d
  refine ⟨es', e', h3, fun p hp => ?_⟩
  have e2 : DataW.map (DataW.insert (Lit.int .i64 m, d) (es.filter fun p => !p.1.sameKey (.int .i64 m))) = DataW.map es' := e'
  have e3 := DataW.map.inj e2
  rw [← e3] at hp
  rcases ChangeMaps.mem_insert_iff.1 hp with q | q
  · rw [q]; exact ⟨m, hm, rfl⟩
  · exact h2 p (List.mem_filter.1 q).1
theorem nodup_lenB : ∀ (n : Nat) (l : List Nat), l.Nodup → (∀ x ∈ l, x < n) → l.length ≤ n := by
  intro n
  induction n with
  | zero => intro l _ h; cases l with
    | nil => exact Nat.le_refl _
    | cons a l => exact absurd (h a List.mem_cons_self) (Nat.not_lt_zero _)
  | succ n ih =>
    intro l hd h
    have h1 := ih (l.erase n) (hd.erase n) (fun x hx => by
      have h2 := h x (List.mem_of_mem_erase hx)
      have h3 : x ≠ n := fun q => by subst q; exact (List.Nodup.not_mem_erase hd) hx
      omega)
    have h2 : l.length - 1 ≤ (l.erase n).length := by rw [List.length_erase]; split <;> omega
    omega
def litN : Lit → Nat
  | .int _ a => a.toNat
  | _ => 0
theorem KeysB.size {D : DataW Unit} (h : KeysB D) : Maps.size D ≤ 16384 := by
  obtain ⟨es, rfl, h1, h2⟩ := h
  have e : (es.map fun p => litN p.1).length = es.length := List.length_map _
  show es.length ≤ _
  rw [← e]
  refine nodup_lenB _ _ ?_ ?_
  · unfold List.Nodup
    rw [List.pairwise_map]
    refine List.Pairwise.imp_of_mem ?_ h1
    intro a b ha hb hne he
    obtain ⟨m, _, q⟩ := h2 a ha
    obtain ⟨m', _, q'⟩ := h2 b hb
    apply hne
    rw [q, q'] at he ⊢
    have : m = m' := by simpa [litN] using he
    rw [this]
  · intro x hx
    obtain ⟨p, hp, rfl⟩ := List.mem_map.1 hx
    obtain ⟨m, hm, q⟩ := h2 p hp
    rw [q]
    simpa [litN] using hm
theorem KeysB.isMap {D : DataW Unit} (h : KeysB D) : Maps.IsMap D := by
  obtain ⟨es, rfl, _, _⟩ := h
  exact ⟨es, rfl⟩
/-- what the table tells is right -/
def KnownP (n : Nat) (D : DataW Unit) : Prop := KeysB D ∧ ∀ x : Nat, Maps.has D (.int .i64 x) = true → ∀ z, D.atKey (.int .i64 x) z = .lit (.int .i64 (Lst n x : Nat))
theorem KnownP.empty (n : Nat) : KnownP n (.map []) := ⟨KeysB.empty, fun x h => by simp [Maps.has] at h⟩
theorem KnownP.put {n : Nat} {D : DataW Unit} (h : KnownP n D) {x : Nat} (hx : x < 16384) : KnownP n (D.put (.int .i64 x) (.lit (.int .i64 (Lst n x : Nat)))) := by
  refine ⟨h.1.put hx _, fun y hy z => ?_⟩
  by_cases e : y = x
  · subst e
    rw [Maps.atKey_put_same h.1.isMap (show WideAt.IsKeyLit (.int .i64 (y : Int)) from trivial)]
  · have hne : (Lit.int .i64 (y : Int)) ≠ .int .i64 (x : Int) := fun q => by simp at q; exact e (by omega)
    rw [Maps.has_put_other hne] at hy
    rw [Maps.atKey_put_other hne]
    exact h.2 y hy z
theorem ownsMap_size {w : World} {P : Program} {k : TypeId} {R : Value → Option (DataW Unit × List MemPlace)} {b n : Nat} {D : DataW Unit} (h : w.ownsMap P k R b n D) : w.ownsMap P k R b (Maps.size D) D := by
  obtain ⟨es, clock, h1, h2, h3, rfl⟩ := h
  refine ⟨es, clock, h1, h2, ?_, rfl⟩
  show es.size ≤ ((es.toList.map (WideElems.rg P k R)).foldr DataW.insert []).length
  rw [length_read]
  exact Nat.le_refl _
/-- Block M is the table. -/
def TabP (n M : Nat) (w : World) : Prop := ∃ (k : Nat) (D : DataW Unit), w.ownsMap Try.prog 3 (plainElem Try.prog 2) M k D ∧ KnownP n D
theorem TabP.lt {n M : Nat} {w : World} (h : TabP n M w) : M < w.heap.size := by
  obtain ⟨k, D, h1, _⟩ := h
  exact h1.lt
theorem TabP.mono {n M : Nat} {w w' : World} (h : TabP n M w) (hb : Below w.heap.size w w') : TabP n M w' := by
  obtain ⟨k, D, h1, h2⟩ := h
  exact ⟨k, D, h1.kept (row := none) ⟨hb.os, hb.tape, hb.output, hb.size, fun j hj _ => hb.block j hj⟩ (by simp), h2⟩
theorem TabP.tight {n M : Nat} {w : World} (h : TabP n M w) : ∃ (k : Nat) (D : DataW Unit), w.ownsMap Try.prog 3 (plainElem Try.prog 2) M k D ∧ KnownP n D ∧ k ≤ 16384 := by
  obtain ⟨k, D, h1, h2⟩ := h
  exact ⟨_, D, ownsMap_size h1, h2, h2.1.size⟩
theorem keyedInt : Maps.Keyed Try.prog 3 := Maps.int_keyed Try.underlying3
theorem wfN {m : Nat} (h : m < 16384) : (Lit.int .i64 (m : Int)).wf = true := by
  simp [Lit.wf, IntKind.min, IntKind.max, IntKind.bits, IntKind.signed]
  omega
theorem keyN {m : Nat} (h : m < 16384) : keyOf Try.prog 3 (.int .i64 m) = some (.int .i64 m) := Maps.keyOf_int_mk Try.underlying3 (wfN h)

end Go.Proofs.Ytdnhhkbijamadaa
