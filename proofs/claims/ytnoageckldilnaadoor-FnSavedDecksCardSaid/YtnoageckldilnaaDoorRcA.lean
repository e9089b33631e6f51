/- A row of saved games that are owned, one behind the other. -/
import Derived.Test.YtnoageckldilnaaDoorLoadE
import Derived.Test.YtnoageckldilnaaDoorSavS
import Derived.Test.YtnoageckldilnaaDoorMarkS
namespace Go.Proofs.YtnoageckldilnaaDoor
open Go.RowKit
set_option linter.unusedVariables false

/-- One whose deck and dice are its own, each in its range. -/
structure SavR (l0 l1 l2 : Nat) (w : World) (m : MS) (x : AS) : Prop where
  nm : m.1 = x.1
  deck : w.ownsRow l0 2 1 (.slice m.2.1.1 m.2.1.2.1 m.2.1.2.2) m.2.1.2.1 (intCells x.2.1)
  din : In l0 l1 m.2.1.1
  dice : ∃ ss, OwnDS l1 l2 w m.2.2.1 m.2.2.2.1 m.2.2.2.2 ss x.2.2
  le : l0 ≤ l1 ∧ l1 ≤ l2
theorem SavR.v {l0 l1 l2 : Nat} {w : World} {m : MS} {x : AS} (h : SavR l0 l1 l2 w m x) : SavV w m x :=
  ⟨h.nm, Rd.own h.deck, by obtain ⟨ss, hs⟩ := h.dice; exact ⟨ss, hs.rd⟩⟩
theorem SavR.below {l0 l1 l2 : Nat} {w w' : World} {m : MS} {x : AS} (h : SavR l0 l1 l2 w m x) (hb : Below w.heap.size w w') : SavR l0 l1 l2 w' m x :=
  ⟨h.nm, ownsRow_below h.deck hb, h.din, by obtain ⟨ss, hs⟩ := h.dice; exact ⟨ss, hs.below hb⟩, h.le⟩
theorem SavR.chg {l0 l1 l2 lo hi : Nat} {w w' : World} {m : MS} {x : AS} (h : SavR l0 l1 l2 w m x) (hc : Chg lo hi w w') (hd : l2 ≤ lo ∨ hi ≤ l0) : SavR l0 l1 l2 w' m x := by
  obtain ⟨h1, h2⟩ := h.le
  exact ⟨h.nm, own_chg h.deck hc h.din (by omega), h.din, by obtain ⟨ss, hs⟩ := h.dice; exact ⟨ss, hs.chg hc (by omega)⟩, h.le⟩

structure OwnSv (lo hi : Nat) (w : World) (a : Option Addr) (n c : Nat) (L : Nat → Nat × Nat × Nat) (ms : List MS) (xs : List AS) : Prop where
  row : w.ownsRow lo 30 3 (.slice a n c) n (svCells ms)
  rin : In lo hi a
  len : xs.length = n
  el : ∀ i, i < n → SavR (L i).1 (L i).2.1 (L i).2.2 w (ms.getD i ms0) (xs.getD i as0)
  rng : ∀ i, i < n → lo ≤ (L i).1 ∧ (L i).2.2 ≤ hi
  dis : ∀ i j, i < j → j < n → (L i).2.2 ≤ (L j).1
  apo : ∀ i, i < n → ∀ x, a = some x → x.block < (L i).1 ∨ (L i).2.2 ≤ x.block
section
variable {lo hi : Nat} {w w' : World} {a : Option Addr} {n c : Nat} {L : Nat → Nat × Nat × Nat} {ms : List MS} {xs : List AS}
theorem OwnSv.sv (h : OwnSv lo hi w a n c L ms xs) : SavS w a n c ms xs := ⟨Rd.own h.row, h.len, fun i hi => (h.el i hi).v⟩
theorem OwnSv.below (h : OwnSv lo hi w a n c L ms xs) (hb : Below w.heap.size w w') : OwnSv lo hi w' a n c L ms xs :=
  ⟨ownsRow_below h.row hb, h.rin, h.len, fun i hi => (h.el i hi).below hb, h.rng, h.dis, h.apo⟩
theorem OwnSv.wide {hi' : Nat} (h : OwnSv lo hi w a n c L ms xs) (hh : hi ≤ hi') : OwnSv lo hi' w a n c L ms xs :=
  ⟨h.row, h.rin.wide (Nat.le_refl _) hh, h.len, h.el, fun i hi => by have := h.rng i hi; omega, h.dis, h.apo⟩
theorem OwnSv.ml (h : OwnSv lo hi w a n c L ms xs) : ms.length = n := h.sv.ml
theorem ownSv_nil (lo hi : Nat) (w : World) (L : Nat → Nat × Nat × Nat) : OwnSv lo hi w none 0 0 L [] [] :=
  ⟨World.ownsRow_nil _ _ _ _, fun x hx => (by cases hx), rfl, fun i hi => absurd hi (Nat.not_lt_zero _), fun i hi => absurd hi (Nat.not_lt_zero _), fun i j _ hi => absurd hi (Nat.not_lt_zero _), fun i hi => absurd hi (Nat.not_lt_zero _)⟩
theorem OwnSv.chg {p q : Nat} (h : OwnSv lo hi w a n c L ms xs) (hc : Chg p q w w') (hd : hi ≤ p ∨ q ≤ lo) : OwnSv lo hi w' a n c L ms xs :=
  ⟨own_chg h.row hc h.rin hd, h.rin, h.len, fun i hi => (h.el i hi).chg hc (by have := h.rng i hi; omega), h.rng, h.dis, h.apo⟩

/-- One's deck and dice were written, and nothing else. -/
theorem OwnSv.upd {k : Nat} {x : AS} (h : OwnSv lo hi w a n c L ms xs) (hk : k < n) (hc : Chg (L k).1 (L k).2.2 w w') (hx : SavR (L k).1 (L k).2.1 (L k).2.2 w' (ms.getD k ms0) x) : OwnSv lo hi w' a n c L ms (xs.set k x) := by
  refine ⟨?_, h.rin, by rw [List.length_set]; exact h.len, fun i hi => ?_, h.rng, h.dis, h.apo⟩
  · refine own_keep h.row fun g e => ?_
    cases a with
    | none => simp [Value.ownBlock] at e
    | some y =>
      obtain rfl : y.block = g := by simpa [Value.ownBlock] using e
      exact hc.block _ (h.row.lt _ e).2 (h.apo k hk y rfl)
  · by_cases q : i = k
    · subst q
      rw [getD_set_self _ _ _ _ (by rw [h.len]; exact hi)]
      exact hx
    · rw [getD_set_ne _ _ _ _ _ (Ne.symm q)]
      refine (h.el i hi).chg hc ?_
      by_cases q2 : i < k
      · exact .inl (h.dis i k q2 hk)
      · exact .inr (h.dis k i (by omega) hi)

theorem svCells_set (ms : List MS) (k : Nat) (m : MS) (s : ByteArray) (hk : k < ms.length) (hm : m = ms.getD k ms0) : (svCells ms).set (k * 3) (.string s) = svCells (ms.set k (s, m.2)) := by
  subst hm
  apply List.ext_getElem?
  intro j
  have hl := svCells_len ms
  have hl2 := svCells_len (ms.set k (s, (ms.getD k ms0).2))
  rw [List.length_set] at hl2
  by_cases hj : j < ms.length * 3
  · obtain ⟨i, t, ht, rfl⟩ : ∃ i t, t < 3 ∧ j = i * 3 + t := ⟨j / 3, j % 3, Nat.mod_lt _ (by omega), by omega⟩
    have hi : i < ms.length := by omega
    obtain ⟨p0, p1, p2⟩ := svCells_get ms i hi
    obtain ⟨q0, q1, q2⟩ := svCells_get (ms.set k (s, (ms.getD k ms0).2)) i (by rw [List.length_set]; exact hi)
    have h3 : t = 0 ∨ t = 1 ∨ t = 2 := by omega
    by_cases hik : i = k
    · subst hik
      rw [getD_set_self _ _ _ _ hi] at q0 q1 q2
      rcases h3 with rfl | rfl | rfl
      · rw [Nat.add_zero, List.getElem?_set_self (by omega), q0]
      · rw [List.getElem?_set_ne (by omega), p1, q1]
      · rw [List.getElem?_set_ne (by omega), p2, q2]
    · rw [getD_set_ne _ _ _ _ _ (Ne.symm hik)] at q0 q1 q2
      rw [List.getElem?_set_ne (by omega)]
      rcases h3 with rfl | rfl | rfl
      · rw [Nat.add_zero, p0, q0]
      · rw [p1, q1]
      · rw [p2, q2]
  · rw [List.getElem?_eq_none (by rw [List.length_set]; omega), List.getElem?_eq_none (by omega)]

/-- One's text was written. -/
theorem OwnSv.rename {k g : Nat} {s : ByteArray} (h : OwnSv lo hi w (some ⟨g, 0, none⟩) n c L ms xs) (hk : k < n) :
    OwnSv lo hi (w.setCell ⟨g, k * 3, none⟩ (.string s)) (some ⟨g, 0, none⟩) n c L (ms.set k (s, (ms.getD k ms0).2)) (xs.set k (s, (xs.getD k as0).2)) := by
  have hml := h.ml
  have hc : Chg g (g + 1) w (w.setCell ⟨g, k * 3, none⟩ (.string s)) := Chg.of_set _
  refine ⟨?_, h.rin, by rw [List.length_set]; exact h.len, fun i hi => ?_, h.rng, h.dis, h.apo⟩
  · have := (h.row.stored (k * 3) (.string s)).1
    rw [svCells_set ms k _ s (by omega) rfl] at this
    simpa using this
  · have hr := (h.el i hi).chg hc (by have := h.apo i hi _ rfl; dsimp only at this; omega)
    by_cases q : i = k
    · subst q
      have hxl := h.len
      rw [getD_set_self _ _ _ _ (by omega), getD_set_self _ _ _ _ (by omega)]
      exact ⟨rfl, hr.deck, hr.din, hr.dice, hr.le⟩
    · rw [getD_set_ne _ _ _ _ _ (Ne.symm q), getD_set_ne _ _ _ _ _ (Ne.symm q)]
      exact hr

/-- One more. -/
theorem OwnSv.snoc {l0 l1 l2 hi' g cap : Nat} {m : MS} {x : AS} {o : Obj} (h : OwnSv lo hi w a n c L ms xs) (hs : SavR l0 l1 l2 w m x) (hlo : lo ≤ hi) (hh : hi ≤ l0) (h2 : l2 ≤ w.heap.size)
    (ho : w'.ownsRow lo 30 3 (.slice (some ⟨g, 0, none⟩) (n + 1) cap) (n + 1) (svCells ms ++ msV m)) (hg : (w.alloc o).grownBy w' (Value.slice a n c).ownBlock) (hat : (Value.slice a n c).ownBlock = some g ∨ g = w.heap.size + 1) (hi2 : w'.heap.size ≤ hi') :
    OwnSv lo hi' w' (some ⟨g, 0, none⟩) (n + 1) cap (fun i => if i = n then (l0, l1, l2) else L i) (ms ++ [m]) (xs ++ [x]) := by
  have hml := h.ml
  have hxl := h.len
  have ha : Below w.heap.size w (w.alloc o) := (Below.refl _ _).alloc (Nat.le_refl _) _
  have hle := hs.le
  have hgin : In lo hi a := h.rin
  have hc := Chg.of_grown (n := n) (c := c) (lo := lo) (hi := hi) hgin hg
  have hz : (w.alloc o).heap.size = w.heap.size + 1 := by simp
  have hsz := hg.size
  have hgb : (∃ y, a = some y ∧ y.block = g) ∨ g = w.heap.size + 1 := by
    rcases hat with q | q
    · left
      cases a with
      | none => simp [Value.ownBlock] at q
      | some y => exact ⟨y, rfl, by simpa [Value.ownBlock] using q⟩
    · exact .inr q
  have hgl := ho.lt g rfl
  refine ⟨?_, fun y hy => ?_, by simp [hxl], fun i hi => ?_, fun i hi => ?_, fun i j hij hj => ?_, fun i hi y hy => ?_⟩
  · have e : svCells (ms ++ [m]) = svCells ms ++ msV m := by simp [svCells]
    rw [e]; exact ho
  · obtain rfl := Option.some.inj hy
    exact ⟨hgl.1, by have := hgl.2; dsimp only; omega⟩
  · by_cases q : i = n
    · subst q
      rw [if_pos rfl, getD_snoc_self _ _ _ _ hml, getD_snoc_self _ _ _ _ hxl]
      exact (hs.below ha).chg hc (.inr hh)
    · have hi3 : i < n := by omega
      rw [if_neg q, getD_snoc_lt _ _ _ _ (by omega), getD_snoc_lt _ _ _ _ (by omega)]
      have hr := (h.el i hi3).below ha
      have hrg := h.rng i hi3
      have hap := h.apo i hi3
      cases a with
      | none =>
        exact hr.chg (Chg.of_grown (lo := 0) (hi := 0) (n := n) (c := c) (fun y hy => by cases hy) hg) (.inr (Nat.zero_le _))
      | some y =>
        refine hr.chg (Chg.of_grown (lo := y.block) (hi := y.block + 1) (n := n) (c := c) (fun z hz => by obtain rfl := Option.some.inj hz; omega) hg) ?_
        have := hap y rfl
        omega
  · by_cases q : i = n
    · rw [if_pos q]; dsimp only; omega
    · rw [if_neg q]
      have := h.rng i (by omega)
      omega
  · by_cases q : j = n
    · rw [if_pos q, if_neg (by omega)]
      have := h.rng i (by omega)
      dsimp only
      omega
    · rw [if_neg q, if_neg (by omega)]
      exact h.dis i j hij (by omega)
  · obtain rfl := Option.some.inj hy
    dsimp only
    by_cases q : i = n
    · rw [if_pos q]
      dsimp only
      rcases hgb with ⟨y, rfl, rfl⟩ | q2
      · have := hgin y rfl; omega
      · omega
    · rw [if_neg q]
      rcases hgb with ⟨y, rfl, rfl⟩ | q2
      · exact h.apo i (by omega) y rfl
      · have := h.rng i (by omega); omega
end

end Go.Proofs.YtnoageckldilnaaDoor
