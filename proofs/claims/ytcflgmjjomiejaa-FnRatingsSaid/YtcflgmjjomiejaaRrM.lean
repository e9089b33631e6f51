/- Ratings after games, told as fractions: each game answers, and ratings keep their sum, nearly. -/
import Derived.Test.YtcflgmjjomiejaaRbM
import Derived.Test.YtcflgmjjomiejaaL7GamesB
import Derived.Deep.RegionHeld3
import Derived.Deep.AppendLies
namespace Go.Proofs.Ytcflgmjjomiejaa
set_option linter.unusedVariables false
set_option linter.unusedSimpArgs false
open Ieee

def ratSum (v : Nat → Rat) : Nat → Rat
  | 0 => 0
  | k + 1 => ratSum v k + v k
def upd (v : Nat → Rat) (i : Nat) (x : Rat) : Nat → Rat := fun a => if a = i then x else v a
theorem ratSum_upd (v : Nat → Rat) (i : Nat) (x : Rat) : ∀ n, ratSum (upd v i x) n = if i < n then ratSum v n + (x - v i) else ratSum v n := by
  intro n
  induction n with
  | zero => rw [if_neg (Nat.not_lt_zero _)]; rfl
  | succ n ih =>
    show ratSum (upd v i x) n + upd v i x n = _
    rw [ih]
    have e : ratSum v (n + 1) = ratSum v n + v n := rfl
    rw [e]
    by_cases h1 : i < n
    · rw [if_pos h1, if_pos (by omega)]
      have : upd v i x n = v n := if_neg (by omega)
      rw [this]; grind
    · rw [if_neg h1]
      by_cases h2 : i = n
      · subst h2
        rw [if_pos (by omega)]
        have : upd v i x i = x := if_pos rfl
        rw [this]; grind
      · rw [if_neg (by omega)]
        have : upd v i x n = v n := if_neg (fun h => h2 h.symm)
        rw [this]

/-- how much a rating changes -/
def rD (a b : Nat) (r : Int) : Nat := mS fHalf (sS (mS fHalf (fI r)) (eW a b))
def rStep (R : List Nat) (g : Int × Int × Int) : List Nat :=
  (R.set g.1.toNat (aS (R.getD g.1.toNat 0) (rD (R.getD g.1.toNat 0) (R.getD g.2.1.toNat 0) g.2.2))).set g.2.1.toNat (sS (R.getD g.2.1.toNat 0) (rD (R.getD g.1.toNat 0) (R.getD g.2.1.toNat 0) g.2.2))
def rateL (R : List Nat) (gs : List (Int × Int × Int)) : Nat → List Nat
  | 0 => R
  | k + 1 => rStep (rateL R gs k) (gs.getD k (0, 0, 0))
theorem rStep_len (R : List Nat) (g : Int × Int × Int) : (rStep R g).length = R.length := by simp [rStep]
theorem rateL_len (R : List Nat) (gs : List (Int × Int × Int)) (k : Nat) : (rateL R gs k).length = R.length := by
  induction k with
  | zero => rfl
  | succ k ih => show (rStep _ _).length = _; rw [rStep_len, ih]

/-- ratings that are worth v, at most B -/
structure RV (n : Nat) (B : Rat) (R : List Nat) (v : Nat → Rat) : Prop where
  len : R.length = n
  vr : ∀ i, i < n → Vr single (R.getD i 0) (v i)
  hi : ∀ i, i < n → v i ≤ B
  lo : ∀ i, i < n → -v i ≤ B
/-- every operation of a game answers -/
structure RateOps (R : List Nat) (i j : Nat) (r : Int) : Prop where
  exp : ExpectOps (R.getD i 0) (R.getD j 0)
  m1 : floatBits .mul .f32 fHalf (fI r) = some (mS fHalf (fI r))
  s1 : floatBits .sub .f32 (mS fHalf (fI r)) (eW (R.getD i 0) (R.getD j 0)) = some (sS (mS fHalf (fI r)) (eW (R.getD i 0) (R.getD j 0)))
  m2 : floatBits .mul .f32 fHalf (sS (mS fHalf (fI r)) (eW (R.getD i 0) (R.getD j 0))) = some (rD (R.getD i 0) (R.getD j 0) r)
  add : floatBits .add .f32 (R.getD i 0) (rD (R.getD i 0) (R.getD j 0) r) = some (aS (R.getD i 0) (rD (R.getD i 0) (R.getD j 0) r))
  sub : floatBits .sub .f32 (R.getD j 0) (rD (R.getD i 0) (R.getD j 0) r) = some (sS (R.getD j 0) (rD (R.getD i 0) (R.getD j 0) r))
  fi : finB (aS (R.getD i 0) (rD (R.getD i 0) (R.getD j 0) r)) = true
  fj : finB (sS (R.getD j 0) (rD (R.getD i 0) (R.getD j 0) r)) = true
theorem half_r {r : Int} (h0 : 0 ≤ r) (h2 : r ≤ 2) : floatBits .mul .f32 fHalf (fI r) = some (mS fHalf (fI r)) ∧ ∃ h, Vr single (mS fHalf (fI r)) h ∧ 0 ≤ h ∧ h ≤ 1 := by
  have g0 := vr_int1 r (by omega)
  have c0 : (0 : Rat) ≤ (r : Rat) := by exact_mod_cast h0
  have c2 : (r : Rat) ≤ 2 := by exact_mod_cast h2
  obtain ⟨e, v, g, f⟩ := mS_ok half32 g0 (by unfold big; grind) (by unfold big; grind)
  exact ⟨e, v, g, f.ge 0 (rep_zero _) (by grind), f.le 1 (rep1 1 (by decide) 0 (by omega) (by decide +kernel)) (by grind)⟩
theorem rate_ok {n i j : Nat} {R : List Nat} {v : Nat → Rat} {B : Rat} {r : Int} (hR : RV n B R v) (hi : i < n) (hj : j < n) (hij : i ≠ j) (h0 : 0 ≤ r) (h2 : r ≤ 2) (hB : B ≤ 10) :
    RateOps R i j r ∧ ∃ x y, Vr single (aS (R.getD i 0) (rD (R.getD i 0) (R.getD j 0) r)) x ∧ Vr single (sS (R.getD j 0) (rD (R.getD i 0) (R.getD j 0) r)) y ∧ x ≤ B + 51 / 100 ∧ -x ≤ B + 51 / 100 ∧ y ≤ B + 51 / 100 ∧ -y ≤ B + 51 / 100 ∧
      x + y ≤ v i + v j + 1 / 100000 ∧ v i + v j ≤ x + y + 1 / 100000 := by
  have a1 := hR.vr i hi
  have a2 := hR.vr j hj
  have b1 := hR.hi i hi
  have b2 := hR.lo i hi
  have b3 := hR.hi j hj
  have b4 := hR.lo j hj
  obtain ⟨hE, ε, e, _, _, _, ge, e0, e1, _⟩ := eW_ok a1 a2 (by grind) (by grind) (by unfold big; grind) (by unfold big; grind) (by unfold big; grind) (by unfold big; grind)
  obtain ⟨k1, h, gh, hh0, hh1⟩ := half_r h0 h2
  obtain ⟨k2, d, gd, fd⟩ := sS_ok gh ge (by unfold big; grind) (by unfold big; grind)
  have hd1 : d ≤ 1 := fd.le 1 (rep1 1 (by decide) 0 (by omega) (by decide +kernel)) (by grind)
  have hd2 : -1 ≤ d := fd.ge (-1) (rep1 (-1) (by decide) 0 (by omega) (by decide +kernel)) (by grind)
  obtain ⟨k3, D, gD, fD'⟩ := mS_ok half32 gd (by unfold big; grind) (by unfold big; grind)
  have hD1 : D ≤ 1 / 2 := fD'.le (1 / 2) (rep1 1 (by decide) 1 (by omega) (by decide +kernel)) (by grind)
  have hD2 : -(1 / 2) ≤ D := fD'.ge (-(1 / 2)) (rep1 (-1) (by decide) 1 (by omega) (by decide +kernel)) (by grind)
  obtain ⟨k4, x, gx, fx⟩ := aS_ok a1 gD (by unfold big; grind) (by unfold big; grind)
  obtain ⟨k5, y, gy, fy⟩ := sS_ok a2 gD (by unfold big; grind) (by unfold big; grind)
  obtain ⟨n1, n2⟩ := fx.near1 11 (by grind) (by grind)
  obtain ⟨n3, n4⟩ := fy.near1 11 (by grind) (by grind)
  exact ⟨⟨hE, k1, k2, k3, k4, k5, vr_fin gx (by unfold big; grind) (by unfold big; grind), vr_fin gy (by unfold big; grind) (by unfold big; grind)⟩, x, y, gx, gy, by grind, by grind, by grind, by grind, by grind, by grind⟩
theorem getD_setR (R : List Nat) (i a x : Nat) (hi : i < R.length) : (R.set i x).getD a 0 = if a = i then x else R.getD a 0 := by
  by_cases h : a = i
  · subst h; simp [hi]
  · rw [if_neg h]
    have h' : ¬ i = a := fun e => h e.symm
    simp [h']
theorem rStep_rv {n : Nat} {R : List Nat} {v : Nat → Rat} {B : Rat} {g : Int × Int × Int} (hR : RV n B R v) (hg : okGame (n : Int) g = true) (hB : B ≤ 10) :
    RateOps R g.1.toNat g.2.1.toNat g.2.2 ∧ ∃ v', RV n (B + 51 / 100) (rStep R g) v' ∧ ratSum v' n ≤ ratSum v n + 1 / 100000 ∧ ratSum v n ≤ ratSum v' n + 1 / 100000 := by
  obtain ⟨i, j, e1, e2, hip, hjp, hij, hr0, hr2⟩ := okGame_nat hg
  have hi : i < n := by omega
  have hj : j < n := by omega
  unfold rStep
  rw [e1, e2, Int.toNat_natCast, Int.toNat_natCast]
  obtain ⟨ho, x, y, gx, gy, b1, b2, b3, b4, s1, s2⟩ := rate_ok hR hi hj hij hr0 hr2 hB
  refine ⟨ho, upd (upd v i x) j y, ⟨by simp [hR.len], fun a ha => ?_, fun a ha => ?_, fun a ha => ?_⟩, ?_⟩
  · rw [getD_setR _ _ _ _ (by rw [List.length_set, hR.len]; exact hj), getD_setR _ _ _ _ (by rw [hR.len]; exact hi)]
    unfold upd
    by_cases h1 : a = j
    · rw [if_pos h1, if_pos h1]; exact gy
    · rw [if_neg h1, if_neg h1]
      by_cases h2 : a = i
      · rw [if_pos h2, if_pos h2]; exact gx
      · rw [if_neg h2, if_neg h2]; exact hR.vr a ha
  · unfold upd
    have := hR.hi a ha
    split
    · exact b3
    · split
      · exact b1
      · grind
  · unfold upd
    have := hR.lo a ha
    split
    · exact b4
    · split
      · exact b2
      · grind
  · rw [ratSum_upd, if_pos hj, ratSum_upd, if_pos hi]
    have : upd v i x j = v j := if_neg (fun h => hij h.symm)
    rw [this]
    exact ⟨by grind, by grind⟩
theorem rateL_rv {n : Nat} {R : List Nat} {v : Nat → Rat} {gs : List (Int × Int × Int)} (hR : RV n 2 R v) (hg : ∀ g ∈ gs, okGame (n : Int) g = true) (hl : gs.length ≤ 8) :
    ∀ k, k ≤ gs.length → ∃ v', RV n (2 + 51 / 100 * (k : Rat)) (rateL R gs k) v' ∧ ratSum v' n ≤ ratSum v n + (k : Rat) / 100000 ∧ ratSum v n ≤ ratSum v' n + (k : Rat) / 100000 := by
  intro k
  induction k with
  | zero =>
    intro _
    have h0 : ((0 : Nat) : Rat) = 0 := rfl
    rw [h0]
    refine ⟨v, ⟨hR.len, hR.vr, fun i hi => by have := hR.hi i hi; grind, fun i hi => by have := hR.lo i hi; grind⟩, by grind, by grind⟩
  | succ k ih =>
    intro hk
    obtain ⟨v', h1, h2, h3⟩ := ih (by omega)
    have hk8 : (k : Rat) ≤ 8 := by
      have : k ≤ 8 := by omega
      exact_mod_cast this
    obtain ⟨_, v'', g1, g2, g3⟩ := rStep_rv h1 (hg _ (getD_mem (d := (0, 0, 0)) (k := k) (by omega))) (by grind)
    have hc : ((k + 1 : Nat) : Rat) = (k : Rat) + 1 := by grind
    rw [hc]
    refine ⟨v'', ⟨g1.len, g1.vr, fun i hi => by have := g1.hi i hi; grind, fun i hi => by have := g1.lo i hi; grind⟩, by grind, by grind⟩
theorem rateL_ops {n : Nat} {R : List Nat} {v : Nat → Rat} {gs : List (Int × Int × Int)} (hR : RV n 2 R v) (hg : ∀ g ∈ gs, okGame (n : Int) g = true) (hl : gs.length ≤ 8) (k : Nat) (hk : k < gs.length) :
    RateOps (rateL R gs k) (gs.getD k (0, 0, 0)).1.toNat (gs.getD k (0, 0, 0)).2.1.toNat (gs.getD k (0, 0, 0)).2.2 := by
  obtain ⟨v', h1, _, _⟩ := rateL_rv hR hg hl k (by omega)
  have hk8 : (k : Rat) ≤ 8 := by
    have : k ≤ 8 := by omega
    exact_mod_cast this
  exact (rStep_rv h1 (hg _ (getD_mem (d := (0, 0, 0)) hk)) (by grind)).1

open Go.RowKit

theorem mapF_one (xs : List Nat) : ∀ u ∈ xs.map (Value.float .f32), u.oneCell' = true := by
  intro u hu
  simp only [List.mem_map] at hu
  obtain ⟨x, _, rfl⟩ := hu
  rfl
theorem Floats.news {w : World} {ad : Addr} {n c : Nat} {xs : List Nat} (h : Floats w (some ad) n c xs) : ∀ j u, (xs.map (Value.float .f32))[j]? = some u → w.cell? (ad.add j) = some u := by
  intro j u hu
  obtain ⟨h1, h2, h3, h4⟩ := h
  have hj : j < n * 1 := by rw [← h1]; exact (List.getElem?_eq_some_iff.1 hu).1
  rcases h4 with h4 | ⟨b, off, ha, hlt, hc⟩
  · omega
  · cases ha
    have := hc j hj
    rw [hu] at this
    rw [← this]
    unfold Addr.add
    split
    · rename_i h0; subst h0; rfl
    · rfl
theorem Floats.some {w : World} {a : Option Addr} {n c : Nat} {xs : List Nat} (h : Floats w a n c xs) (hn : 0 < n) : ∃ ad, a = Option.some ad := by
  obtain ⟨_, _, _, h4⟩ := h
  rcases h4 with h4 | ⟨b, off, ha, _⟩
  · omega
  · exact ⟨_, ha⟩
theorem cloneF32_any (ad : Addr) (n c : Nat) (xs : List Nat) (w : World) (h : Floats w (some ad) n c xs) (hn : n ≤ 1048576) :
    Calls Try.prog 31 #[.slice (some ad) n c] w fun e w' => ∃ a' c', e = .returned (.slice a' n c') ∧ Below w.heap.size w w' ∧ w'.ownsRow w.heap.size 29 1 (.slice a' n c') n (xs.map (Value.float .f32)) := by
  obtain ⟨i0, hi, hz0, hz1, hz2⟩ := info_parts infoF32
  have qq := fun (w : World) (a : Option Addr) (n c n' c' : Nat) => Lib.run_eql_slice_nil (P := Try.prog) w 27 29 a n c n' c' Try.underlying27
  have hl := h.len
  have hN := h.news
  have hN' := Lib.hid hN
  have hL : Hid ((xs.map (Value.float .f32)).length = n * 1) := h.1
  clear h hN hl
  go_enter Try.func31, Try.ntmps31
  go_wp2_with (first | (at_builtin; go_must (refine wpList_append_own _ rfl _ _ 27 rfl w.heap.size 29 i0 (.float .f32 0) 1 4 Try.underlying27 hi hz0 hz1 hz2 rfl (by decide) _ _ _ rfl (World.ownsRow_made w #[] 0 (Nat.le_refl _) (Nat.zero_le _) (by simp)) ad n c (xs.map (Value.float .f32)) rfl hL.out (fun j u hu => cell_on ((Below.refl _ _).alloc (Nat.le_refl _) _) (hN'.out j u hu)) (mapF_one xs) (by unfold maxLen; omega) (by omega) (by simp) ?_; intro v' w1 hown1 hg1 _)))
  have M : (w.alloc (.cells #[] 29)).ownsRow w.heap.size 29 1 (.slice (some ⟨w.heap.size, 0, none⟩) 0 0) 0 [] := World.ownsRow_made w #[] 0 (Nat.le_refl _) (Nat.zero_le _) (by simp)
  have HB : Below w.heap.size w w1 := below_grown ((Below.refl w.heap.size w).alloc (Nat.le_refl _) _) (by simp) hg1 M
  have HO := hown1
  simp only [Nat.zero_add, List.nil_append] at HO
  obtain ⟨a', c', rfl⟩ := own_form HO
  clear hown1 hg1
  go_wp2
  go_ret
  exact ⟨a', c', rfl, HB, HO⟩

theorem floats_twoD (w : World) (x y : Nat) (T : TypeId) : Floats (w.alloc (.cells #[.float .f32 x, .float .f32 y] T)).drew (some ⟨w.heap.size, 0, none⟩) 2 2 [x, y] := floats_two w x y T
theorem half_fin : finB 1056964608 = true := by decide +kernel
/-- what RateGames returns: an own row -/
def RetF (w : World) (n : Nat) (xs : List Nat) (e : Ending) (w' : World) : Prop := ∃ g rc, e = .returned (.tuple #[.slice (some ⟨g, 0, none⟩) n rc, .bool true]) ∧ Below w.heap.size w w' ∧ w'.ownsRow w.heap.size 29 1 (.slice (some ⟨g, 0, none⟩) n rc) n (xs.map (Value.float .f32))

set_option maxHeartbeats 3200000 in
set_option maxRecDepth 100000 in
theorem implRateGames_ops (a0 : Option Addr) (n0 c0 : Nat) (R : List Nat) (v : Nat → Rat) (a : Option Addr) (n c : Nat) (gs : List (Int × Int × Int)) (w : World) (h0 : Floats w a0 n0 c0 R) (h : Trips w a n c gs) (hR : RV n0 2 R v) (hok : okGames (n0 : Int) gs = true) (hl8 : gs.length ≤ 8) :
    Calls Try.prog 7 #[.slice a0 n0 c0, .slice a n c, .float .f32 1073741824, .float .f32 1056964608] w (RetF w n0 (rateL R gs gs.length)) := by
  obtain ⟨⟨hp2, hp16⟩, _, hgo⟩ := okGames_all hok
  have HGo := Lib.hid hgo
  have C1 := Lib.hid (implAreGames_any (n0 : Int) a n c gs w h)
  rw [hok] at C1
  have hall : R.all finB = true := by
    rw [List.all_eq_true]
    intro x hx
    obtain ⟨i, hi, rfl⟩ := List.getElem_of_mem hx
    have hi' : i < n0 := by rw [← hR.len]; exact hi
    have g := hR.vr i hi'
    rw [List.getD_eq_getElem?_getD, List.getElem?_eq_getElem hi] at g
    exact vr_fin g (by have := hR.hi i hi'; unfold big; grind) (by have := hR.lo i hi'; unfold big; grind)
  have C2 := Lib.hid (fun W (hW : Below w.heap.size w W) => areFinite_any a0 n0 c0 R W (Row.mono h0 hW))
  rw [hall] at C2
  have C3 := Lib.hid (fun W => isScale_two W)
  have C4 := Lib.hid (fun W => IsFinite_any 1056964608 W)
  rw [half_fin] at C4
  have ho : Ieee.single.order 1056964608 0 = some .gt := by decide
  have hfm : FloatKind.f32.format = Ieee.single := rfl
  obtain ⟨ad, rfl⟩ := Floats.some h0 (by omega)
  have C5 := Lib.hid (fun W (hW : Below w.heap.size w W) => cloneF32_any ad n0 c0 R W (Row.mono h0 hW) (by omega))
  have hlg := h.len
  have HOps := Lib.hid (fun k (hk : k < n) => rateL_ops hR hgo hl8 k (by rw [hlg]; exact hk))
  have HLen := Lib.hid (fun k => (rateL_len R gs k).trans hR.len)
  obtain ⟨hc, hb, hcell⟩ := h.at
  have HCe := Lib.hid hcell
  have HLg := Lib.hid hlg
  have hn8 : n ≤ 8 := by omega
  clear h0 h hR hok hgo hcell hall hlg hl8
  have hst := st_f32 Try.prog
  go_enter Try.func7, Try.ntmps7
  go_wp2_with (fail)
  refine C1.out.mono ?_
  rintro e w1 ⟨rfl, hb1⟩
  have HB1 := Lib.hid hb1
  clear hb1 C1
  go_wp2_with (fail)
  refine (C2.out _ HB1.out).mono ?_
  rintro e w2 ⟨rfl, hb2⟩
  have HB2 := Lib.hid (below_step HB1.out HB1.out.size hb2)
  clear hb2 HB1 C2
  go_wp2_with (fail)
  refine (C3.out _).mono ?_
  rintro e w3 ⟨rfl, hb3⟩
  have HB3 := Lib.hid (below_step HB2.out HB2.out.size hb3)
  clear hb3 HB2 C3
  go_wp2_with (fail)
  refine (C4.out _).mono ?_
  rintro e w4 ⟨rfl, hb4⟩
  have HB4 := Lib.hid (below_step HB3.out HB3.out.size hb4)
  clear hb4 HB3 C4
  go_wp2_with (fail)
  refine (C5.out _ HB4.out).mono ?_
  rintro e w5 ⟨oa, oc, rfl, hb5, ho5⟩
  obtain ⟨g0, rfl⟩ := own_some ho5 (by omega)
  have HO5 := Lib.hid (ownsRow_low ho5 HB4.out.size)
  have HB5 := Lib.hid (below_step HB4.out HB4.out.size hb5)
  clear hb5 ho5 HB4 C5
  go_wp2_with (fail)
  go_loopw [44] (fun vi wr => ∃ k : Nat, k ≤ n ∧ vi = .int .i64 k ∧ wr.ownsRow w.heap.size 29 1 (.slice (some ⟨g0, 0, none⟩) n0 oc) n0 ((rateL R gs k).map (Value.float .f32)) ∧ Below w.heap.size w wr) (fun vi _ => n - (intOf vi).toNat)
  case atStart => exact ⟨0, by omega, rfl, HO5.out, HB5.out⟩
  case round =>
    obtain ⟨k, hk, rfl, ho, hb⟩ := hrel
    have HO := Lib.hid ho
    have HB := Lib.hid hb
    have hsz := hb.size
    clear ho hb HO5 HB5
    by_cases hlt : k < n
    · obtain ⟨b, off, rfl, hlb, hx⟩ := HCe.out k hlt
      obtain ⟨q0, q1, q2⟩ := hx k hlt
      obtain ⟨i, j, e1, e2, hip, hjp, hij, hr0, hr2⟩ := okGame_nat (HGo.out _ (getD_mem (d := (0, 0, 0)) (k := k) (by rw [HLg.out]; exact hlt)))
      have hops := HOps.out k hlt
      have HSt : Hid (rateL R gs (k + 1) = rStep (rateL R gs k) (gs.getD k (0, 0, 0))) := rfl
      have hlen := HLen.out k
      generalize gs.getD k (0, 0, 0) = gg at *
      obtain ⟨x0, x1, r⟩ := gg
      simp only at e1 e2 q0 q1 q2 hr0 hr2 hops
      subst e1 e2
      unfold rStep at HSt
      dsimp only at HSt
      rw [Int.toNat_natCast, Int.toNat_natCast] at HSt hops
      generalize rateL R gs k = L at *
      have z0 := cell_on HB.out q0
      have z1 := cell_on HB.out q1
      have z2 := cell_on HB.out q2
      have ki := HO.out.cellAt i (by omega)
      have kj := HO.out.cellAt j (by omega)
      rw [mapF_get _ _ (by omega)] at ki kj
      obtain ⟨hE, m1, s1, m2, ad1, sb1, fi, fj⟩ := hops
      have CE := Lib.hid (fun W => implExpectOf_ops hE W)
      have CF := Lib.hid (fun W T => areFinite_any _ _ _ [aS (L.getD i 0) (rD (L.getD i 0) (L.getD j 0) r), sS (L.getD j 0) (rD (L.getD i 0) (L.getD j 0) r)] _ (floats_twoD W (aS (L.getD i 0) (rD (L.getD i 0) (L.getD j 0) r)) (sS (L.getD j 0) (rD (L.getD i 0) (L.getD j 0) r)) T))
      rw [show [aS (L.getD i 0) (rD (L.getD i 0) (L.getD j 0) r), sS (L.getD j 0) (rD (L.getD i 0) (L.getD j 0) r)].all finB = true by rw [List.all_cons, List.all_cons, fi, fj]; rfl] at CF
      generalize hX : aS (L.getD i 0) (rD (L.getD i 0) (L.getD j 0) r) = X at *
      generalize hY : sS (L.getD j 0) (rD (L.getD i 0) (L.getD j 0) r) = Y at *
      generalize rD (L.getD i 0) (L.getD j 0) r = D at *
      generalize eW (L.getD i 0) (L.getD j 0) = E at *
      generalize hLi : L.getD i 0 = li at *
      generalize hLj : L.getD j 0 = lj at *
      unfold fHalf at m1 s1 m2
      generalize mS 1056964608 (fI r) = H at *
      generalize sS H E = S at *
      have hop1 : ∀ t W, (binOp .mul t (.float .f32 1056964608) (.float .f32 (floatOfInt .f32 r))).run Try.prog W = .ok (.float .f32 H) W := fun t W => run_float_arith W .mul t .f32 _ _ _ m1
      have hop2 : ∀ t W, (binOp .sub t (.float .f32 H) (.float .f32 E)).run Try.prog W = .ok (.float .f32 S) W := fun t W => run_float_arith W .sub t .f32 _ _ _ s1
      have hop3 : ∀ t W, (binOp .mul t (.float .f32 1056964608) (.float .f32 S)).run Try.prog W = .ok (.float .f32 D) W := fun t W => run_float_arith W .mul t .f32 _ _ _ m2
      have hop4 : ∀ t W, (binOp .add t (.float .f32 li) (.float .f32 D)).run Try.prog W = .ok (.float .f32 X) W := fun t W => run_float_arith W .add t .f32 _ _ _ ad1
      have hop5 : ∀ t W, (binOp .sub t (.float .f32 lj) (.float .f32 D)).run Try.prog W = .ok (.float .f32 Y) W := fun t W => run_float_arith W .sub t .f32 _ _ _ sb1
      clear m1 s1 m2 ad1 sb1 fi fj hE hx q0 q1 q2 hX hY HCe HGo HOps
      go_upto_region 7 with fail
      have HB0 : Hid (Below w.heap.size w (wr.alloc (.cells #[.int .i64 i, .int .i64 j, .int .i64 r] 55))) := HB.out.alloc hsz _
      have HO0 := Lib.hid (HO.out.alloc (.cells #[.int .i64 i, .int .i64 j, .int .i64 r] 55))
      have p0 : (wr.alloc (.cells #[.int .i64 i, .int .i64 j, .int .i64 r] 55)).cell? ⟨wr.heap.size, 0, none⟩ = some (.int .i64 i) := by go_simp
      have p1 : (wr.alloc (.cells #[.int .i64 i, .int .i64 j, .int .i64 r] 55)).cell? ⟨wr.heap.size, 1, none⟩ = some (.int .i64 j) := by go_simp
      have p2 : (wr.alloc (.cells #[.int .i64 i, .int .i64 j, .int .i64 r] 55)).cell? ⟨wr.heap.size, 2, none⟩ = some (.int .i64 r) := by go_simp
      have hVz : (wr.alloc (.cells #[.int .i64 i, .int .i64 j, .int .i64 r] 55)).heap.size = wr.heap.size + 1 := by simp
      have hg0 := HO.out.lt g0 rfl
      clear z0 z1 z2 ki kj HO HB
      generalize wr.alloc (.cells #[.int .i64 i, .int .i64 j, .int .i64 r] 55) = V at *
      generalize wr.heap.size = tb at *
      have ki := HO0.out.cellAt i (by omega)
      have kj := HO0.out.cellAt j (by omega)
      rw [mapF_get _ _ (by omega), hLi] at ki
      rw [mapF_get _ _ (by omega), hLj] at kj
      go_region_held3 (fun W => W.cell? ⟨tb, 0, none⟩ = some (.int .i64 i) ∧ W.cell? ⟨tb, 1, none⟩ = some (.int .i64 j) ∧ W.cell? ⟨g0, i, none⟩ = some (.float .f32 li) ∧ W.cell? ⟨g0, j, none⟩ = some (.float .f32 lj)) (first | exact ⟨p0, p1, ki, kj⟩ | exact ⟨y0, y1, y2, y3⟩ | go_keep)
        (first | (go_at_call 9; refine (CE.out _).mono ?_; rintro e w6 ⟨rfl, hb6⟩; have y0 := cell_on hb6 p0; have y1 := cell_on hb6 p1; have y2 := cell_on hb6 ki; have y3 := cell_on hb6 kj))
      have HO6 := Lib.hid (ownsRow_below (ownsRow_drewN HO0.out _) hb6)
      have hb6' : Below V.heap.size V w6 := ((Quiet.refl V).drewN _).b.trans (hb6.mono (Nat.le_refl _))
      have HB6 := Lib.hid (below_step HB0.out HB0.out.size hb6')
      have y4 := cell_on hb6' p2
      have hs6 := hb6'.size
      clear hb6 hb6' p0 p1 p2 ki kj HO0 HB0 CE
      have fr := fun q => HO6.out.frozenAt q
      go_upto_region 12 with (simp only [hop1, hop2, hop3, hop4])
      have h7 := HO6.out.stored i (.float .f32 X)
      rw [mapF_set] at h7
      have HO7 := Lib.hid h7.1
      have HB7 := Lib.hid (below_grown (v := .slice (some ⟨g0, 0, none⟩) n0 oc) HB6.out HB6.out.size h7.2 HO6.out)
      have z0 : (w6.setCell ⟨g0, i, none⟩ (.float .f32 X)).cell? ⟨tb, 0, none⟩ = some (.int .i64 i) := (World.cell?_setCell_other _ _ _ _ (by intro e; cases e; omega)).trans y0
      have z1 : (w6.setCell ⟨g0, i, none⟩ (.float .f32 X)).cell? ⟨tb, 1, none⟩ = some (.int .i64 j) := (World.cell?_setCell_other _ _ _ _ (by intro e; cases e; omega)).trans y1
      have hz7 : (w6.setCell ⟨g0, i, none⟩ (.float .f32 X)).heap.size = w6.heap.size := by simp
      clear h7 y0 y1 y2 y3 y4 fr HO6 HB6
      generalize w6.setCell ⟨g0, i, none⟩ (.float .f32 X) = w7 at *
      have kj := HO7.out.cellAt j (by omega)
      rw [mapF_get _ _ (by rw [List.length_set]; omega), getD_setR _ _ _ _ (by omega), if_neg (fun e => hij e.symm), hLj] at kj
      have fr := fun q => HO7.out.frozenAt q
      go_upto_region 13 with (simp only [hop5])
      have h8 := HO7.out.stored j (.float .f32 Y)
      rw [mapF_set] at h8
      have HO8 := Lib.hid h8.1
      have HB8 := Lib.hid (below_grown (v := .slice (some ⟨g0, 0, none⟩) n0 oc) HB7.out HB7.out.size h8.2 HO7.out)
      have p0 : (w7.setCell ⟨g0, j, none⟩ (.float .f32 Y)).cell? ⟨tb, 0, none⟩ = some (.int .i64 i) := (World.cell?_setCell_other _ _ _ _ (by intro e; cases e; omega)).trans z0
      have p1 : (w7.setCell ⟨g0, j, none⟩ (.float .f32 Y)).cell? ⟨tb, 1, none⟩ = some (.int .i64 j) := (World.cell?_setCell_other _ _ _ _ (by intro e; cases e; omega)).trans z1
      clear h8 z0 z1 kj fr HO7 HB7 hz7
      generalize w7.setCell ⟨g0, j, none⟩ (.float .f32 Y) = w8 at *
      have ki := HO8.out.cellAt i (by omega)
      have kj := HO8.out.cellAt j (by omega)
      rw [mapF_get _ _ (by rw [List.length_set, List.length_set]; omega), getD_setR _ _ _ _ (by rw [List.length_set]; omega), if_neg hij, getD_setR _ _ _ _ (by omega), if_pos rfl] at ki
      rw [mapF_get _ _ (by rw [List.length_set, List.length_set]; omega), getD_setR _ _ _ _ (by rw [List.length_set]; omega), if_pos rfl] at kj
      have HAl : Below w8.heap.size w8 (w8.alloc (.cells #[.float .f32 X, .float .f32 Y] 29)).drew := ((Below.refl _ _).alloc (Nat.le_refl _) _).drew
      have q0 := cell_on HAl p0
      have q1 := cell_on HAl p1
      have q2 := cell_on HAl ki
      have q3 := cell_on HAl kj
      go_region_held3 (fun W => W.cell? ⟨tb, 0, none⟩ = some (.int .i64 i) ∧ W.cell? ⟨tb, 1, none⟩ = some (.int .i64 j) ∧ W.cell? ⟨g0, i, none⟩ = some (.float .f32 X) ∧ W.cell? ⟨g0, j, none⟩ = some (.float .f32 Y)) (first | exact ⟨p0, p1, ki, kj⟩ | exact ⟨q0, q1, q2, q3⟩ | exact ⟨y0, y1, y2, y3⟩ | go_keep)
        (first | (go_at_call 28; refine (CF.out w8 29).mono ?_; rintro e w9 ⟨rfl, hb9⟩; have y0 := cell_on hb9 q0; have y1 := cell_on hb9 q1; have y2 := cell_on hb9 q2; have y3 := cell_on hb9 q3))
      have hb9' : Below w8.heap.size w8 w9 := HAl.trans (hb9.mono HAl.size)
      have HO9 := Lib.hid (ownsRow_below HO8.out hb9')
      have HB9 := Lib.hid (below_step HB8.out HB8.out.size hb9')
      clear hb9 hb9' HAl q0 q1 q2 q3 p0 p1 ki kj y0 y1 y2 y3 HO8 HB8 CF
      go_wp2
      go_roundw
      case rel => exact ⟨k + 1, by omega, by go_num, by rw [HSt.out]; exact HO9.out, HB9.out⟩
      case measure => simp [intOf]; omega
    · obtain rfl : n = k := by omega
      have HLn := HLg.out
      go_wp2
      go_ret2
      exact ⟨g0, oc, rfl, HB.out, by rw [HLn]; exact HO.out⟩

theorem rv_fin {n : Nat} {B : Rat} {R : List Nat} {v : Nat → Rat} (hR : RV n B R v) (hB : B ≤ 10) : R.all finB = true := by
  rw [List.all_eq_true]
  intro x hx
  obtain ⟨i, hi, rfl⟩ := List.getElem_of_mem hx
  have hi' : i < n := by rw [← hR.len]; exact hi
  have g := hR.vr i hi'
  rw [List.getD_eq_getElem?_getD, List.getElem?_eq_getElem hi] at g
  exact vr_fin g (by have := hR.hi i hi'; unfold big; grind) (by have := hR.lo i hi'; unfold big; grind)
theorem all_finR {n : Nat} {R : List Nat} {v : Nat → Rat} {gs : List (Int × Int × Int)} (hR : RV n 2 R v) (hg : ∀ g ∈ gs, okGame (n : Int) g = true) (hl : gs.length ≤ 8) : (rateL R gs gs.length).all finB = true := by
  obtain ⟨v', h1, _⟩ := rateL_rv hR hg hl gs.length (Nat.le_refl _)
  have hk8 : (gs.length : Rat) ≤ 8 := by exact_mod_cast hl
  exact rv_fin h1 (by grind)

set_option maxHeartbeats 3200000 in
set_option maxRecDepth 100000 in
theorem specRateGames_ops (a0 : Option Addr) (n0 c0 : Nat) (R : List Nat) (v : Nat → Rat) (a : Option Addr) (n c : Nat) (gs : List (Int × Int × Int)) (w : World) (h0 : Floats w a0 n0 c0 R) (h : Trips w a n c gs) (hR : RV n0 2 R v) (hok : okGames (n0 : Int) gs = true) (hl8 : gs.length ≤ 8) :
    Calls Try.prog 8 #[.slice a0 n0 c0, .slice a n c, .float .f32 1073741824, .float .f32 1056964608] w (RetF w n0 (rateL R gs gs.length)) := by
  obtain ⟨⟨hp2, hp16⟩, _, hgo⟩ := okGames_all hok
  have HGo := Lib.hid hgo
  have C1 := Lib.hid (l07Games_any (n0 : Int) a n c gs w h)
  rw [hok] at C1
  have hall : R.all finB = true := by
    rw [List.all_eq_true]
    intro x hx
    obtain ⟨i, hi, rfl⟩ := List.getElem_of_mem hx
    have hi' : i < n0 := by rw [← hR.len]; exact hi
    have g := hR.vr i hi'
    rw [List.getD_eq_getElem?_getD, List.getElem?_eq_getElem hi] at g
    exact vr_fin g (by have := hR.hi i hi'; unfold big; grind) (by have := hR.lo i hi'; unfold big; grind)
  have C2 := Lib.hid (fun W (hW : Below w.heap.size w W) => l02Finite_any a0 n0 c0 R W (Row.mono h0 hW))
  rw [hall] at C2
  have C3 := Lib.hid (fun W => l02Above_any 1073741824 W)
  rw [posB_two] at C3
  have C4 := Lib.hid (fun W => l01Finite_any 1056964608 W)
  rw [half_fin] at C4
  have ho : Ieee.single.order 1056964608 0 = some .gt := by decide
  have hfm : FloatKind.f32.format = Ieee.single := rfl
  obtain ⟨ad, rfl⟩ := Floats.some h0 (by omega)
  obtain ⟨i0, hii, hz0, hz1, hz2⟩ := info_parts infoF32
  have HNw := Lib.hid (fun W (hW : Below w.heap.size w W) => Floats.news (Row.mono h0 hW))
  have HRl : Hid ((R.map (Value.float .f32)).length = n0 * 1) := h0.1
  have HAllF := Lib.hid (all_finR hR hgo hl8)
  have hlg := h.len
  have HOps := Lib.hid (fun k (hk : k < n) => rateL_ops hR hgo hl8 k (by rw [hlg]; exact hk))
  have HLen := Lib.hid (fun k => (rateL_len R gs k).trans hR.len)
  obtain ⟨hc, hb, hcell⟩ := h.at
  have HCe := Lib.hid hcell
  have HLg := Lib.hid hlg
  have hn8 : n ≤ 8 := by omega
  clear h0 h hR hok hgo hcell hall hlg hl8
  have hst := st_f32 Try.prog
  go_enter Try.func8, Try.ntmps8
  go_wp2_with (fail)
  refine C1.out.mono ?_
  rintro e w1 ⟨rfl, hq1⟩
  have HB1 := Lib.hid hq1.b
  clear hq1 C1
  go_wp2_with (fail)
  refine (C2.out _ HB1.out).mono ?_
  rintro e w2 ⟨rfl, hb2⟩
  have HB2 := Lib.hid (below_step HB1.out HB1.out.size hb2)
  clear hb2 HB1 C2
  go_wp2_with (fail)
  refine (C3.out _).mono ?_
  rintro e w3 ⟨rfl, hb3⟩
  have HB3 := Lib.hid (below_step HB2.out HB2.out.size hb3)
  clear hb3 HB2 C3
  go_wp2_with (fail)
  refine (C4.out _).mono ?_
  rintro e w4 ⟨rfl, hb4⟩
  have HB4 := Lib.hid (below_step HB3.out HB3.out.size hb4)
  clear hb4 HB3 C4
  go_wp2_with (first | (at_builtin; go_must (refine wpList_append_own _ rfl _ _ 27 rfl w4.heap.size 29 i0 (.float .f32 0) 1 4 Try.underlying27 hii hz0 hz1 hz2 rfl (by decide) _ _ _ rfl (World.ownsRow_made w4 #[] 0 (Nat.le_refl _) (Nat.zero_le _) (by simp)) ad n0 c0 (R.map (Value.float .f32)) rfl HRl.out (fun j u hu => cell_on ((Below.refl _ _).alloc (Nat.le_refl _) _) (HNw.out _ HB4.out j u hu)) (mapF_one R) (by unfold maxLen; omega) (by omega) (by simp) ?_; intro v' w5 hown1 hg1 _)))
  have M : (w4.alloc (.cells #[] 29)).ownsRow w4.heap.size 29 1 (.slice (some ⟨w4.heap.size, 0, none⟩) 0 0) 0 [] := World.ownsRow_made w4 #[] 0 (Nat.le_refl _) (Nat.zero_le _) (by simp)
  have hb5 : Below w4.heap.size w4 w5 := below_grown ((Below.refl w4.heap.size w4).alloc (Nat.le_refl _) _) (by simp) hg1 M
  have ho5 := hown1
  simp only [Nat.zero_add, List.nil_append] at ho5
  obtain ⟨oa, oc, rfl⟩ := own_form ho5
  obtain ⟨g0, rfl⟩ := own_some ho5 (by omega)
  have HO5 := Lib.hid (ownsRow_low ho5 HB4.out.size)
  have HB5 := Lib.hid (below_step HB4.out HB4.out.size hb5)
  clear hb5 ho5 HB4 M hown1 hg1 HNw HRl
  go_wp2_with (fail)
  go_loopw [45] (fun vi wr => ∃ k : Nat, k ≤ n ∧ vi = .int .i64 k ∧ wr.ownsRow w.heap.size 29 1 (.slice (some ⟨g0, 0, none⟩) n0 oc) n0 ((rateL R gs k).map (Value.float .f32)) ∧ Below w.heap.size w wr) (fun vi _ => n - (intOf vi).toNat)
  case atStart => exact ⟨0, by omega, rfl, HO5.out, HB5.out⟩
  case round =>
    obtain ⟨k, hk, rfl, ho, hb⟩ := hrel
    have HO := Lib.hid ho
    have HB := Lib.hid hb
    have hsz := hb.size
    clear ho hb HO5 HB5
    by_cases hlt : k < n
    · obtain ⟨b, off, rfl, hlb, hx⟩ := HCe.out k hlt
      obtain ⟨q0, q1, q2⟩ := hx k hlt
      obtain ⟨i, j, e1, e2, hip, hjp, hij, hr0, hr2⟩ := okGame_nat (HGo.out _ (getD_mem (d := (0, 0, 0)) (k := k) (by rw [HLg.out]; exact hlt)))
      have hops := HOps.out k hlt
      have HSt : Hid (rateL R gs (k + 1) = rStep (rateL R gs k) (gs.getD k (0, 0, 0))) := rfl
      have hlen := HLen.out k
      generalize gs.getD k (0, 0, 0) = gg at *
      obtain ⟨x0, x1, r⟩ := gg
      simp only at e1 e2 q0 q1 q2 hr0 hr2 hops
      subst e1 e2
      unfold rStep at HSt
      dsimp only at HSt
      rw [Int.toNat_natCast, Int.toNat_natCast] at HSt hops
      generalize rateL R gs k = L at *
      have z0 := cell_on HB.out q0
      have z1 := cell_on HB.out q1
      have z2 := cell_on HB.out q2
      have ki := HO.out.cellAt i (by omega)
      have kj := HO.out.cellAt j (by omega)
      rw [mapF_get _ _ (by omega)] at ki kj
      obtain ⟨hE, m1, s1, m2, ad1, sb1, fi, fj⟩ := hops
      have CE := Lib.hid (fun W => specExpectOf_ops hE W)
      generalize hX : aS (L.getD i 0) (rD (L.getD i 0) (L.getD j 0) r) = X at *
      generalize hY : sS (L.getD j 0) (rD (L.getD i 0) (L.getD j 0) r) = Y at *
      generalize rD (L.getD i 0) (L.getD j 0) r = D at *
      generalize eW (L.getD i 0) (L.getD j 0) = E at *
      generalize hLi : L.getD i 0 = li at *
      generalize hLj : L.getD j 0 = lj at *
      unfold fHalf at m1 s1 m2
      generalize mS 1056964608 (fI r) = H at *
      generalize sS H E = S at *
      have hop1 : ∀ t W, (binOp .mul t (.float .f32 1056964608) (.float .f32 (floatOfInt .f32 r))).run Try.prog W = .ok (.float .f32 H) W := fun t W => run_float_arith W .mul t .f32 _ _ _ m1
      have hop2 : ∀ t W, (binOp .sub t (.float .f32 H) (.float .f32 E)).run Try.prog W = .ok (.float .f32 S) W := fun t W => run_float_arith W .sub t .f32 _ _ _ s1
      have hop3 : ∀ t W, (binOp .mul t (.float .f32 1056964608) (.float .f32 S)).run Try.prog W = .ok (.float .f32 D) W := fun t W => run_float_arith W .mul t .f32 _ _ _ m2
      have hop4 : ∀ t W, (binOp .add t (.float .f32 li) (.float .f32 D)).run Try.prog W = .ok (.float .f32 X) W := fun t W => run_float_arith W .add t .f32 _ _ _ ad1
      have hop5 : ∀ t W, (binOp .sub t (.float .f32 lj) (.float .f32 D)).run Try.prog W = .ok (.float .f32 Y) W := fun t W => run_float_arith W .sub t .f32 _ _ _ sb1
      clear m1 s1 m2 ad1 sb1 fi fj hE hx q0 q1 q2 hX hY HCe HGo HOps
      go_upto_region 8 with fail
      have hg0 := HO.out.lt g0 rfl
      go_region_held3 (fun W => W.cell? ⟨b, off + k * 3, none⟩ = some (.int .i64 i) ∧ W.cell? ⟨b, off + k * 3 + 1, none⟩ = some (.int .i64 j) ∧ W.cell? ⟨g0, i, none⟩ = some (.float .f32 li) ∧ W.cell? ⟨g0, j, none⟩ = some (.float .f32 lj)) (first | exact ⟨z0, z1, ki, kj⟩ | exact ⟨y0, y1, y2, y3⟩ | go_keep)
        (first | (go_at_call 25; refine (CE.out _).mono ?_; rintro e w6 ⟨rfl, hb6⟩; have y0 := cell_on hb6 z0; have y1 := cell_on hb6 z1; have y2 := cell_on hb6 ki; have y3 := cell_on hb6 kj))
      have hb6' : Below wr.heap.size wr w6 := ((Quiet.refl wr).drewN _).b.trans (hb6.mono (Nat.le_refl _))
      have HO6 := Lib.hid (ownsRow_below HO.out hb6')
      have HB6 := Lib.hid (below_step HB.out hsz hb6')
      have y4 := cell_on hb6' z2
      clear hb6 hb6' z0 z1 z2 ki kj HO HB CE
      have fr := fun q => HO6.out.frozenAt q
      go_upto_region 12 with (simp only [hop1, hop2, hop3])
      go_still_tail 15, (by kernel_rfl)
      change wpList _ _ _ _ _ w6.drew
      go_upto_region 13 with (simp only [hop4])
      have h7 := HO6.out.stored i (.float .f32 X)
      rw [mapF_set] at h7
      have HO7 : Hid ((w6.setCell ⟨g0, i, none⟩ (.float .f32 X)).drew.ownsRow w.heap.size 29 1 (.slice (some ⟨g0, 0, none⟩) n0 oc) n0 ((L.set i X).map (Value.float .f32))) := World.ownsRow.drew h7.1
      have HB7 : Hid (Below w.heap.size w (w6.setCell ⟨g0, i, none⟩ (.float .f32 X)).drew) := (below_grown (v := .slice (some ⟨g0, 0, none⟩) n0 oc) HB6.out HB6.out.size h7.2 HO6.out).drew
      have z0 : (w6.setCell ⟨g0, i, none⟩ (.float .f32 X)).drew.cell? ⟨b, off + k * 3, none⟩ = some (.int .i64 i) := (World.cell?_setCell_other _ _ _ _ (by intro e; cases e; omega)).trans y0
      have z1 : (w6.setCell ⟨g0, i, none⟩ (.float .f32 X)).drew.cell? ⟨b, off + k * 3 + 1, none⟩ = some (.int .i64 j) := (World.cell?_setCell_other _ _ _ _ (by intro e; cases e; omega)).trans y1
      clear h7 y0 y1 y2 y3 y4 fr HO6 HB6
      generalize (w6.setCell ⟨g0, i, none⟩ (.float .f32 X)).drew = w7 at *
      have kj := HO7.out.cellAt j (by omega)
      rw [mapF_get _ _ (by rw [List.length_set]; omega), getD_setR _ _ _ _ (by omega), if_neg (fun e => hij e.symm), hLj] at kj
      have fr := fun q => HO7.out.frozenAt q
      go_still_tail 15, (by kernel_rfl)
      change wpList _ _ _ _ _ w7.drew
      go_wp2_with (simp only [hop5])
      have h8 := HO7.out.stored j (.float .f32 Y)
      rw [mapF_set] at h8
      have HO8 : Hid ((w7.setCell ⟨g0, j, none⟩ (.float .f32 Y)).drew.ownsRow w.heap.size 29 1 (.slice (some ⟨g0, 0, none⟩) n0 oc) n0 (((L.set i X).set j Y).map (Value.float .f32))) := World.ownsRow.drew h8.1
      have HB8 : Hid (Below w.heap.size w (w7.setCell ⟨g0, j, none⟩ (.float .f32 Y)).drew) := (below_grown (v := .slice (some ⟨g0, 0, none⟩) n0 oc) HB7.out HB7.out.size h8.2 HO7.out).drew
      clear h8 z0 z1 kj fr HO7 HB7
      go_roundw
      case rel => exact ⟨k + 1, by omega, by go_num, by rw [HSt.out]; exact HO8.out, HB8.out⟩
      case measure => simp [intOf]; omega
    · obtain rfl : n = k := by omega
      have HLn := HLg.out
      have C9 := Lib.hid (l02Finite_any _ _ _ _ wr (Rd.own HO.out))
      have hF := HAllF.out
      rw [HLn] at hF
      rw [hF] at C9
      clear hF HAllF
      go_wp2_with (fail)
      refine C9.out.mono ?_
      rintro e w9 ⟨rfl, hb9⟩
      have HO9 := Lib.hid (ownsRow_below HO.out hb9)
      have HB9 := Lib.hid (below_step HB.out HB.out.size hb9)
      clear hb9 HO HB
      go_wp2
      go_ret2
      exact ⟨g0, oc, rfl, HB9.out, by rw [HLn]; exact HO9.out⟩

theorem areWorkers_yes (x : Int) (w : World) (h1 : 1 ≤ x) (h2 : x ≤ 8) : Calls Try.prog 38 #[.int .i64 x] w (RetS w (.bool true)) := by
  have C := Lib.hid (within_any x 1 8 w)
  rw [(inB_iff x 1 8).2 ⟨h1, h2⟩] at C
  go_enter Try.func38, Try.ntmps38
  go_wp2_with (fail)
  refine C.out.mono ?_
  rintro e w1 ⟨rfl, rfl⟩
  go_wp2
  go_ret
  exact ⟨rfl, rfl⟩

set_option maxHeartbeats 3200000 in
set_option maxRecDepth 100000 in
theorem implRateShared_ops (a0 : Option Addr) (n0 c0 : Nat) (R : List Nat) (v : Nat → Rat) (a : Option Addr) (n c : Nat) (gs : List (Int × Int × Int)) (bm om cm : Nat) (wk : Int) (w : World) (h0 : Floats w a0 n0 c0 R) (h : Trips w a n c gs) (hR : RV n0 2 R v) (hok : okGames (n0 : Int) gs = true) (hl8 : gs.length ≤ 8)
    (hm0 : w.cell? ⟨bm, om, none⟩ = some (.slice a n c)) (hm1 : w.cell? ⟨bm, om + 1, none⟩ = some (.slice a n c)) (hcm : 2 ≤ cm) (hk1 : 1 ≤ wk) (hk2 : wk ≤ 8) :
    Calls Try.prog 10 #[.slice a0 n0 c0, .slice (some ⟨bm, om, none⟩) 2 cm, .float .f32 1073741824, .float .f32 1056964608, .int .i64 wk] w (RetF w 2 [(rateL R gs gs.length).getD 0 0, (rateL R gs gs.length).getD 0 0]) := by
  have hlen : (rateL R gs gs.length).length = n0 := (rateL_len _ _ _).trans hR.len
  obtain ⟨⟨hp2, hp16⟩, _⟩ := okGames_all hok
  have CW := Lib.hid (fun W => areWorkers_yes wk W hk1 hk2)
  have CR := Lib.hid (fun W (hW : Below w.heap.size w W) => implRateGames_ops a0 n0 c0 R v a n c gs W (Row.mono h0 hW) (Trips.mono h hW) hR hok hl8)
  clear h0 h hR hok hl8
  generalize rateL R gs gs.length = L at *
  generalize hx : L.getD 0 0 = x at *
  have HX := Lib.hid hx
  clear hx
  obtain ⟨i0, hii, hz0, hz1, hz2⟩ := info_parts infoF32
  have M : (w.alloc (.cells #[] 29)).ownsRow w.heap.size 29 1 (.slice (some ⟨w.heap.size, 0, none⟩) 0 0) 0 (([] : List Nat).map (Value.float .f32)) := World.ownsRow_made w #[] 0 (Nat.le_refl _) (Nat.zero_le _) (by simp)
  have HM := Lib.hid M
  have HB0 : Hid (Below w.heap.size w (w.alloc (.cells #[] 29))) := (Below.refl _ _).alloc (Nat.le_refl _) _
  clear M
  go_enter Try.func10, Try.ntmps10
  go_wp2_with (fail)
  refine (CW.out _).mono ?_
  rintro e w1 ⟨rfl, rfl⟩
  go_wp2_with (fail)
  generalize w.alloc (.cells #[] 29) = w2 at *
  go_loopw [12, 28] (fun vo vi wr => ∃ (k g cc : Nat), k ≤ 2 ∧ vi = .int .i64 k ∧ vo = .slice (some ⟨g, 0, none⟩) k cc ∧ wr.ownsRow w.heap.size 29 1 (.slice (some ⟨g, 0, none⟩) k cc) k ((List.replicate k x).map (Value.float .f32)) ∧ Below w.heap.size w wr) (fun _ vi _ => 2 - (intOf vi).toNat)
  case atStart => exact ⟨0, w.heap.size, 0, by omega, rfl, rfl, HM.out, HB0.out⟩
  case round =>
    obtain ⟨k, g, cc, hk, rfl, rfl, ho, hb⟩ := hrel
    have HO := Lib.hid ho
    have HB := Lib.hid hb
    have hsz := hb.size
    clear ho hb HM HB0
    by_cases hlt : k < 2
    · have z : wr.cell? ⟨bm, om + k, none⟩ = some (.slice a n c) := by
        have hk2 : k = 0 ∨ k = 1 := by omega
        rcases hk2 with rfl | rfl
        · exact cell_on HB.out hm0
        · exact cell_on HB.out hm1
      go_wp2_with (fail)
      refine (CR.out _ HB.out).mono ?_
      rintro e w3 ⟨rg, rc, rfl, hb3, ho3⟩
      have q := ho3.cellAt 0 (by omega)
      rw [mapF_get _ _ (by omega), HX.out] at q
      have HO3 := Lib.hid (ownsRow_below HO.out hb3)
      have HB3 := Lib.hid (below_step HB.out hsz hb3)
      have hs3 := HB3.out.size
      have HRp : Hid ((List.replicate (k + 1) x).map (Value.float .f32) = (List.replicate k x).map (Value.float .f32) ++ [.float .f32 x]) := by
        show _ = _
        rw [List.replicate_succ', List.map_append]
        rfl
      have hn0 : 0 < n0 := by omega
      clear hb3 ho3 z HO HB
      go_wp2_with (first | (at_builtin; go_must (refine wpList_append_lies _ rfl _ _ 27 rfl w.heap.size 29 i0 _ 1 4 Try.underlying27 hii hz0 hz1 hz2 rfl (by omega) (.slice (some ⟨g, 0, none⟩) k cc) k ((List.replicate k x).map (Value.float .f32)) rfl (HO3.out.alloc _) ⟨_, 0, none⟩ 1 1 [.float .f32 x] rfl rfl (new1 _ _ _) (one1 rfl) (by omega) (by unfold maxLen; omega) (by omega) (by simp; omega) _ rfl ?_); intro gg cap w5 hown1 hg1 hat hlt5; have HBn := Lib.hid (below_app HB3.out hs3 hg1 HO3.out); have HOn : Hid (w5.ownsRow w.heap.size 29 1 (.slice (some ⟨gg, 0, none⟩) (k + 1) cap) (k + 1) ((List.replicate (k + 1) x).map (Value.float .f32))) := (by show w5.ownsRow _ _ _ _ _ _; rw [HRp.out]; exact hown1); clear hown1 hg1 hat))
      go_roundw
      case rel => exact ⟨k + 1, gg, cap, by omega, by go_num, rfl, HOn.out, HBn.out⟩
      case measure => simp [intOf]; omega
    · obtain rfl : k = 2 := by omega
      go_wp2
      go_ret2
      exact ⟨g, cc, rfl, HB.out, HO.out⟩

end Go.Proofs.Ytcflgmjjomiejaa
