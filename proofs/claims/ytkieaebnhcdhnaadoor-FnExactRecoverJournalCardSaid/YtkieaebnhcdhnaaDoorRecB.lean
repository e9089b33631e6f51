/- RecoverJournal: the reference's. -/
import Derived.Test.YtkieaebnhcdhnaaDoorRecA
import Derived.Test.YtkieaebnhcdhnaaDoorOutA
import Derived.Deep.RegionHeld3
namespace Go.Proofs.YtkieaebnhcdhnaaDoor
open Go.RowKit
set_option linter.unusedVariables false

theorem cutR_len (m : UInt8) : ∀ (l : List UInt8), ∀ x ∈ cutR m l, x.length ≤ l.length := by
  intro l
  induction l with
  | nil => intro x hx; simp [cutR] at hx; subst hx; simp
  | cons b l ih =>
    intro x hx
    by_cases hb : b = m
    · subst hb
      rw [cutR_eq] at hx
      rcases List.mem_cons.1 hx with rfl | hx
      · simp
      · have := ih x hx; simp; omega
    · obtain ⟨p, ps, e⟩ := cutR_ne m l
      rw [cutR_other l hb, e] at hx
      rw [e] at ih
      rcases List.mem_cons.1 hx with rfl | hx
      · have := ih p List.mem_cons_self; simp; omega
      · have := ih x (List.mem_cons_of_mem _ hx); simp; omega
theorem cutB_toList (m : UInt8) (s : ByteArray) : (cutB m s).map (fun x => x.data.toList) = cutR m s.data.toList := by
  unfold cutB
  rw [List.map_map, cutL_R]
  conv => rhs; rw [← List.map_id (cutR m s.data.toList)]
  exact List.map_congr_left fun x _ => ofL_toList x
theorem cutB_size {m : UInt8} {s : ByteArray} {k : Nat} (h : k < (cutB m s).length) : ((cutB m s).getD k ByteArray.empty).size ≤ s.size := by
  have e : (cutB m s).getD k ByteArray.empty = (cutB m s)[k] := by simp [h]
  rw [e]
  have h1 : (cutB m s)[k].data.toList ∈ cutR m s.data.toList := by
    rw [← cutB_toList]
    exact List.mem_map.2 ⟨_, List.getElem_mem h, rfl⟩
  exact cutR_len m _ _ h1
/-- the lines from the i-th on -/
def linesFrom (P : List ByteArray) (n i : Nat) : List (List UInt8) := ((P.take n).map (fun x => x.data.toList)).drop i
theorem linesFrom_succ {P : List ByteArray} {n i : Nat} (hP : P.length = n + 1) (h : i < n) : linesFrom P n i = (P.getD i ByteArray.empty).data.toList :: linesFrom P n (i + 1) := by
  unfold linesFrom
  have hl : i < ((P.take n).map (fun x => x.data.toList)).length := by rw [List.length_map, List.length_take]; omega
  rw [List.drop_eq_getElem_cons hl]
  congr 1
  simp [show i < P.length by omega]
theorem linesFrom_end {P : List ByteArray} {n : Nat} (hP : P.length = n + 1) : linesFrom P n n = [] := by
  unfold linesFrom
  exact List.drop_eq_nil_of_le (by rw [List.length_map, List.length_take]; omega)
theorem linesFrom_zero {s : ByteArray} {n : Nat} (hP : (cutB 10 s).length = n + 1) : linesFrom (cutB 10 s) n 0 = (cutR 10 s.data.toList).dropLast := by
  unfold linesFrom
  rw [List.drop_zero, ← cutB_toList, List.dropLast_eq_take, List.length_map, hP, List.map_take]
  rfl

/-- where a loop stands: what is recovered already, and what is left -/
structure RecAt (T : List (List UInt8)) (D : List ByteArray) (k : Nat) (c : Int) (R : List (List UInt8)) : Prop where
  d : (recS 0 T).1 = D.map (fun x => x.data.toList) ++ (recS c R).1
  k : (recS 0 T).2 = k + (recS c R).2
  c : 0 ≤ c ∧ c ≤ 65002
theorem RecAt.start (T : List (List UInt8)) : RecAt T [] 0 0 T := ⟨by simp, by simp, by omega⟩
theorem RecAt.yes {T R : List (List UInt8)} {D : List ByteArray} {k : Nat} {c : Int} {l : List UInt8} (h : RecAt T D k c (l :: R)) (hl : lineOk c l = true) (b : ByteArray) (hb : b.data.toList = (Lib.cut l [32]).2.1) : RecAt T (D ++ [b]) (k + (l.length + 1)) (lineC c l) R := by
  obtain ⟨h1, h2, h3⟩ := h
  rw [recS_yes hl] at h1 h2
  refine ⟨?_, ?_, chkL_bd _ _ h3⟩
  · rw [h1, List.map_append, List.map_cons, List.map_nil, hb]; simp
  · rw [h2]; dsimp only; omega
theorem RecAt.done {T R : List (List UInt8)} {D : List ByteArray} {k : Nat} {c : Int} (h : RecAt T D k c R) (hR : recS c R = ([], 0)) : (recS 0 T).1.map ofL = D ∧ (recS 0 T).2 = k := by
  obtain ⟨h1, h2, h3⟩ := h
  rw [hR] at h1 h2
  refine ⟨?_, by simpa using h2⟩
  rw [h1]
  simp only [List.append_nil, List.map_map]
  conv => rhs; rw [← List.map_id D]
  exact List.map_congr_left fun x _ => ofL_data x

set_option maxHeartbeats 3200000 in
set_option maxRecDepth 100000 in
theorem l08Recover_any (s : ByteArray) (n : Nat) (w : World) (hs : s.size ≤ 16000) (hn : (cutB 10 s).length = n + 1) : Calls Tryd.prog 21 #[.string s] w fun e w' => ∃ (g c : Nat) (D : List ByteArray) (k : Nat), e = .returned (.tuple #[.slice (some ⟨g, 0, none⟩) D.length c, .int .i64 k]) ∧ Below w.heap.size w w' ∧ w'.ownsRow w.heap.size 9 1 (.slice (some ⟨g, 0, none⟩) D.length c) D.length (D.map Value.string) ∧ (recS 0 (linesFrom (cutB 10 s) n 0)).1.map ofL = D ∧ (recS 0 (linesFrom (cutB 10 s) n 0)).2 = k := by
  have C := Lib.hid (l08Lines_any s n w (by omega) hn)
  obtain ⟨i0, hi, hz0, hz1, hz2⟩ := info_parts infoStr
  have hle := cutB_le 10 s
  have HSz := Lib.hid (fun k (hk : k < n) => cutB_size (m := 10) (s := s) (k := k) (by rw [hn]; omega))
  generalize cutB 10 s = P at *
  have HF := Lib.hid (fun i (hi : i < n) => linesFrom_succ hn hi)
  have HFe := Lib.hid (linesFrom_end hn)
  have HFz : Hid (linesFrom P n n = []) := HFe
  have hn2 : n ≤ 16000 := by omega
  have HT : Hid (RecAt (linesFrom P n 0) [] 0 0 (linesFrom P n 0)) := RecAt.start _
  generalize hT : linesFrom P n 0 = T at *
  have HTe := Lib.hid hT
  clear hn hle hT
  go_enter Tryd.func21, Tryd.ntmps21
  go_wp2_with (fail)
  refine C.out.mono ?_
  rintro e w1 ⟨g, c, rfl, hb, hS⟩
  obtain ⟨hc, hc2, hat⟩ := Row.at ByteArray.empty hS
  have HAt : Hid (∀ k, k < n → w1.cell? ⟨g, k, none⟩ = some (.string (P.getD k ByteArray.empty))) := fun k hk => by
    obtain ⟨b, off, e, hlb, hx⟩ := hat k (by omega)
    simp only [Option.some.injEq, Addr.mk.injEq] at e
    obtain ⟨rfl, rfl, _⟩ := e
    have := hx k (by omega)
    rw [Nat.zero_add] at this
    exact this
  have HB1 := Lib.hid hb
  have hs1 := hb.size
  have hnc : n ≤ c := by omega
  clear hb hS hat C
  go_wp2
  go_loopw [6, 7, 8, 9, 10, 11] (fun vo vc vk vi _ _ wr => ∃ (i go co k : Nat) (ck : Int) (D : List ByteArray), i ≤ n ∧ k ≤ i * 16001 ∧ D.length ≤ i ∧ vi = .int .i64 i ∧ vk = .int .i64 k ∧ vc = .int .i64 ck ∧ vo = .slice (some ⟨go, 0, none⟩) D.length co ∧ RecAt T D k ck (linesFrom P n i) ∧ Below w1.heap.size w1 wr ∧ wr.ownsRow w1.heap.size 9 1 (.slice (some ⟨go, 0, none⟩) D.length co) D.length (D.map Value.string)) (fun _ _ _ vi _ _ _ => n - (intOf vi).toNat)
  case atStart => exact ⟨0, w1.heap.size, 0, 0, 0, [], by omega, by omega, by simp, rfl, rfl, rfl, rfl, by rw [HTe.out]; exact HT.out, (Below.refl _ _).alloc (Nat.le_refl _) _, World.ownsRow_made (e := 9) (size := 1) (base := w1.heap.size) w1 #[] 0 (Nat.le_refl _) (Nat.zero_le _) (by simp)⟩
  case round =>
    obtain ⟨i, go, co, k, ck, D, hin, hk, hDl, rfl, rfl, rfl, rfl, hR, hb1, ho⟩ := hrel
    have HR := Lib.hid hR
    have HO := Lib.hid ho
    have hbw := HB1.out.trans (hb1.mono hs1)
    have HBw := Lib.hid hbw
    have HB := Lib.hid hb1
    have hsw := hbw.size
    have hsr := hb1.size
    have hck := hR.c
    clear hR ho hbw hb1 HT
    by_cases hlt : i < n
    · have z0 := cell_on HB.out (HAt.out i hlt)
      have hxs := HSz.out i hlt
      have HFi := Lib.hid (HF.out i hlt)
      generalize hX : P.getD i ByteArray.empty = x at *
      have HX := Lib.hid hX
      clear hX
      rw [HFi.out] at HR
      clear HFi
      generalize hRe : linesFrom P n (i + 1) = R at *
      have HRe := Lib.hid hRe
      clear hRe
      have hxn : x.size ≤ 16000 := by omega
      go_wp2
      go_loopw [10] (fun vj wx => ∃ j : Nat, j ≤ x.size ∧ vj = .int .i64 j ∧ Hid (∀ i, i < j → x.data.toList[i]? ≠ some 32) ∧ wx = wr) (fun vj _ => x.size - (intOf vj).toNat)
      case atStart => exact ⟨0, by omega, rfl, fun i hi => absurd hi (Nat.not_lt_zero _), rfl⟩
      case round =>
        obtain ⟨j, hj, rfl, Hno, rfl⟩ := hrel
        by_cases hjl : j < x.size
        · have hgj : x.data.toList[j]? = some x[j] := List.getElem?_eq_getElem (show j < x.data.toList.length from hjl)
          by_cases h32 : x[j] = 32
          · have hcut := cut_at Hno.out (by rw [hgj, h32])
            have e1 : ((x[j].toNat : Int) == 32) = true := by rw [h32]; rfl
            have e1' : ((x[j].toNat : Int) != 32) = false := by rw [h32]; rfl
            have hxd : (x.extract (j + 1) x.size).data.toList = x.data.toList.drop (j + 1) := by
              rw [ext_data, List.take_of_length_le (show x.data.toList.length ≤ x.size from Nat.le_refl _)]
            have CC := l01Check_any ck (x.extract (j + 1) x.size) wr hck (by rw [ByteArray.size_extract]; omega)
            rw [hxd] at CC
            have hlc : lineC ck x.data.toList = chkL ck (x.data.toList.drop (j + 1)) := by unfold lineC; rw [hcut]
            rw [← hlc] at CC
            have hlo : lineOk ck x.data.toList = decide (x.data.toList.take j = Lib.decDigits (lineC ck x.data.toList).toNat) := by unfold lineOk; rw [hlc, hcut]; rfl
            have hbd := chkL_bd (x.data.toList.drop (j + 1)) ck hck
            rw [← hlc] at hbd
            have hYes := fun h => HR.out.yes h (x.extract (j + 1) x.size) (by rw [hxd, hcut])
            have hNo := fun (h : lineOk ck x.data.toList = false) => HR.out.done (recS_no h)
            generalize hcc : lineC ck x.data.toList = cc at *
            obtain ⟨cn, rfl⟩ : ∃ cn : Nat, cc = cn := ⟨cc.toNat, by omega⟩
            have CD := Lib.hid (fun W => l01Dec_any cn W (by omega))
            have hE : ((x.extract 0 j).toList == (decB cn).toList) = lineOk ck x.data.toList := by
              rw [strEq, hlo]
              refine decide_eq_decide.2 ⟨fun q => ?_, fun q => ?_⟩
              · have : (x.extract 0 j).data.toList = (decB cn).data.toList := by rw [q]
                rw [ext_data] at this
                simpa [decB, ofL] using this
              · rw [← ofL_data (x.extract 0 j), ext_data]
                show ofL (x.data.toList.take j) = ofL (Lib.decDigits cn)
                rw [q]
                rfl
            have CC := Lib.hid CC
            have HE := Lib.hid hE
            have HYes := Lib.hid hYes
            have HNo := Lib.hid hNo
            have hw1 : IntKind.i64.wrap ((j : Int) + 1) = ((j + 1 : Nat) : Int) := by rw [IntWalk.i64_in _ (by omega)]; omega
            clear hcut hxd hlc hlo hYes hNo hE hgj h32 hcc
            go_wp2_with (fail)
            refine CC.out.mono ?_
            rintro e w2 ⟨rfl, rfl⟩
            clear CC
            rcases Bool.eq_false_or_eq_true (lineOk ck x.data.toList) with e2 | e2
            · have HA := Lib.hid (HYes.out e2)
              rw [e2] at HE
              have e3 := HE.out
              go_wp2
              go_region_held3 (fun W => W.cell? ⟨g, i, none⟩ = some (.string x)) (first | exact z0 | go_keep)
                (first
                  | (go_at_call 25; refine (CD.out _).mono ?_; rintro e w3 ⟨rfl, hb3⟩; have z0 := cell_on hb3 z0))
              have hb3' : Below wr.heap.size wr w3 := (Below.refl _ _).drew.trans hb3
              have HB3 := Lib.hid (HB.out.trans (hb3'.mono hsr))
              have HBw3 := Lib.hid (HBw.out.trans (hb3'.mono hsw))
              have hsw3 := HB3.out.size
              have HO3 := Lib.hid (ownsRow_below HO.out hb3')
              have hwk : IntKind.i64.wrap ((x.size : Int) + 1) = ((x.size + 1 : Nat) : Int) := by rw [IntWalk.i64_in _ (by omega)]; omega
              have hwk2 : IntKind.i64.wrap ((k : Int) + ((x.size + 1 : Nat) : Int)) = ((k + (x.size + 1) : Nat) : Int) := by rw [IntWalk.i64_in _ (by omega)]; omega
              clear hb3 hb3' CD HYes HNo HE e3 e2
              go_wp2_with (first | (at_builtin; go_must (refine wpList_append_lies _ rfl _ _ 22 rfl w1.heap.size 9 i0 _ 1 16 Tryd.underlying22 hi hz0 hz1 hz2 rfl (by omega) (.slice (some ⟨go, 0, none⟩) D.length co) D.length (D.map Value.string) rfl (HO3.out.alloc _) ⟨w3.heap.size, 0, none⟩ 1 1 [.string (x.extract (j + 1) x.size)] rfl rfl (new1 _ _ _) (one1 rfl) (by omega) (by unfold maxLen; omega) (by omega) (by simp; omega) (w3.heap.size + 1) (by simp) ?_); intro gg cap w5 hown1 hg1 hat hlt5; have HBn := Lib.hid (below_app HB3.out hsw3 hg1 HO3.out); have z0 := cell_on HBn.out (HAt.out i hlt); rw [HX.out] at z0; have HOn : Hid (w5.ownsRow w1.heap.size 9 1 (.slice (some ⟨gg, 0, none⟩) (D ++ [x.extract (j + 1) x.size]).length cap) (D ++ [x.extract (j + 1) x.size]).length ((D ++ [x.extract (j + 1) x.size]).map Value.string)) := (by show w5.ownsRow _ _ _ _ _ _; rw [List.length_append, List.map_append]; exact hown1); clear hown1 hg1 hat))
              go_roundw
              case rel => exact ⟨i + 1, gg, cap, k + (x.size + 1), cn, D ++ [x.extract (j + 1) x.size], by omega, by omega, by simp; omega, by go_num, by go_num, rfl, by simp, by rw [HRe.out]; exact HA.out, HBn.out, HOn.out⟩
              case measure => simp [intOf]; omega
            · obtain ⟨h1, h2⟩ := HNo.out e2
              have H1 := Lib.hid h1
              have H2 := Lib.hid h2
              rw [e2] at HE
              have e3 := HE.out
              clear h1 h2
              go_wp2
              go_region_held3 (fun W => W.cell? ⟨g, i, none⟩ = some (.string x)) (first | exact z0 | go_keep)
                (first
                  | (go_at_call 25; refine (CD.out _).mono ?_; rintro e w3 ⟨rfl, hb3⟩; have z0 := cell_on hb3 z0))
              have hb3' : Below wr.heap.size wr w3 := (Below.refl _ _).drew.trans hb3
              have HBw3 := Lib.hid (HBw.out.trans (hb3'.mono hsw))
              have HO3 := Lib.hid (ownsRow_below HO.out hb3')
              clear hb3 hb3'
              go_wp2
              go_ret2
              exact ⟨go, co, D, k, rfl, HBw3.out, ownsRow_low HO3.out hs1, H1.out, H2.out⟩
          · have e1 : ((x[j].toNat : Int) == 32) = false := by
              simp
              intro q
              exact h32 (UInt8.toNat_inj.1 (by have : (32 : UInt8).toNat = 32 := rfl; omega))
            have e1' : ((x[j].toNat : Int) != 32) = true := by
              simp
              intro q
              exact h32 (UInt8.toNat_inj.1 (by have : (32 : UInt8).toNat = 32 := rfl; omega))
            have Hno' : Hid (∀ i, i < j + 1 → x.data.toList[i]? ≠ some 32) := fun i hi => by
              by_cases q : i = j
              · subst q; rw [hgj]; simpa using h32
              · exact Hno.out i (by omega)
            clear hgj h32
            go_wp2
            go_roundw
            case rel => exact ⟨j + 1, by omega, by go_num, Hno', by first | rfl | trivial⟩
            case measure => simp [intOf]; omega
        · obtain rfl : j = x.size := by omega
          have hcut := cut_none (m := 32) (l := x.data.toList) Hno.out
          have hlo : lineOk ck x.data.toList = false := by unfold lineOk; rw [hcut]; rfl
          obtain ⟨h1, h2⟩ := HR.out.done (recS_no hlo)
          have H1 := Lib.hid h1
          have H2 := Lib.hid h2
          clear h1 h2 hcut hlo
          go_wp2
          go_ret2
          exact ⟨go, co, D, k, rfl, HBw.out, ownsRow_low HO.out hs1, H1.out, H2.out⟩
    · obtain rfl : i = n := by omega
      obtain ⟨h1, h2⟩ := HR.out.done (by rw [HFe.out]; rfl)
      have H1 := Lib.hid h1
      have H2 := Lib.hid h2
      clear h1 h2
      go_wp2
      go_ret2
      exact ⟨go, co, D, k, rfl, HBw.out, ownsRow_low HO.out hs1, H1.out, H2.out⟩

end Go.Proofs.YtkieaebnhcdhnaaDoor
