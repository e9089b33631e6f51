/- slices.IndexFunc and ContainsFunc over Game. -/
import Derived.Test.YtcflgmjjomiejaaViews
import Derived.Test.YtcflgmjjomiejaaProg
namespace Go.Proofs.Ytcflgmjjomiejaa
open Go.RowKit

theorem indexFuncGame_any (pr : Int × Int × Int → Bool) (G : Nat) (cap : Array Value) (eg : ∀ args W, (callFunc G args).run Try.prog W = .ok (.enter G args) W) (a : Option Addr) (n c : Nat) (xs : List (Int × Int × Int)) (w : World) (h : Trips w a n c xs)
    (hf : ∀ W, Below w.heap.size w W → ∀ x, x ∈ xs → Calls Try.prog G (#[.agg #[.int .i64 x.1, .int .i64 x.2.1, .int .i64 x.2.2]] ++ cap) W (Ret W (.bool (pr x)))) :
    Calls Try.prog 62 #[.slice a n c, .func (.func G) #[] cap] w (Ret w (.int .i64 (firstIdx pr xs))) := by
  obtain ⟨hc, hb, hcell⟩ := h.at
  have hl := h.len
  clear h
  have hH := Lib.hid hl
  clear hl
  have hF := Lib.hid hf
  clear hf
  go_enter Try.func62, Try.ntmps62
  go_wp2
  go_loopw [8] (fun i wr => ∃ k : Nat, k ≤ n ∧ i = .int .i64 k ∧ NoneTo pr (0, 0, 0) xs k ∧ Below w.heap.size w wr) (fun i _ => n - (intOf i).toNat)
  case atStart => exact ⟨0, by omega, rfl, fun j hj => by omega, Below.refl _ _⟩
  case round =>
    obtain ⟨k, hk, rfl, hto, hbel⟩ := hrel
    have HT := Lib.hid hto
    clear hto
    by_cases hlt : k < n
    · obtain ⟨b, off, rfl, hlb, hx⟩ := hcell k hlt
      obtain ⟨h0', h1', h2'⟩ := hx k hlt
      have h0 := cell_on (hbel.mono (Nat.le_refl _)) h0'
      have h1 := cell_on (hbel.mono (Nat.le_refl _)) h1'
      have h2 := cell_on (hbel.mono (Nat.le_refl _)) h2'
      have HB := Lib.hid hbel
      have HX : Hid (xs.getD k (0, 0, 0) ∈ xs) := by
        have := hH.out
        simp only [List.getD_eq_getElem?_getD, List.getElem?_eq_getElem (show k < xs.length by omega), Option.getD_some]
        exact List.getElem_mem _
      have HN : Hid (pr (xs.getD k (0, 0, 0)) = true → firstIdx pr xs = (k : Int)) := fun e => firstIdx_at HT.out e (by rw [hH.out]; exact hlt)
      have HS : Hid (pr (xs.getD k (0, 0, 0)) = false → NoneTo pr (0, 0, 0) xs (k + 1)) := fun e => HT.out.succ e
      clear hcell hx hbel h0' h1' h2'
      generalize xs.getD k (0, 0, 0) = x at *
      go_wp2_with (fail)
      refine (hF.out wr HB.out x HX.out).mono ?_
      rintro e w2 ⟨rfl, hb2⟩
      have HB2 := Lib.hid (HB.out.trans (hb2.mono HB.out.size))
      clear hb2
      rcases Bool.eq_false_or_eq_true (pr x) with ep | ep
      · go_wp2
        go_ret
        exact ⟨ret_int (HN.out ep).symm, HB2.out⟩
      · go_wp2
        go_roundw
        case rel => exact ⟨k + 1, by omega, by go_num, HS.out ep, HB2.out⟩
        case measure => simp [intOf]; omega
    · obtain rfl : k = n := by omega
      have HB := Lib.hid hbel
      clear hcell hbel
      go_wp2
      go_ret
      exact ⟨ret_int (firstIdx_none HT.out hH.out).symm, HB.out⟩

theorem containsFuncGame_any (pr : Int × Int × Int → Bool) (G : Nat) (cap : Array Value) (eg : ∀ args W, (callFunc G args).run Try.prog W = .ok (.enter G args) W) (a : Option Addr) (n c : Nat) (xs : List (Int × Int × Int)) (w : World) (h : Trips w a n c xs)
    (hf : ∀ W, Below w.heap.size w W → ∀ x, x ∈ xs → Calls Try.prog G (#[.agg #[.int .i64 x.1, .int .i64 x.2.1, .int .i64 x.2.2]] ++ cap) W (Ret W (.bool (pr x)))) :
    Calls Try.prog 40 #[.slice a n c, .func (.func G) #[] cap] w (Ret w (.bool (xs.any pr))) := by
  have C := indexFuncGame_any pr G cap eg a n c xs w h hf
  have HA := Lib.hid (firstIdx_any pr xs)
  clear h hf
  generalize firstIdx pr xs = i at *
  rcases Bool.eq_false_or_eq_true (xs.any pr) with e | e
  · have hi := (HA.out.1 e)
    go_enter Try.func40, Try.ntmps40
    go_wp2_with (fail)
    refine C.mono ?_
    rintro e w2 ⟨rfl, hb2⟩
    have HB := Lib.hid hb2
    clear hb2
    go_wp2
    go_ret
    exact ⟨ret_bool (by first | exact e.symm | simp [e] | rfl), HB.out⟩
  · have hi := (HA.out.2 e)
    go_enter Try.func40, Try.ntmps40
    go_wp2_with (fail)
    refine C.mono ?_
    rintro e w2 ⟨rfl, hb2⟩
    have HB := Lib.hid hb2
    clear hb2
    go_wp2
    go_ret
    exact ⟨ret_bool (by first | exact e.symm | simp [e] | rfl), HB.out⟩

end Go.Proofs.Ytcflgmjjomiejaa
