/- HalfThree, the program's (a closure over three sums) and the reference's (masks within masks). -/
import Derived.Test.YtdkhgpcfbdekeaaThirds
import Derived.Test.YtdkhgpcfbdekeaaHalfBest
namespace Go.Proofs.Ytdkhgpcfbdekeaa
open Go.RowKit
set_option maxHeartbeats 1600000

theorem i64_andNot (n k N : Nat) (hN : 2 ^ n = N) (hn : n ≤ 20) (hk : k < N) : bits .andNot .i64 ((N : Int) - 1) (k : Int) = (rest n k : Int) := by
  have h1 : 2 ^ n ≤ 2 ^ 20 := Nat.pow_le_pow_right (by omega) hn
  have hp : 0 < 2 ^ n := Nat.pow_pos (by omega)
  rw [show (N : Int) - 1 = ((N - 1 : Nat) : Int) by omega]
  show IntKind.i64.wrap ((BitVec.ofInt 64 ((N - 1 : Nat) : Int) &&& ~~~BitVec.ofInt 64 (k : Int)).toNat : Int) = _
  rw [BitVec.toNat_and, BitVec.toNat_not, ofInt_i64 (N - 1) (by omega), ofInt_i64 k (by omega), IntKind.wrap_i64]
  have e : (N - 1) &&& (2 ^ 64 - 1 - k) = rest n k := by
    refine Nat.eq_of_testBit_eq fun i => ?_
    rw [Nat.testBit_and, rest_bit (by omega), ← hN, Nat.testBit_two_pow_sub_one, show 2 ^ 64 - 1 - k = 2 ^ 64 - (k + 1) by omega, Nat.testBit_two_pow_sub_succ (by omega)]
    by_cases hi : i < n
    · simp [hi, show i < 64 by omega]
    · simp [hi]
  rw [e]
  have : rest n k < 2 ^ 20 := by unfold rest; omega
  omega

theorem ret_ib5 {a b : Int} {p q : Bool} (h : a = b) (k : p = q) : Ending.returned (.tuple #[.int .i64 a, .bool p]) = .returned (.tuple #[.int .i64 b, .bool q]) := by rw [h, k]
def halfThreeV (zs : List Int) : Int := if isIn zs then min (tot zs zs.length) (best3 zs 0 0 0) else 0

theorem specHalfThree_any (b off c : Nat) (zs : List Int) (w : World) (hn : zs.length ≤ 1152921504606846976) (hr : Row w b off zs) :
    Calls Try.prog 20 #[.slice (some ⟨b, off, none⟩) zs.length c] w fun e w' => e = .returned (.tuple #[.int .i64 (halfThreeV zs), .bool (isIn zs)]) ∧ Below w.heap.size w w' := by
  unfold halfThreeV
  cases hin : isIn zs with
  | false =>
    go_enter Try.func20, Try.ntmps20
    go_wp2_with (go_at_call 38; refine (specSumIn_any _ _ _ _ _ hn hr).mono ?_; rw [hin]; rintro e w' ⟨rfl, rfl⟩)
    go_ret2
    exact ⟨rfl, Below.refl _ _⟩
  | true =>
    have hlen := isIn_len hin
    simp only [if_true]
    obtain ⟨N, hN, hN1, hN2, hN3⟩ := pow_walk zs.length (by omega)
    have hall := cs_all zs zs.length
    rw [hN] at hall
    have htb := tot_bd hin zs.length
    have hd0 := done_zero zs
    have hend : ∀ B, Done zs N B → B = min (tot zs zs.length) (best3 zs 0 0 0) := fun B h => Done.all (by rw [hN]; exact h)
    obtain ⟨V, hV⟩ : ∃ V, min (tot zs zs.length) (best3 zs 0 0 0) = V := ⟨_, rfl⟩
    rw [hV] at hend ⊢
    have hcb := fun k => cs_bd hin k zs.length
    have hm3 : ∀ p q, m3 zs p q = max (max (cs zs p zs.length) (cs zs q zs.length)) (tot zs zs.length - cs zs p zs.length - cs zs q zs.length) := fun p q => rfl
    have hskip := fun k B (h : Done zs k B) (hk : B ≤ cs zs k zs.length) => Done.skip h hk
    have hsum : ∀ (k : Nat) (W : World), k < 4294967296 → Row W b off zs → Calls Try.prog 47 #[.slice (some ⟨b, off, none⟩) zs.length c, .int .i64 k] W fun e w' => e = .returned (.int .i64 (cs zs k zs.length)) ∧ ∃ n, w' = W.drewN n := fun k W hk hW => l1Sum_any k b off c zs W hk hin hW
    obtain ⟨T, hT⟩ : ∃ T, tot zs zs.length = T := ⟨_, rfl⟩
    rw [hT] at hall htb hd0 hcb hm3
    have h1 : ∀ W : World, Row W b off zs → Calls Try.prog 47 #[.slice (some ⟨b, off, none⟩) zs.length c, .int .i64 ((N : Int) - 1)] W fun e w' => e = .returned (.int .i64 T) ∧ ∃ n, w' = W.drewN n := fun W hW => by
      have := hsum (N - 1) W (by omega) hW
      rw [hall, show (((N - 1 : Nat)) : Int) = (N : Int) - 1 by omega] at this
      exact this
    have HIN := Lib.hid hin
    have HN := Lib.hid hN
    have HEND := Lib.hid hend
    have HD0 := Lib.hid hd0
    have HCB := Lib.hid hcb
    have HM3 := Lib.hid hm3
    have HSKIP := Lib.hid hskip
    have HSUM := Lib.hid hsum
    have H1 := Lib.hid h1
    clear hin hN hN3 hall hend hd0 hcb hm3 hskip hsum h1 hV hT
    go_enter Try.func20, Try.ntmps20
    go_wp2_with fail
    refine (specSumIn_any _ _ _ _ _ hn hr).mono ?_
    rw [HIN.out]
    rintro e w' ⟨rfl, rfl⟩
    go_wp2_with fail
    refine (l1All_N _ _ _ N _ (by omega) HN.out).mono ?_
    rintro e w' ⟨rfl, rfl⟩
    go_wp2_with fail
    refine (H1.out _ hr).mono ?_
    rintro e w' ⟨rfl, n0, rfl⟩
    go_wp2
    go_loopw [7, 6] (fun i o wr => ∃ (k : Nat) (B : Int) (n : Nat), k ≤ N ∧ i = .int .i64 k ∧ o = .int .i64 B ∧ Done zs k B ∧ wr = w.drewN n) (fun i _ _ => N - (intOf i).toNat)
    case atStart => exact ⟨0, T, n0, Nat.zero_le _, rfl, rfl, HD0.out, rfl⟩
    case round =>
      obtain ⟨k, B, n, hk, rfl, rfl, hDone, rfl⟩ := hrel
      have HDN := Lib.hid hDone
      clear hDone
      by_cases hlt : k < N
      · have hand := i64_andNot zs.length k N HN.out (by omega) hlt
        have hkN : k < 2 ^ zs.length := by rw [HN.out]; exact hlt
        have HKN := Lib.hid hkN
        have hrl : rest zs.length k < 1048576 := by unfold rest; rw [HN.out]; omega
        obtain ⟨R, hR⟩ : ∃ R, rest zs.length k = R := ⟨_, rfl⟩
        have hpb := HCB.out k
        have hsk := HSKIP.out k B HDN.out
        have hsum := HSUM.out k (w.drewN n) (by omega) (hr.drewN n)
        obtain ⟨P, hP⟩ : ∃ P, cs zs k zs.length = P := ⟨_, rfl⟩
        have HP := Lib.hid hP
        rw [hR] at hand hrl
        rw [hP] at hpb hsk hsum
        have HR := Lib.hid hR
        have HS := Lib.hid hsk
        have HSM := Lib.hid hsum
        clear hR hP hkN hsk hsum
        go_wp2_with fail
        refine HSM.out.mono ?_
        rintro e w1 ⟨rfl, n1, rfl⟩
        by_cases hBP : B ≤ P
        · go_wp2
          go_roundw
          case rel => exact ⟨k + 1, B, _, by omega, by go_num, rfl, HS.out hBP, rfl⟩
          case measure => simp [intOf]; omega
        · go_wp2
          go_loopw [10, 6] (fun x o wr => ∃ (m : Nat) (B : Int) (n : Nat), m &&& R = m ∧ x = .int .i64 m ∧ o = .int .i64 B ∧ Half zs k m B ∧ wr = w.drewN n) (fun x _ _ => (intOf x).toNat)
          case atStart => exact ⟨R, B, _, Nat.and_self _, rfl, rfl, HR.out ▸ HDN.out.start, rfl⟩
          case round =>
            obtain ⟨m, B', n2, hmR, rfl, rfl, hH, rfl⟩ := hrel
            have hmr := sub_le hmR
            have hqb := HCB.out m
            have hsum2 := HSUM.out m (w.drewN n2) (by omega) (hr.drewN n2)
            have hm3 := HM3.out k m
            rw [HP.out] at hm3
            have hmR' : m &&& rest zs.length k = m := by rw [HR.out]; exact hmR
            have hlast : m = 0 → Done zs (k + 1) (min B' (m3 zs k m)) := fun h => by subst h; exact hH.last HKN.out
            have hnext : 0 < m → Half zs k ((m - 1) &&& R) (min B' (m3 zs k m)) := fun h => by
              have := hH.step HKN.out hmR' h
              rwa [HR.out] at this
            obtain ⟨Q, hQ⟩ : ∃ Q, cs zs m zs.length = Q := ⟨_, rfl⟩
            rw [hQ] at hqb hsum2 hm3
            obtain ⟨Y, hY⟩ : ∃ Y, min B' (m3 zs k m) = Y := ⟨_, rfl⟩
            rw [hY] at hlast hnext
            rw [hm3] at hY
            have HLAST := Lib.hid hlast
            have HNEXT := Lib.hid hnext
            have HSM2 := Lib.hid hsum2
            have HMR := Lib.hid hmR
            clear hlast hnext hsum2 hmR hmR' hH hm3 hQ
            have f1 := max_if P Q
            obtain ⟨u, hu⟩ : ∃ u, max P Q = u := ⟨_, rfl⟩
            rw [hu] at f1 hY
            have f2 := max_if u (T - P - Q)
            obtain ⟨v, hv⟩ : ∃ v, max u (T - P - Q) = v := ⟨_, rfl⟩
            rw [hv] at f2 hY
            have f3 := min_if B' v
            rw [hY] at f3
            have hb1 : 0 ≤ T - P - Q + 600 := by omega
            clear hu hv hY
            go_wp2_with fail
            refine HSM2.out.mono ?_
            rintro e w3 ⟨rfl, n3, rfl⟩
            rcases Nat.eq_zero_or_pos m with hm0 | hm0
            · have z1 : decide ((m : Int) = 0) = true := by simp [hm0]
              go_wp2
              go_roundw
              case rel => exact ⟨k + 1, Y, _, by omega, by go_num, rfl, HLAST.out hm0, rfl⟩
              case measure => simp [intOf]; omega
            · obtain ⟨m', rfl⟩ : ∃ m', m = m' + 1 := ⟨m - 1, by omega⟩
              have hnx := i64_and_nat m' R (by omega) (by omega)
              have e1 : ((m' + 1 : Nat) : Int) - 1 = (m' : Int) := by omega
              have hle : m' &&& R ≤ m' := Nat.and_le_left
              have hN2 := HNEXT.out hm0
              rw [Nat.add_sub_cancel] at hN2
              have hsub : (m' &&& R) &&& R = m' &&& R := by rw [Nat.and_assoc, Nat.and_self]
              have HN2 := Lib.hid hN2
              have HSUB := Lib.hid hsub
              clear hN2 hsub
              go_wp2
              go_roundw
              case rel => exact ⟨m' &&& R, Y, _, HSUB.out, by go_num, rfl, HN2.out, rfl⟩
              case measure => simp [intOf]; omega
      · obtain rfl : k = N := by omega
        go_wp2
        go_ret2
        exact ⟨ret_ib5 (HEND.out _ HDN.out) rfl, below_drewN (Below.refl _ _) _⟩
/-! the program -/

def Sums3 (w : World) (Bs : Nat) (a b c : Int) : Prop := w.heap[Bs]? = some (.cells #[.int .i64 a, .int .i64 b, .int .i64 c] 47 (0, 0))
theorem Sums3.lt {w : World} {Bs : Nat} {a b c : Int} (h : Sums3 w Bs a b c) : Bs < w.heap.size := (Array.getElem?_eq_some_iff.1 h).1
theorem Sums3.free {w : World} {Bs : Nat} {a b c : Int} (h : Sums3 w Bs a b c) (j : Nat) : w.frozen? ⟨Bs, j, none⟩ = false := by simp [World.frozen?, show w.heap[Bs]? = _ from h]
theorem Sums3.kept {w w' : World} {row : Option Nat} {Bs : Nat} {a b c : Int} (h : Sums3 w Bs a b c) (hg : w.grownBy w' row) (hne : some Bs ≠ row) : Sums3 w' Bs a b c := (hg.block Bs h.lt hne).trans h
theorem Sums3.at0 {w : World} {Bs : Nat} {a b c : Int} (h : Sums3 w Bs a b c) : w.cell? ⟨Bs, 0, none⟩ = some (.int .i64 a) := by simp [World.cell?, show w.heap[Bs]? = _ from h]
theorem Sums3.set0 {w : World} {Bs : Nat} {a b c : Int} (x : Int) (h : Sums3 w Bs a b c) : Sums3 (w.setCell ⟨Bs, 0, none⟩ (.int .i64 x)) Bs x b c := by
  obtain ⟨hlt, hk⟩ := Array.getElem?_eq_some_iff.1 h
  show (w.heap.modify Bs _)[Bs]? = _
  rw [Array.getElem?_eq_getElem (by rw [Array.size_modify]; exact hlt), Array.getElem_modify_self, hk]
  rfl
theorem Sums3.at1 {w : World} {Bs : Nat} {a b c : Int} (h : Sums3 w Bs a b c) : w.cell? ⟨Bs, 1, none⟩ = some (.int .i64 b) := by simp [World.cell?, show w.heap[Bs]? = _ from h]
theorem Sums3.set1 {w : World} {Bs : Nat} {a b c : Int} (x : Int) (h : Sums3 w Bs a b c) : Sums3 (w.setCell ⟨Bs, 1, none⟩ (.int .i64 x)) Bs a x c := by
  obtain ⟨hlt, hk⟩ := Array.getElem?_eq_some_iff.1 h
  show (w.heap.modify Bs _)[Bs]? = _
  rw [Array.getElem?_eq_getElem (by rw [Array.size_modify]; exact hlt), Array.getElem_modify_self, hk]
  rfl
theorem Sums3.at2 {w : World} {Bs : Nat} {a b c : Int} (h : Sums3 w Bs a b c) : w.cell? ⟨Bs, 2, none⟩ = some (.int .i64 c) := by simp [World.cell?, show w.heap[Bs]? = _ from h]
theorem Sums3.set2 {w : World} {Bs : Nat} {a b c : Int} (x : Int) (h : Sums3 w Bs a b c) : Sums3 (w.setCell ⟨Bs, 2, none⟩ (.int .i64 x)) Bs a b x := by
  obtain ⟨hlt, hk⟩ := Array.getElem?_eq_some_iff.1 h
  show (w.heap.modify Bs _)[Bs]? = _
  rw [Array.getElem?_eq_getElem (by rw [Array.size_modify]; exact hlt), Array.getElem_modify_self, hk]
  rfl
/-- A store to the sums, a call that turns the best alone, and a store that lays the sums as they were: the best alone has turned. -/
theorem grown_pair {w w1 : World} {Bs Bb j : Nat} {v u : Value} {a b c : Int} (h0 : Sums3 w Bs a b c) (h1 : (w.setCell ⟨Bs, j, none⟩ v).grownBy w1 (some Bb)) (h2 : Sums3 (w1.setCell ⟨Bs, j, none⟩ u) Bs a b c) : w.grownBy (w1.setCell ⟨Bs, j, none⟩ u) (some Bb) := by
  have s1 := grown_set w Bs j v
  have s2 := grown_set w1 Bs j u
  refine ⟨s2.os.trans (h1.os.trans s1.os), s2.tape.trans (h1.tape.trans s1.tape), s2.output.trans (h1.output.trans s1.output), Nat.le_trans s1.size (Nat.le_trans h1.size s2.size), fun i hi hne => ?_⟩
  by_cases e : i = Bs
  · subst e
    have e1 : (w1.setCell ⟨i, j, none⟩ u).heap[i]? = _ := h2
    have e2 : w.heap[i]? = _ := h0
    rw [e1, e2]
  · have hb := s1.block i hi (by simpa using e)
    have hc := h1.block i (Nat.lt_of_lt_of_le hi s1.size) hne
    have hd := s2.block i (Nat.lt_of_lt_of_le (Nat.lt_of_lt_of_le hi s1.size) h1.size) (by simpa using e)
    exact hd.trans (hc.trans hb)

theorem three_any (Ba Bb Bs Bp br off cc : Nat) (zs : List Int) (hin : isIn zs = true) (h1 : Ba ≠ Bb) (h2 : Bp ≠ Bb) (h3 : br ≠ Bb) (h4 : Bs ≠ Bb) (h5 : Ba ≠ Bs) (h6 : Bp ≠ Bs) (h7 : br ≠ Bs) (m : Nat) : ∀ (p : Nat) (pi a b c best : Int) (w : World), pi = (p : Int) → p + m = zs.length →
    0 ≤ a → a ≤ 60 * (p : Int) → 0 ≤ b → b ≤ 60 * (p : Int) → 0 ≤ c → c ≤ 60 * (p : Int) →
    Boxed w Ba 22 (.slice (some ⟨br, off, none⟩) zs.length cc) → Boxed w Bb 3 (.int .i64 best) → Sums3 w Bs a b c → Boxed w Bp 48 (.func (.func 48) #[] #[.pointer (some ⟨Ba, 0, none⟩), .pointer (some ⟨Bb, 0, none⟩), .pointer (some ⟨Bs, 0, none⟩), .pointer (some ⟨Bp, 0, none⟩)]) → Row w br off zs →
    Calls Try.prog 48 #[.int .i64 pi, .pointer (some ⟨Ba, 0, none⟩), .pointer (some ⟨Bb, 0, none⟩), .pointer (some ⟨Bs, 0, none⟩), .pointer (some ⟨Bp, 0, none⟩)] w fun e w' =>
      e = .returned (.tuple #[]) ∧ Boxed w' Bb 3 (.int .i64 (min best (best3 (zs.drop p) a b c))) ∧ w.grownBy w' (some Bb) := by
  have hlen := isIn_len hin
  have HIN := Lib.hid hin
  clear hin
  induction m with
  | zero =>
    rintro p pi a b c best w rfl hp ha1 ha2 hb1 hb2 hc1 hc2 hA hB hS hP hr
    have hpe : p = zs.length := by omega
    have hq : ((p : Int) == (zs.length : Int)) = true := by simp; omega
    have hfin : best3 (zs.drop p) a b c = max (max a b) c := by rw [hpe]; exact best3_end zs a b c
    have hcA := hA.cell
    have hcB := hB.cell
    have hfB := hB.frozen
    have s0 := hS.at0
    have s1 := hS.at1
    have s2 := hS.at2
    have f1 := max_if a b
    obtain ⟨u, hu⟩ : ∃ u, max a b = u := ⟨_, rfl⟩
    rw [hu] at f1 hfin
    have f2 := max_if u c
    obtain ⟨v, hv⟩ : ∃ v, max u c = v := ⟨_, rfl⟩
    rw [hv] at f2 hfin
    rw [hfin]
    have f3 := min_if best v
    obtain ⟨y, hy⟩ : ∃ y, min best v = y := ⟨_, rfl⟩
    rw [hy] at f3 ⊢
    have HB := Lib.hid hB
    clear hpe hfin hu hv hy hr hP hA hB hS
    go_enter Try.func48, Try.ntmps48
    go_wp2
    refine bodyPost_ret (results_none rfl _ _ _) rfl ?_
    exact ⟨rfl, HB.out.set (W := w) _, grown_set w Bb 0 _⟩
  | succ m ih =>
    rintro p pi a b c best w rfl hp ha1 ha2 hb1 hb2 hc1 hc2 hA hB hS hP hr
    have hlt : p < zs.length := by omega
    have hq : ((p : Int) == (zs.length : Int)) = false := by simp; omega
    have hx0 := getD_bd HIN.out p
    have hcx := hr.2 p hlt
    have hstep := best3_drop zs p hlt a b c
    obtain ⟨x, hx⟩ : ∃ x, zs[p]?.getD 0 = x := ⟨_, rfl⟩
    rw [hx] at hx0 hstep hcx
    obtain ⟨y0, hy0⟩ : ∃ y, best3 (zs.drop (p + 1)) (a + x) b c = y := ⟨_, rfl⟩
    obtain ⟨y1, hy1⟩ : ∃ y, best3 (zs.drop (p + 1)) a (b + x) c = y := ⟨_, rfl⟩
    obtain ⟨y2, hy2⟩ : ∃ y, best3 (zs.drop (p + 1)) a b (c + x) = y := ⟨_, rfl⟩
    rw [hy0, hy1, hy2] at hstep
    have HX := Lib.hid hx
    have HY0 := Lib.hid hy0
    have HY1 := Lib.hid hy1
    have HY2 := Lib.hid hy2
    have HS := Lib.hid hstep
    have HIH := Lib.hid ih
    have hw1 : IntKind.i64.wrap ((p : Int) + 1) = (p : Int) + 1 := IntWalk.i64_in _ (by omega)
    have wa : IntKind.i64.wrap (a + x) = a + x := IntWalk.i64_in _ (by omega)
    have wb : IntKind.i64.wrap (b + x) = b + x := IntWalk.i64_in _ (by omega)
    have wc : IntKind.i64.wrap (c + x) = c + x := IntWalk.i64_in _ (by omega)
    have va : IntKind.i64.wrap a = a := IntWalk.i64_in _ (by omega)
    have vb : IntKind.i64.wrap b = b := IntWalk.i64_in _ (by omega)
    have vc : IntKind.i64.wrap c = c := IntWalk.i64_in _ (by omega)
    have HALL := Lib.hid (And.intro hA (And.intro hB (And.intro hS (And.intro hP hr))))
    have hcA := hA.cell
    have HCX := Lib.hid hcx
    clear hx hy0 hy1 hy2 hstep ih hA hB hS hP hr hcx
    go_enter Try.func48, Try.ntmps48
    go_wp2
    clear hcA
    go_loopw [20] (fun i wr => ∃ (g : Nat) (B : Int), i = .int .i64 g ∧ (g = 0 ∧ B = best ∨ g = 1 ∧ B = min best y0 ∨ g = 2 ∧ B = min (min best y0) y1 ∨ g = 3 ∧ B = min (min (min best y0) y1) y2) ∧ Boxed wr Bb 3 (.int .i64 B) ∧ w.grownBy wr (some Bb)) (fun i _ => 3 - (intOf i).toNat)
    case atStart => exact ⟨0, best, rfl, .inl ⟨rfl, rfl⟩, HALL.out.2.1, ⟨rfl, rfl, rfl, Nat.le_refl _, fun _ _ _ => rfl⟩⟩
    case round =>
      obtain ⟨g, B, rfl, hg, hB, hG⟩ := hrel
      have hA := HALL.out.1.kept hG (by simpa using h1)
      have hS := HALL.out.2.2.1.kept hG (by simpa using h4)
      have hP := HALL.out.2.2.2.1.kept hG (by simpa using h2)
      have hr := HALL.out.2.2.2.2.grown hG h3
      have HG := Lib.hid hG
      clear hG
      rcases hg with ⟨rfl, rfl⟩ | ⟨rfl, rfl⟩ | ⟨rfl, rfl⟩ | ⟨rfl, rfl⟩
      · have hcell := hr.2 p hlt
        rw [HX.out] at hcell
        have hcA := hA.cell
        have hcP := hP.cell
        have s := hS.at0
        have f := hS.free 0
        have HK := Lib.hid (And.intro hA (And.intro hB (And.intro hS (And.intro hP hr))))
        clear hA hB hS hP hr
        go_wp2
        refine wp_region_still_tail 9 (by kernel_rfl) (by kernel_rfl) ?_
        simp only [List.take_succ_cons, List.take_zero, List.drop_succ_cons, List.drop_zero]
        repeat still_step
        try refine wpStill_nil ?_
        change wpList _ _ _ _ _ wr.drew
        go_wp2_with fail
        have hA0 := HK.out.1.kept (grown_set wr Bs 0 (.int .i64 (a + x))) (by simpa using h5)
        have hB0 := HK.out.2.1.kept (grown_set wr Bs 0 (.int .i64 (a + x))) (by simpa using (Ne.symm h4))
        have hS0 := HK.out.2.2.1.set0 (a + x)
        have hP0 := HK.out.2.2.2.1.kept (grown_set wr Bs 0 (.int .i64 (a + x))) (by simpa using h6)
        have hr0 := HK.out.2.2.2.2.grown (grown_set wr Bs 0 (.int .i64 (a + x))) h7
        refine (HIH.out (p + 1) ((p : Int) + 1) (a + x) b c _ (wr.setCell ⟨Bs, 0, none⟩ (.int .i64 (a + x))).drew (by omega) (by omega) (by omega) (by omega) (by omega) (by omega) (by omega) (by omega) hA0 hB0 hS0 hP0 hr0).mono ?_
        rintro e w1 ⟨rfl, hB1, hg1⟩
        rw [HY0.out] at hB1
        have hg1' : (wr.setCell ⟨Bs, 0, none⟩ (.int .i64 (a + x))).grownBy w1 (some Bb) := ⟨hg1.os, hg1.tape, hg1.output, hg1.size, hg1.block⟩
        have hA1 := hA0.kept hg1' (by simpa using h1)
        have hS1 := hS0.kept hg1' (by simpa using h4)
        have hP1 := hP0.kept hg1' (by simpa using h2)
        have hr1 := hr0.grown hg1' h3
        have hcell1 := hr1.2 p hlt
        rw [HX.out] at hcell1
        have hcA1 := hA1.cell
        have s1 := hS1.at0
        have f1 := hS1.free 0
        have v2 : IntKind.i64.wrap (a + x - x) = a := by rw [show a + x - x = a by omega]; exact va
        have hg2 := grown_pair HK.out.2.2.1 hg1' (hS1.set0 a)
        have hB2 := hB1.kept (grown_set w1 Bs 0 (.int .i64 a)) (by simpa using (Ne.symm h4))
        have hg3 := grown_trans HG.out hg2
        have H := Lib.hid (And.intro hB2 hg3)
        clear hA0 hB0 hS0 hP0 hr0 hB1 hg1 hg1' hA1 hS1 hP1 hr1 hg2 hB2 hg3 hcell hcA hcP s f
        go_wp2
        refine wp_region_still_tail 9 (by kernel_rfl) (by kernel_rfl) ?_
        simp only [List.take_succ_cons, List.take_zero, List.drop_succ_cons, List.drop_zero]
        repeat still_step
        try refine wpStill_nil ?_
        change wpList _ _ _ _ _ w1.drew
        go_wp2
        go_roundw
        case rel => exact ⟨1, _, by go_num, .inr (.inl ⟨rfl, rfl⟩), H.out.1, ⟨H.out.2.os, H.out.2.tape, H.out.2.output, H.out.2.size, H.out.2.block⟩⟩
        case measure => simp [intOf]
      · have hcell := hr.2 p hlt
        rw [HX.out] at hcell
        have hcA := hA.cell
        have hcP := hP.cell
        have s := hS.at1
        have f := hS.free 1
        have HK := Lib.hid (And.intro hA (And.intro hB (And.intro hS (And.intro hP hr))))
        clear hA hB hS hP hr
        go_wp2
        refine wp_region_still_tail 9 (by kernel_rfl) (by kernel_rfl) ?_
        simp only [List.take_succ_cons, List.take_zero, List.drop_succ_cons, List.drop_zero]
        repeat still_step
        try refine wpStill_nil ?_
        change wpList _ _ _ _ _ wr.drew
        go_wp2_with fail
        have hA0 := HK.out.1.kept (grown_set wr Bs 1 (.int .i64 (b + x))) (by simpa using h5)
        have hB0 := HK.out.2.1.kept (grown_set wr Bs 1 (.int .i64 (b + x))) (by simpa using (Ne.symm h4))
        have hS0 := HK.out.2.2.1.set1 (b + x)
        have hP0 := HK.out.2.2.2.1.kept (grown_set wr Bs 1 (.int .i64 (b + x))) (by simpa using h6)
        have hr0 := HK.out.2.2.2.2.grown (grown_set wr Bs 1 (.int .i64 (b + x))) h7
        refine (HIH.out (p + 1) ((p : Int) + 1) a (b + x) c _ (wr.setCell ⟨Bs, 1, none⟩ (.int .i64 (b + x))).drew (by omega) (by omega) (by omega) (by omega) (by omega) (by omega) (by omega) (by omega) hA0 hB0 hS0 hP0 hr0).mono ?_
        rintro e w1 ⟨rfl, hB1, hg1⟩
        rw [HY1.out] at hB1
        have hg1' : (wr.setCell ⟨Bs, 1, none⟩ (.int .i64 (b + x))).grownBy w1 (some Bb) := ⟨hg1.os, hg1.tape, hg1.output, hg1.size, hg1.block⟩
        have hA1 := hA0.kept hg1' (by simpa using h1)
        have hS1 := hS0.kept hg1' (by simpa using h4)
        have hP1 := hP0.kept hg1' (by simpa using h2)
        have hr1 := hr0.grown hg1' h3
        have hcell1 := hr1.2 p hlt
        rw [HX.out] at hcell1
        have hcA1 := hA1.cell
        have s1 := hS1.at1
        have f1 := hS1.free 1
        have v2 : IntKind.i64.wrap (b + x - x) = b := by rw [show b + x - x = b by omega]; exact vb
        have hg2 := grown_pair HK.out.2.2.1 hg1' (hS1.set1 b)
        have hB2 := hB1.kept (grown_set w1 Bs 1 (.int .i64 b)) (by simpa using (Ne.symm h4))
        have hg3 := grown_trans HG.out hg2
        have H := Lib.hid (And.intro hB2 hg3)
        clear hA0 hB0 hS0 hP0 hr0 hB1 hg1 hg1' hA1 hS1 hP1 hr1 hg2 hB2 hg3 hcell hcA hcP s f
        go_wp2
        refine wp_region_still_tail 9 (by kernel_rfl) (by kernel_rfl) ?_
        simp only [List.take_succ_cons, List.take_zero, List.drop_succ_cons, List.drop_zero]
        repeat still_step
        try refine wpStill_nil ?_
        change wpList _ _ _ _ _ w1.drew
        go_wp2
        go_roundw
        case rel => exact ⟨2, _, by go_num, .inr (.inr (.inl ⟨rfl, rfl⟩)), H.out.1, ⟨H.out.2.os, H.out.2.tape, H.out.2.output, H.out.2.size, H.out.2.block⟩⟩
        case measure => simp [intOf]
      · have hcell := hr.2 p hlt
        rw [HX.out] at hcell
        have hcA := hA.cell
        have hcP := hP.cell
        have s := hS.at2
        have f := hS.free 2
        have HK := Lib.hid (And.intro hA (And.intro hB (And.intro hS (And.intro hP hr))))
        clear hA hB hS hP hr
        go_wp2
        refine wp_region_still_tail 9 (by kernel_rfl) (by kernel_rfl) ?_
        simp only [List.take_succ_cons, List.take_zero, List.drop_succ_cons, List.drop_zero]
        repeat still_step
        try refine wpStill_nil ?_
        change wpList _ _ _ _ _ wr.drew
        go_wp2_with fail
        have hA0 := HK.out.1.kept (grown_set wr Bs 2 (.int .i64 (c + x))) (by simpa using h5)
        have hB0 := HK.out.2.1.kept (grown_set wr Bs 2 (.int .i64 (c + x))) (by simpa using (Ne.symm h4))
        have hS0 := HK.out.2.2.1.set2 (c + x)
        have hP0 := HK.out.2.2.2.1.kept (grown_set wr Bs 2 (.int .i64 (c + x))) (by simpa using h6)
        have hr0 := HK.out.2.2.2.2.grown (grown_set wr Bs 2 (.int .i64 (c + x))) h7
        refine (HIH.out (p + 1) ((p : Int) + 1) a b (c + x) _ (wr.setCell ⟨Bs, 2, none⟩ (.int .i64 (c + x))).drew (by omega) (by omega) (by omega) (by omega) (by omega) (by omega) (by omega) (by omega) hA0 hB0 hS0 hP0 hr0).mono ?_
        rintro e w1 ⟨rfl, hB1, hg1⟩
        rw [HY2.out] at hB1
        have hg1' : (wr.setCell ⟨Bs, 2, none⟩ (.int .i64 (c + x))).grownBy w1 (some Bb) := ⟨hg1.os, hg1.tape, hg1.output, hg1.size, hg1.block⟩
        have hA1 := hA0.kept hg1' (by simpa using h1)
        have hS1 := hS0.kept hg1' (by simpa using h4)
        have hP1 := hP0.kept hg1' (by simpa using h2)
        have hr1 := hr0.grown hg1' h3
        have hcell1 := hr1.2 p hlt
        rw [HX.out] at hcell1
        have hcA1 := hA1.cell
        have s1 := hS1.at2
        have f1 := hS1.free 2
        have v2 : IntKind.i64.wrap (c + x - x) = c := by rw [show c + x - x = c by omega]; exact vc
        have hg2 := grown_pair HK.out.2.2.1 hg1' (hS1.set2 c)
        have hB2 := hB1.kept (grown_set w1 Bs 2 (.int .i64 c)) (by simpa using (Ne.symm h4))
        have hg3 := grown_trans HG.out hg2
        have H := Lib.hid (And.intro hB2 hg3)
        clear hA0 hB0 hS0 hP0 hr0 hB1 hg1 hg1' hA1 hS1 hP1 hr1 hg2 hB2 hg3 hcell hcA hcP s f
        go_wp2
        refine wp_region_still_tail 9 (by kernel_rfl) (by kernel_rfl) ?_
        simp only [List.take_succ_cons, List.take_zero, List.drop_succ_cons, List.drop_zero]
        repeat still_step
        try refine wpStill_nil ?_
        change wpList _ _ _ _ _ w1.drew
        go_wp2
        go_roundw
        case rel => exact ⟨3, _, by go_num, .inr (.inr (.inr ⟨rfl, rfl⟩)), H.out.1, ⟨H.out.2.os, H.out.2.tape, H.out.2.output, H.out.2.size, H.out.2.block⟩⟩
        case measure => simp [intOf]
      · have HF := Lib.hid hB
        clear hA hS hP hr hB
        go_wp2
        go_end0
        refine ⟨rfl, ?_, HG.out⟩
        have := HF.out
        rw [HS.out]
        rwa [show min best (min (min y0 y1) y2) = min (min (min best y0) y1) y2 by omega]

theorem implHalfThree_any (b off c : Nat) (zs : List Int) (w : World) (hn : zs.length ≤ 1152921504606846976) (hr : Row w b off zs) :
    Calls Try.prog 21 #[.slice (some ⟨b, off, none⟩) zs.length c] w fun e w' => e = .returned (.tuple #[.int .i64 (halfThreeV zs), .bool (isIn zs)]) ∧ Below w.heap.size w w' := by
  unfold halfThreeV
  cases hin : isIn zs with
  | false =>
    go_enter Try.func21, Try.ntmps21
    go_wp2_with (go_at_call 40; refine (implSumIn_any _ _ _ _ _ hn (hr.alloc _)).mono ?_; rw [hin]; rintro e w' ⟨rfl, rfl⟩)
    go_ret2
    exact ⟨rfl, by go_grown⟩
  | true =>
    have hlen := isIn_len hin
    have htb := tot_bd hin zs.length
    simp only [if_true]
    obtain ⟨T, hT⟩ : ∃ T, tot zs zs.length = T := ⟨_, rfl⟩
    rw [hT] at htb ⊢
    have HIN := Lib.hid hin
    have HT := Lib.hid hT
    clear hT hin
    have hb := hr.1
    go_enter Try.func21, Try.ntmps21
    go_wp2_with (first | (go_at_call 40; refine (implSumIn_any _ _ _ _ _ hn (hr.alloc _)).mono ?_; rw [HIN.out]; rintro e w' ⟨rfl, rfl⟩) | (go_at_call 41; refine (totalOf_any _ _ _ _ _ HIN.out (hr.alloc _)).mono ?_; rw [HT.out]; rintro e w' ⟨rfl, rfl⟩) )
    have bA := (((Boxed.new w 22 (.slice (some ⟨b, off, none⟩) zs.length c)).alloc (.cells #[.int .i64 T] 3)).alloc (.cells #[.int .i64 0, .int .i64 0, .int .i64 0] 47)).alloc (.cells #[.func (.func 48) #[] #[.pointer (some ⟨w.heap.size, 0, none⟩), .pointer (some ⟨w.heap.size + 1, 0, none⟩), .pointer (some ⟨w.heap.size + 1 + 1, 0, none⟩), .pointer (some ⟨w.heap.size + 1 + 1 + 1, 0, none⟩)]] 48)
    have bB := ((Boxed.new (w.alloc (.cells #[.slice (some ⟨b, off, none⟩) zs.length c] 22)) 3 (.int .i64 T)).alloc (.cells #[.int .i64 0, .int .i64 0, .int .i64 0] 47)).alloc (.cells #[.func (.func 48) #[] #[.pointer (some ⟨w.heap.size, 0, none⟩), .pointer (some ⟨w.heap.size + 1, 0, none⟩), .pointer (some ⟨w.heap.size + 1 + 1, 0, none⟩), .pointer (some ⟨w.heap.size + 1 + 1 + 1, 0, none⟩)]] 48)
    have bS : Sums3 ((((w.alloc (.cells #[.slice (some ⟨b, off, none⟩) zs.length c] 22)).alloc (.cells #[.int .i64 T] 3)).alloc (.cells #[.int .i64 0, .int .i64 0, .int .i64 0] 47)).alloc (.cells #[.func (.func 48) #[] #[.pointer (some ⟨w.heap.size, 0, none⟩), .pointer (some ⟨w.heap.size + 1, 0, none⟩), .pointer (some ⟨w.heap.size + 1 + 1, 0, none⟩), .pointer (some ⟨w.heap.size + 1 + 1 + 1, 0, none⟩)]] 48)) ((w.alloc (.cells #[.slice (some ⟨b, off, none⟩) zs.length c] 22)).alloc (.cells #[.int .i64 T] 3)).heap.size 0 0 0 :=
      Sums3.kept (w := ((w.alloc (.cells #[.slice (some ⟨b, off, none⟩) zs.length c] 22)).alloc (.cells #[.int .i64 T] 3)).alloc (.cells #[.int .i64 0, .int .i64 0, .int .i64 0] 47)) (World.alloc_heap_new _ _) (World.grownBy_alloc _ _ none) (by simp)
    have bP := Boxed.new (((w.alloc (.cells #[.slice (some ⟨b, off, none⟩) zs.length c] 22)).alloc (.cells #[.int .i64 T] 3)).alloc (.cells #[.int .i64 0, .int .i64 0, .int .i64 0] 47)) 48 (.func (.func 48) #[] #[.pointer (some ⟨w.heap.size, 0, none⟩), .pointer (some ⟨w.heap.size + 1, 0, none⟩), .pointer (some ⟨w.heap.size + 1 + 1, 0, none⟩), .pointer (some ⟨w.heap.size + 1 + 1 + 1, 0, none⟩)])
    have hr3 := (((hr.alloc (.cells #[.slice (some ⟨b, off, none⟩) zs.length c] 22)).alloc (.cells #[.int .i64 T] 3)).alloc (.cells #[.int .i64 0, .int .i64 0, .int .i64 0] 47)).alloc (.cells #[.func (.func 48) #[] #[.pointer (some ⟨w.heap.size, 0, none⟩), .pointer (some ⟨w.heap.size + 1, 0, none⟩), .pointer (some ⟨w.heap.size + 1 + 1, 0, none⟩), .pointer (some ⟨w.heap.size + 1 + 1 + 1, 0, none⟩)]] 48)
    have hB0 : Below w.heap.size w ((((w.alloc (.cells #[.slice (some ⟨b, off, none⟩) zs.length c] 22)).alloc (.cells #[.int .i64 T] 3)).alloc (.cells #[.int .i64 0, .int .i64 0, .int .i64 0] 47)).alloc (.cells #[.func (.func 48) #[] #[.pointer (some ⟨w.heap.size, 0, none⟩), .pointer (some ⟨w.heap.size + 1, 0, none⟩), .pointer (some ⟨w.heap.size + 1 + 1, 0, none⟩), .pointer (some ⟨w.heap.size + 1 + 1 + 1, 0, none⟩)]] 48)) := by go_grown
    simp only [World.size_alloc] at bB bS bP
    refine (three_any w.heap.size (w.heap.size + 1) (w.heap.size + 1 + 1) (w.heap.size + 1 + 1 + 1) b off c zs HIN.out (by omega) (by omega) (by omega) (by omega) (by omega) (by omega) (by omega) zs.length 0 0 0 0 0 T _ rfl (by omega) (by omega) (by omega) (by omega) (by omega) (by omega) (by omega) bA bB bS bP hr3).mono ?_
    rintro e w2 ⟨rfl, hB2, hg2⟩
    have hBf := below_wrote hB0 hg2 (by simp; omega) (by omega)
    have hc2 := hB2.cell
    rw [List.drop_zero] at hc2
    clear bA bB bS bP hr3 hB0 hg2 hB2
    go_wp2
    go_ret2
    exact ⟨rfl, hBf⟩

end Go.Proofs.Ytdkhgpcfbdekeaa
