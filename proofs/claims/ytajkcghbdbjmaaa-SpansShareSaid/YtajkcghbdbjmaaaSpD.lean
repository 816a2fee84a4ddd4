/- Layer 7 (spans): the contracts of Views' literal, of each with it, and of Views. -/
import Derived.Test.YtajkcghbdbjmaaaSpC
namespace Go.Proofs.Ytajkcghbdbjmaaa
open Go.RowKit Rc
namespace Sp

/-- A view of this part of the bytes at A. -/
def vw (A : Option Addr) (p : Nat × Nat) (v : Value) : Prop := ∃ A', v = .slice A' p.2 p.2 ∧ (0 < p.2 → A' = A.map (·.add p.1))
/-- The bytes' box at P; the box at B holds these views, their row in a block of N or above. -/
def ViInv (B N P l c : Nat) (A : Option Addr) (rs : List (Nat × Nat)) (w : World) : Prop :=
  w.heap[P]? = some (.cells #[.slice A l c] 22 (0, 0)) ∧ ∃ v vs, w.heap[B]? = some (.cells #[v] 38 (0, 0)) ∧ w.ownsRow N 22 1 v rs.length vs ∧ vs.length = rs.length ∧ ∀ (i : Nat) (p : Nat × Nat) (u : Value), rs[i]? = some p → vs[i]? = some u → vw A p u
theorem vi_end {B N P l c n : Nat} {A : Option Addr} {rs : List (Nat × Nat)} {vs : List Value} {w w2 w3 : World} {v v3 u : Value} {p : Nat × Nat} {o : Obj} (hn : rs.length = n) (hBN : B < N) (hPN : P < N) (hPB : P ≠ B) (hN : N ≤ w.heap.size) (hP : w.heap[P]? = some (.cells #[.slice A l c] 22 (0, 0))) (hB : w.heap[B]? = some (.cells #[v] 38 (0, 0)))
    (hown : w.ownsRow N 22 1 v n vs) (hvl : vs.length = n) (hv : ∀ (i : Nat) (p : Nat × Nat) (u : Value), rs[i]? = some p → vs[i]? = some u → vw A p u) (hu : vw A p u)
    (h2 : Below w.heap.size w w2) (hg : (w2.alloc o).grownBy w3 v.ownBlock) (hown3 : w3.ownsRow N 22 1 v3 (n + 1) (vs ++ [u])) :
    w3.heap[B]? = some (.cells #[v] 38 (0, 0)) ∧ ViInv B N P l c A (rs ++ [p]) (w3.setCell ⟨B, 0, none⟩ v3) ∧ KB B N w (w3.setCell ⟨B, 0, none⟩ v3) := by
  have b1 : Below w.heap.size w (w2.alloc o) := h2.trans (((Below.refl w2.heap.size w2).alloc (Nat.le_refl _) o).mono h2.size)
  have hob : ∀ k, v.ownBlock = some k → N ≤ k := fun k hk => (own_lt hown k hk).1
  have hB3 : w3.heap[B]? = some (.cells #[v] 38 (0, 0)) := by
    rw [hg.block B (by have := b1.size; omega) (fun e => by have := hob B e.symm; omega), b1.block B (by omega)]
    exact hB
  have hk : KB B N w (w3.setCell ⟨B, 0, none⟩ v3) := ((KB.of_below b1 hN).trans (KB.of_grown hg (Nat.le_trans hN b1.size) hob)).trans (KB.setB _ _)
  refine ⟨hB3, ⟨(hk.block P hPN hPB).trans hP, v3, vs ++ [u], one_set hB3, ?_, by simp [hvl, hn], fun i q x h1 h2 => ?_⟩, hk⟩
  · rw [List.length_append, hn]
    exact ownsRow_setCell_below hown3 (by simpa using hBN) _
  · rcases Nat.lt_or_ge i n with hi | hi
    · rw [List.getElem?_append_left (by omega)] at h1 h2
      exact hv i q x h1 h2
    · rw [List.getElem?_append_right (by omega)] at h1 h2
      have hi2 := (List.getElem?_eq_some_iff.1 h1).1
      simp at hi2
      rw [show i - rs.length = 0 by omega] at h1
      rw [show i - vs.length = 0 by omega] at h2
      simp at h1 h2
      subst h1 h2
      exact hu
set_option maxHeartbeats 1600000 in
theorem vi1_any (B N P l c a q b off : Nat) (rs : List (Nat × Nat)) (w : World) (h : ViInv B N P l c (some ⟨b, off, none⟩) rs w) (hBN : B < N) (hPN : P < N) (hPB : P ≠ B) (hN : N ≤ w.heap.size) (hlen : rs.length ≤ 1000) (hlc : l ≤ c) (hcm : c ≤ 9223372036854775807) (hl : l ≤ 100000) (haq : a + q ≤ l) :
    Calls Try.prog 27 #[spanv (a : Int) (q : Int), .pointer (some ⟨P, 0, none⟩), .pointer (some ⟨B, 0, none⟩)] w fun e w' => e = .returned (.tuple #[]) ∧ ViInv B N P l c (some ⟨b, off, none⟩) (rs ++ [(a, q)]) w' ∧ KB B N w w' := by
  obtain ⟨hP, v, vs, hB, hown, hvl, hv⟩ := h
  obtain ⟨i0, hi0, hz0, hz1, hz2⟩ := info_at infoR
  obtain ⟨n, hn⟩ : ∃ n, rs.length = n := ⟨_, rfl⟩
  rw [hn] at hown hlen hvl
  obtain ⟨A, cap, rfl, _⟩ := Mem.own_shape hown
  have hlt : B < w.heap.size := by omega
  have hltP : P < w.heap.size := by omega
  have cP : ∀ o, (w.alloc o).cell? ⟨P, 0, none⟩ = some (.slice (some ⟨b, off, none⟩) l c) := fun o => by rw [World.cell?_alloc_lt _ _ _ hltP]; exact cell_of_one hP
  have hal : Below w.heap.size w (w.alloc (.cells #[.int .i64 (a : Int), .int .i64 (q : Int)] 31)) := (Below.refl _ _).alloc (Nat.le_refl _) _
  have CUT := Lib.hid (cut_any l c (some ⟨b, off, none⟩) (a : Int) (q : Int) (w.alloc (.cells #[.int .i64 (a : Int), .int .i64 (q : Int)] 31)) (by intro e; cases e) (by intro _ x e; injection e with e; rw [← e]) hlc hcm (by omega) (by omega) (by omega) (by omega))
  have hf : fits l (a : Int) (q : Int) = true := by simp [fits]; omega
  have HF := Lib.hid hf
  have HN := Lib.hid hn
  have HP := Lib.hid hP
  have HB := Lib.hid hB
  have HOWN := Lib.hid hown
  have HVL := Lib.hid hvl
  have HV := Lib.hid hv
  have HAL := Lib.hid hal
  have I0 := Lib.hid hi0
  have I1 := Lib.hid hz0
  have I2 := Lib.hid hz1
  have I3 := Lib.hid hz2
  clear hi0 hz0 hz1 hz2 hown hB hn hP hvl hv hf hal
  go_enter Try.func27, Try.ntmps27
  go_wp2_with fail
  refine CUT.out.mono ?_
  rintro e w2 ⟨⟨hf0, _⟩ | ⟨_, A', rfl, hA', _⟩, hb2⟩
  case inl => rw [HF.out] at hf0; cases hf0
  have hbel : Below w.heap.size w w2 := HAL.out.trans (hb2.mono HAL.out.size)
  have HBEL := Lib.hid hbel
  have cB : ∀ o, (w2.alloc o).cell? ⟨B, 0, none⟩ = some (.slice A n cap) := fun o => by
    rw [World.cell?_alloc_lt _ _ _ (by have := hbel.size; show B < w2.heap.size; omega)]
    exact cell_of_one ((hbel.block B hlt).trans HB.out)
  have cB2 := cell_of_one ((hbel.block B hlt).trans HB.out)
  have hu : vw (some ⟨b, off, none⟩) (a, q) (.slice A' q q) := ⟨A', rfl, fun h => by
    have := hA' (by simpa using h)
    simpa using this⟩
  have HU := Lib.hid hu
  have hq1 : ((q : Int)).toNat = q := by omega
  rw [hq1]
  clear hb2 hA' hbel hu
  go_wp2_with (at_builtin; refine Mem.wpList_append_rd _ rfl (.tmp 12) (.tmp 14) 38 rfl N 22 i0 (.slice none 0 0) 24 Try.underlying38 I0.out I1.out I2.out I3.out rfl (.slice A n cap) n vs (by simp [Act.eval]) (by exact (Mem.own_below HOWN.out HBEL.out).alloc _) (some ⟨w2.heap.size, 0, none⟩) 1 1 [.slice A' q q] (by simp [Act.eval]) rfl (by exact rd_one w2 _ _) (by intro u hu; simp at hu; subst hu; rfl) (by simp only [maxLen]; omega) (by omega) (by have := HBEL.out.size; simp; omega) ?_; intro v3 w3 hown3 hg3 _; obtain ⟨q1, q2, q3⟩ := vi_end HN.out hBN hPN hPB hN HP.out HB.out HOWN.out HVL.out HV.out HU.out HBEL.out hg3 hown3; obtain ⟨A1, cap1, rfl, _⟩ := Mem.own_shape hown3; have c3 := cell_of_one q1; have f3 := free_of_one q1; have Q2 := Lib.hid q2; have Q3 := Lib.hid q3; clear q1 q2 q3 hown3 hg3)
  go_end0
  exact ⟨rfl, Q2.out, Q3.out⟩
/-- The relation of each's loop. -/
def EaviR (bs : List Nat) (n B N : Nat) (P c : Nat) (A : Option Addr) (W1 : World) (a i : Value) (w : World) : Prop :=
  ∃ k : Nat, k ≤ n ∧ a = .int .i64 ((2 + 2 * n + beg bs k : Nat) : Int) ∧ i = .int .i64 (k : Int) ∧ ViInv B N P bs.length c A ((spn bs).take k) w ∧ KB B N W1 w
/-- What each leaves. -/
def Eachvi (bs : List Nat) (B : Nat) (P c : Nat) (A : Option Addr) (W : World) (e : Ending) (w : World) : Prop :=
  e = .returned (.int .i64 (errE bs : Nat)) ∧ KB B W.heap.size W w ∧ (errE bs = 0 → ∃ N, W.heap.size ≤ N ∧ ViInv B N P bs.length c A (spn bs) w) ∧ (errE bs ≠ 0 → w.heap[B]? = some (.cells #[.slice none 0 0] 38 (0, 0)))
set_option maxHeartbeats 3200000 in
theorem each_vi (bs : List Nat) (A : Option Addr) (c B : Nat) (P : Nat) (W : World) (hr : Mem.Rd W A (octets bs)) (hs : Small bs) (hm : bs.length ≤ 100000) (hc : bs.length ≤ c) (hcm : c ≤ 9223372036854775807) (hB : W.heap[B]? = some (.cells #[.slice none 0 0] 38 (0, 0))) (hP : W.heap[P]? = some (.cells #[.slice A bs.length c] 22 (0, 0))) (hPB : P ≠ B) :
    Calls Try.prog 21 #[.slice A bs.length c, .func (.func 27) #[] #[.pointer (some ⟨P, 0, none⟩), .pointer (some ⟨B, 0, none⟩)]] W (Eachvi bs B P c A W) := by
  have HU := Lib.hid (unpack_any bs A c W hr hs hm hc hcm)
  have hBW : B < W.heap.size := lt_of_block hB
  have HBC := Lib.hid hB
  have hPW : P < W.heap.size := lt_of_block hP
  have HPC := Lib.hid hP
  have HRR := Lib.hid hr
  have HCC := Lib.hid hc
  have HCM := Lib.hid hcm
  clear hP
  obtain ⟨l, hl⟩ : ∃ l, bs.length = l := ⟨_, rfl⟩
  rw [hl] at HU ⊢
  by_cases he : errE bs = 0
  · have hok := ok_of he
    have HOK := Lib.hid hok
    have ho1 := hok.pos
    have ho2 := hok.le
    have ho3 := hok.last
    have ho4 := hok.most
    have HERR := Lib.hid he
    obtain ⟨n, hn⟩ : ∃ n, num bs = n := ⟨_, rfl⟩
    have HN := Lib.hid hn
    rw [hn] at ho1 ho2 ho3
    have hw2 : IntKind.i64.wrap (2 * (n : Int)) = 2 * (n : Int) := IntWalk.i64_in _ (by omega)
    have hw3 : IntKind.i64.wrap (2 + 2 * (n : Int)) = ((2 + 2 * n : Nat) : Int) := by rw [IntWalk.i64_in _ (by omega)]; omega
    obtain ⟨fr, hfr⟩ : ∃ fr, 2 + 2 * n = fr := ⟨_, rfl⟩
    rw [hfr] at hw3
    have HFR := Lib.hid hfr
    clear hr hs he hok hn hB hc hcm hm hfr hl
    go_enter Try.func21, Try.ntmps21
    go_wp2_with fail
    refine HU.out.mono ?_
    rintro e w1 ⟨⟨_, B0, U, uc, vs, hB0, rfl, hown, hrecs⟩ | ⟨hne, _⟩, hb⟩
    case inr => exact absurd HERR.out hne
    rw [HN.out] at hown ⊢
    have hN : W.heap.size ≤ w1.heap.size := hb.size
    have hrecs' : ∀ k, k < n → ∃ Ak ck, vs[k]? = some (.slice Ak (endAt bs k - beg bs k) ck) := fun k hk => by
      have hkl : k < vs.length := by rw [hrecs.len, recs_len, HN.out]; exact hk
      have h1 := hrecs.own k vs[k] (rec1 bs k) (List.getElem?_eq_getElem hkl) (recs_at (by rw [HN.out]; exact hk))
      obtain ⟨Ak, ck, h2, _⟩ := Mem.own_shape h1
      rw [HOK.out.rec_len (by rw [HN.out]; exact hk)] at h2
      exact ⟨Ak, ck, by rw [List.getElem?_eq_getElem hkl, h2]⟩
    have hvl : vs.length = n := by rw [hrecs.len, recs_len, HN.out]
    obtain ⟨ub, uc2, hU, hub, hult⟩ := hown.form (by omega)
    injection hU with hU1 hU2 hU3
    subst hU1
    have hcell : ∀ k, k < n → w1.cell? ⟨ub, k, none⟩ = vs[k]? := fun k hk => by
      obtain ⟨b, o, e1, _, hc⟩ := (Mem.Rd.of_own hown) (by omega)
      injection e1 with e1
      injection e1 with e1 e2 _
      subst e1 e2
      have := hc k (by omega)
      rwa [Nat.zero_add] at this
    have HRE := Lib.hid hrecs'
    have HCE := Lib.hid hcell
    have HBE := Lib.hid hb
    have hubB : ub ≠ B := by omega
    have HUB := Lib.hid (show ub < w1.heap.size ∧ ub ≠ B from ⟨hult, hubB⟩)
    have hst : ViInv B w1.heap.size P bs.length c A ((spn bs).take 0) w1 := ⟨(hb.block P hPW).trans HPC.out, .slice none 0 0, [], (hb.block B hBW).trans HBC.out, by simpa using World.ownsRow_nil w1 w1.heap.size 22 1, by simp, fun i p u h => by simp at h⟩
    have HST := Lib.hid hst
    clear hown hrecs hrecs' hcell hvl hst hub hult hubB hb
    go_wp2_with fail
    go_loopw [7, 21] (EaviR bs n B w1.heap.size P c A w1) (fun _ i _ => n - (intOf i).toNat)
    case atStart => exact ⟨0, by omega, by rw [HFR.out]; simp [beg], rfl, HST.out, KB.refl _ _ _⟩
    case round =>
      obtain ⟨k, hk, rfl, rfl, hinv, hkb⟩ := hrel
      by_cases hkn : k < n
      · obtain ⟨Ak, ck, hvk⟩ := HRE.out k hkn
        have c1 : wr.cell? ⟨ub, k, none⟩ = some (.slice Ak (endAt bs k - beg bs k) ck) := by
          rw [World.cell?_of_block (w := w1) (a := ⟨ub, k, none⟩) (hkb.block ub HUB.out.1 HUB.out.2), HCE.out k hkn, hvk]
        have hge := HOK.out.beg_le (i := k) (by rw [HN.out]; exact hkn)
        have hel := HOK.out.end_le (i := k) (by rw [HN.out]; exact hkn)
        rw [HN.out] at hel
        have hbs := beg_succ bs k
        obtain ⟨x, hx⟩ : ∃ x, endAt bs k = x := ⟨_, rfl⟩
        obtain ⟨g, hg⟩ : ∃ g, beg bs k = g := ⟨_, rfl⟩
        rw [hx] at c1 hge hel hbs
        rw [hg] at c1 hge ⊢
        obtain ⟨t, ht⟩ : ∃ t, 2 + 2 * n + g = t := ⟨_, rfl⟩
        obtain ⟨q, hq⟩ : ∃ q, x - g = q := ⟨_, rfl⟩
        rw [ht]
        rw [hq] at c1
        obtain ⟨b, off, rfl, _, _⟩ := HRR.out (by rw [octets_len]; omega)
        have hcall := vi1_any B w1.heap.size P bs.length c t q b off ((spn bs).take k) wr hinv (by omega) (by omega) hPB hkb.size (by rw [List.length_take, spn_len, HN.out]; omega) HCC.out HCM.out (by omega) (by omega)
        rw [show (spn bs).take k ++ [(t, q)] = (spn bs).take (k + 1) by rw [spn_take (by rw [HN.out]; exact hkn), HN.out, hg, hx, ht, hq]] at hcall
        have CALL := Lib.hid hcall
        clear hcall
        have HX := Lib.hid hx
        have HG := Lib.hid hg
        have HT := Lib.hid ht
        have HQ := Lib.hid hq
        have HBS := Lib.hid hbs
        have HGE := Lib.hid hge
        have HKB := Lib.hid hkb
        have hwt : IntKind.i64.wrap ((t : Int) + (q : Int)) = ((2 + 2 * n + x : Nat) : Int) := by rw [IntWalk.i64_in _ (by omega)]; omega
        have hk0' : (0 : Int) ≤ (k : Int) := by omega
        have hk1' : (k : Int) < (n : Int) := by omega
        clear hinv hkb hvk hx hg ht hq hbs hge hel
        go_wp2_with (go_at_call 27; refine CALL.out.mono ?_; rintro e w2 ⟨rfl, hi2, hk2⟩; have HI2 := Lib.hid hi2; have HK2 := Lib.hid hk2; clear hi2 hk2)
        go_roundw
        case rel => exact ⟨k + 1, by omega, by rw [HBS.out]; first | rfl | (congr 1; omega), by go_num, HI2.out, HKB.out.trans HK2.out⟩
        case measure => simp [intOf]; omega
      · obtain rfl : n = k := by omega
        have hfin : ViInv B w1.heap.size P bs.length c A (spn bs) wr := by
          rw [List.take_of_length_le (by rw [spn_len, HN.out]; exact Nat.le_refl _)] at hinv
          exact hinv
        have fin : Eachvi bs B P c A W (.returned (.int .i64 0)) wr := ⟨by rw [HERR.out]; rfl, (KB.of_below HBE.out (Nat.le_refl _)).trans (hkb.mono hN), fun _ => ⟨w1.heap.size, hN, hfin⟩, fun h => absurd HERR.out h⟩
        have FIN := Lib.hid fin
        clear fin hkb hinv hfin
        go_wp2_with fail
        go_ret
        exact FIN.out
  · have HERR := Lib.hid he
    obtain ⟨v, hv⟩ : ∃ v, errE bs = v := ⟨_, rfl⟩
    have HV := Lib.hid hv
    clear hr hs he hB hc hcm hm hl hv
    go_enter Try.func21, Try.ntmps21
    go_wp2_with fail
    refine HU.out.mono ?_
    rintro e w1 ⟨⟨h0, _⟩ | ⟨_, rfl⟩, hb⟩
    case inl => exact absurd h0 HERR.out
    rw [HV.out]
    have fin : Eachvi bs B P c A W (.returned (.int .i64 (v : Int))) w1 := ⟨by rw [HV.out], KB.of_below hb (Nat.le_refl _), fun h => absurd h HERR.out, fun _ => (hb.block B hBW).trans HBC.out⟩
    have FIN := Lib.hid fin
    clear fin hb
    go_wp2_with fail
    go_loopw [21] (fun i w => i = .int .i64 0 ∧ w = w1) (fun _ _ => 0)
    case atStart => exact ⟨rfl, rfl⟩
    case round =>
      obtain ⟨rfl, rfl⟩ := hrel
      go_wp2_with fail
      go_ret
      exact FIN.out
/-- What Views answers. -/
def ViRes (bs : List Nat) (A : Option Addr) (W : World) (e : Ending) (w : World) : Prop :=
  ((errE bs = 0 ∧ ∃ N v vs, W.heap.size ≤ N ∧ e = .returned (.tuple #[v, .int .i64 0]) ∧ w.ownsRow N 22 1 v (num bs) vs ∧ vs.length = num bs ∧ ∀ (i : Nat) (p : Nat × Nat) (u : Value), (spn bs)[i]? = some p → vs[i]? = some u → vw A p u) ∨ (errE bs ≠ 0 ∧ e = .returned (.tuple #[.slice none 0 0, .int .i64 (errE bs : Nat)]))) ∧ Below W.heap.size W w
set_option maxHeartbeats 1600000 in
theorem views_any (bs : List Nat) (A : Option Addr) (c : Nat) (W : World) (hr : Mem.Rd W A (octets bs)) (hs : Small bs) (hm : bs.length ≤ 100000) (hc : bs.length ≤ c) (hcm : c ≤ 9223372036854775807) :
    Calls Try.prog 19 #[.slice A bs.length c] W (ViRes bs A W) := by
  have hb1 : Below W.heap.size W (W.alloc (.cells #[.slice A bs.length c] 22)) := (Below.refl _ _).alloc (Nat.le_refl _) _
  have hb2 : Below W.heap.size W ((W.alloc (.cells #[.slice A bs.length c] 22)).alloc (.cells #[.slice none 0 0] 38)) := hb1.alloc hb1.size _
  have hBx : ((W.alloc (.cells #[.slice A bs.length c] 22)).alloc (.cells #[.slice none 0 0] 38)).heap[W.heap.size + 1]? = some (.cells #[.slice none 0 0] 38 (0, 0)) := by
    have := heap_alloc_new (W.alloc (.cells #[.slice A bs.length c] 22)) (.cells #[.slice none 0 0] 38)
    rwa [World.size_alloc] at this
  have hPx : ((W.alloc (.cells #[.slice A bs.length c] 22)).alloc (.cells #[.slice none 0 0] 38)).heap[W.heap.size]? = some (.cells #[.slice A bs.length c] 22 (0, 0)) := by
    rw [Below.heap_alloc _ _ _ (by simp)]
    exact heap_alloc_new _ _
  have HE := Lib.hid (each_vi bs A c (W.heap.size + 1) W.heap.size _ ((hr.alloc _).alloc _) hs hm hc hcm hBx hPx (by omega))
  have HB2 := Lib.hid hb2
  obtain ⟨l, hl⟩ : ∃ l, bs.length = l := ⟨_, rfl⟩
  rw [hl] at HE HB2 ⊢
  clear hr hs hm hc hcm hl hb1 hb2 hBx hPx
  go_enter Try.func19, Try.ntmps19
  go_wp2_with fail
  refine HE.out.mono ?_
  rintro e w1 ⟨rfl, hkb, h1, h2⟩
  have hbel : Below W.heap.size W w1 := HB2.out.trans (hkb.below (by omega) (by simp; omega))
  have HBE := Lib.hid hbel
  by_cases he : errE bs = 0
  · obtain ⟨N, hN, _, v, vs, hB, hown, hvl, hv⟩ := h1 he
    have c1 := cell_of_one hB
    rw [spn_len] at hown hvl
    obtain ⟨A1, o1, rfl, _⟩ := Mem.own_shape hown
    have fin : ViRes bs A W (.returned (.tuple #[.slice A1 (num bs) o1, .int .i64 (errE bs : Nat)])) w1 := ⟨.inl ⟨he, N, _, vs, by simp at hN; omega, by rw [he]; rfl, hown, hvl, hv⟩, HBE.out⟩
    have FIN := Lib.hid fin
    generalize errE bs = v at *
    generalize num bs = n at *
    clear fin hown hB hkb hbel h1 h2 he hvl hv
    go_wp2_with fail
    go_ret2
    exact FIN.out
  · have c1 := cell_of_one (h2 he)
    have fin : ViRes bs A W (.returned (.tuple #[.slice none 0 0, .int .i64 (errE bs : Nat)])) w1 := ⟨.inr ⟨he, rfl⟩, HBE.out⟩
    have FIN := Lib.hid fin
    generalize errE bs = v at *
    clear fin hkb hbel h1 h2 he
    go_wp2_with fail
    go_ret2
    exact FIN.out
end Sp
end Go.Proofs.Ytajkcghbdbjmaaa
