/- The document's Quoted, walked. -/
import Derived.Test.YtnckhmfajjcgpaaGreatDoorMtC
import Derived.Deep.CutBlock
import Derived.Deep.RegionLaw
import Derived.Lib.SlBytesConst
set_option linter.unusedVariables false
set_option linter.unusedSimpArgs false
set_option linter.unusedSectionVars false
namespace Go.Proofs.YtnckhmfajjcgpaaGreatDoor.Mt
set_option linter.unusedVariables false
open Go.RowKit Go.Lib
theorem escs_take {l : List UInt8} {q : Nat} (h : q < l.length) : escs (l.take (q + 1)) = escs (l.take q) ++ esc l[q] := by
  rw [List.take_succ_eq_append_getElem h, escs_app]
  simp [escs]
theorem quo_take {l : List UInt8} {q : Nat} (h : q < l.length) : 34 :: escs (l.take (q + 1)) = (34 :: escs (l.take q)) ++ esc l[q] := by
  rw [escs_take h]; simp
def hexS : ByteArray := ⟨#[48, 49, 50, 51, 52, 53, 54, 55, 56, 57, 97, 98, 99, 100, 101, 102]⟩
theorem hexS_fin : ∀ k : Fin 16, hexS[k.val]'(k.isLt) = hexDigit k.val := by decide
theorem hexS_at (k : Nat) (h : k < 16) : hexS[k]'(h) = hexDigit k := hexS_fin ⟨k, h⟩
theorem esc34 {c : UInt8} (h : c.toNat = 34 ∨ c.toNat = 92) : esc c = [92, c] := by unfold esc; rw [if_pos h]
theorem escK {c : UInt8} {k : Nat} {x : UInt8} (h : c.toNat = k) (hk : (k = 8 ∧ x = 98) ∨ (k = 9 ∧ x = 116) ∨ (k = 10 ∧ x = 110) ∨ (k = 12 ∧ x = 102) ∨ (k = 13 ∧ x = 114)) : esc c = [92, x] := by
  unfold esc
  rw [h]
  rcases hk with ⟨rfl, rfl⟩ | ⟨rfl, rfl⟩ | ⟨rfl, rfl⟩ | ⟨rfl, rfl⟩ | ⟨rfl, rfl⟩ <;> rfl
def plainC (n : Nat) : Prop := n ≠ 34 ∧ n ≠ 92 ∧ n ≠ 8 ∧ n ≠ 9 ∧ n ≠ 10 ∧ n ≠ 12 ∧ n ≠ 13
theorem escU {c : UInt8} (h : plainC c.toNat) (h2 : c.toNat < 32) : esc c = [92, 117, 48, 48, hexDigit (c.toNat / 16), hexDigit (c.toNat % 16)] := by
  obtain ⟨a1, a2, a3, a4, a5, a6, a7⟩ := h
  unfold esc
  rw [if_neg (by omega), if_neg a3, if_neg a4, if_neg a5, if_neg a6, if_neg a7, if_pos h2]
theorem escP {c : UInt8} (h : plainC c.toNat) (h2 : ¬ c.toNat < 32) : esc c = [c] := by
  obtain ⟨a1, a2, a3, a4, a5, a6, a7⟩ := h
  unfold esc
  rw [if_neg (by omega), if_neg a3, if_neg a4, if_neg a5, if_neg a6, if_neg a7, if_neg h2]
theorem eqF {n k : Nat} (h : n ≠ k) : ((n : Int) == (k : Int)) = false := by simp; omega
theorem eqT {n k : Nat} (h : n = k) : ((n : Int) == (k : Int)) = true := by simp; omega
set_option maxRecDepth 100000 in
set_option maxHeartbeats 8000000 in
theorem rquo_any (w : World) (s : ByteArray) (hs : s.size ≤ 16777216) :
    Calls Tryz.prog 128 #[.string s] w fun e w' => e = .returned (.string ⟨(quo s.data.toList).toArray⟩) ∧ Below w.heap.size w w' := by
  have HS := Lib.hid hs
  go_enter Tryz.func128, Tryz.ntmps128
  go_wp2
  have HB0 := Lib.hid (Bs.lit w (Nat.le_refl _) [34] #[.int .u8 34] rfl (by decide))
  have HF0 := Lib.hid ((Fr.refl w.heap.size w).alloc (Nat.le_refl _) (.cells #[.int .u8 34] 5))
  obtain ⟨w1, hw1⟩ : ∃ w1, w.alloc (.cells #[.int .u8 34] 5) = w1 := ⟨_, rfl⟩
  rw [hw1] at HB0 HF0 ⊢
  clear hw1
  go_loopw [4, 5] (fun v ix wr => ∃ q : Nat, q ≤ s.size ∧ ix = .int .i64 q ∧ Hid (Bs wr w.heap.size v (34 :: escs (s.data.toList.take q))) ∧ Hid (Fr w.heap.size w wr)) (fun _ i _ => s.size - (RowKit.intOf i).toNat)
  case atStart => exact ⟨0, Nat.zero_le _, rfl, HB0, HF0⟩
  case round =>
    clear HB0 HF0
    obtain ⟨q, hq, rfl, HB, HF⟩ := hrel
    by_cases hlt : q < s.size
    · have hli : (q : Int) < (s.size : Int) := by omega
      have hql : q < s.data.toList.length := by rw [bytes_len]; exact hlt
      have HQ := Lib.hid (quo_take hql)
      have hcc : s.data.toList[q] = s[q]'hlt := rfl
      rw [hcc] at HQ
      obtain ⟨c, hc⟩ : ∃ c : UInt8, s[q]'hlt = c := ⟨_, rfl⟩
      rw [hc] at HQ
      obtain ⟨bs, hbs⟩ : ∃ bs, 34 :: escs (s.data.toList.take q) = bs := ⟨_, rfl⟩
      have hbl : bs.length ≤ 100663297 := by
        have h1 := escs_len (s.data.toList.take q)
        have h2 : (s.data.toList.take q).length ≤ 16777216 := by rw [List.length_take]; omega
        rw [← hbs, List.length_cons]
        omega
      rw [hbs] at HB HQ
      have HBL := Lib.hid hbl
      clear hbs hbl hcc hql
      obtain ⟨n, hn⟩ : ∃ n : Nat, c.toNat = n := ⟨_, rfl⟩
      have hn256 : n < 256 := by rw [← hn]; exact UInt8.toNat_lt _
      have HBA : Hid (w.heap.size ≤ wr.heap.size) := Lib.hid HF.out.size
      by_cases h34 : n = 34
      · subst h34
        have HE := Lib.hid (esc34 (c := c) (by omega))
        have HC : Hid (#[Value.int .u8 92, Value.int .u8 34] = (bc [92, c]).toArray) := Lib.hid (by simp [bc, hn])
        go_wp2_with (first | (at_builtin; refine wpList_fr_lit rfl _ _ rfl rfl HB.out _ _ HC.out 2 2 rfl rfl (by have := HBL.out; omega) HBA.out ?_; intro v9 w9 hb9 hf9) | go_in)
        go_roundw
        case rel => exact ⟨q + 1, by omega, by go_num, Lib.hid (by rw [HQ.out, HE.out]; exact hb9), Lib.hid (HF.out.trans hf9)⟩
        case measure => simp [RowKit.intOf]; omega
      · have e34 : ((n : Int) == 34) = false := eqF h34
        by_cases h92 : n = 92
        · subst h92
          have e34 : ((92 : Int) == 34) = false := by decide
          have HE := Lib.hid (esc34 (c := c) (by omega))
          have HC : Hid (#[Value.int .u8 92, Value.int .u8 92] = (bc [92, c]).toArray) := Lib.hid (by simp [bc, hn])
          go_wp2_with (first | (at_builtin; refine wpList_fr_lit rfl _ _ rfl rfl HB.out _ _ HC.out 2 2 rfl rfl (by have := HBL.out; omega) HBA.out ?_; intro v9 w9 hb9 hf9) | go_in)
          go_roundw
          case rel => exact ⟨q + 1, by omega, by go_num, Lib.hid (by rw [HQ.out, HE.out]; exact hb9), Lib.hid (HF.out.trans hf9)⟩
          case measure => simp [RowKit.intOf]; omega
        · have e92 : ((n : Int) == 92) = false := eqF h92
          by_cases h8 : n = 8
          · have HE := Lib.hid (escK (c := c) (k := 8) (x := 98) (by omega) (by simp))
            subst h8
            go_wp2_with (first | (at_builtin; refine wpList_fr_str rfl _ _ rfl rfl HB.out _ rfl (by have := HBL.out; show bs.length + 2 ≤ _; omega) HBA.out ?_; intro v9 w9 hb9 hf9) | go_in)
            go_roundw
            case rel => exact ⟨q + 1, by omega, by go_num, Lib.hid (by rw [HQ.out, HE.out]; exact hb9), Lib.hid (HF.out.trans hf9)⟩
            case measure => simp [RowKit.intOf]; omega
          · have e8 : ((n : Int) == 8) = false := eqF h8
            by_cases h9 : n = 9
            · have HE := Lib.hid (escK (c := c) (k := 9) (x := 116) (by omega) (by simp))
              subst h9
              go_wp2_with (first | (at_builtin; refine wpList_fr_str rfl _ _ rfl rfl HB.out _ rfl (by have := HBL.out; show bs.length + 2 ≤ _; omega) HBA.out ?_; intro v9 w9 hb9 hf9) | go_in)
              go_roundw
              case rel => exact ⟨q + 1, by omega, by go_num, Lib.hid (by rw [HQ.out, HE.out]; exact hb9), Lib.hid (HF.out.trans hf9)⟩
              case measure => simp [RowKit.intOf]; omega
            · have e9 : ((n : Int) == 9) = false := eqF h9
              by_cases h10 : n = 10
              · have HE := Lib.hid (escK (c := c) (k := 10) (x := 110) (by omega) (by simp))
                subst h10
                go_wp2_with (first | (at_builtin; refine wpList_fr_str rfl _ _ rfl rfl HB.out _ rfl (by have := HBL.out; show bs.length + 2 ≤ _; omega) HBA.out ?_; intro v9 w9 hb9 hf9) | go_in)
                go_roundw
                case rel => exact ⟨q + 1, by omega, by go_num, Lib.hid (by rw [HQ.out, HE.out]; exact hb9), Lib.hid (HF.out.trans hf9)⟩
                case measure => simp [RowKit.intOf]; omega
              · have e10 : ((n : Int) == 10) = false := eqF h10
                by_cases h12 : n = 12
                · have HE := Lib.hid (escK (c := c) (k := 12) (x := 102) (by omega) (by simp))
                  subst h12
                  go_wp2_with (first | (at_builtin; refine wpList_fr_str rfl _ _ rfl rfl HB.out _ rfl (by have := HBL.out; show bs.length + 2 ≤ _; omega) HBA.out ?_; intro v9 w9 hb9 hf9) | go_in)
                  go_roundw
                  case rel => exact ⟨q + 1, by omega, by go_num, Lib.hid (by rw [HQ.out, HE.out]; exact hb9), Lib.hid (HF.out.trans hf9)⟩
                  case measure => simp [RowKit.intOf]; omega
                · have e12 : ((n : Int) == 12) = false := eqF h12
                  by_cases h13 : n = 13
                  · have HE := Lib.hid (escK (c := c) (k := 13) (x := 114) (by omega) (by simp))
                    subst h13
                    go_wp2_with (first | (at_builtin; refine wpList_fr_str rfl _ _ rfl rfl HB.out _ rfl (by have := HBL.out; show bs.length + 2 ≤ _; omega) HBA.out ?_; intro v9 w9 hb9 hf9) | go_in)
                    go_roundw
                    case rel => exact ⟨q + 1, by omega, by go_num, Lib.hid (by rw [HQ.out, HE.out]; exact hb9), Lib.hid (HF.out.trans hf9)⟩
                    case measure => simp [RowKit.intOf]; omega
                  · have e13 : ((n : Int) == 13) = false := eqF h13
                    have HP : Hid (plainC c.toNat) := Lib.hid (by unfold plainC; omega)
                    by_cases h32 : n < 32
                    · have HE := Lib.hid (escU HP.out (by omega))
                      have i32 : (n : Int) < 32 := by omega
                      have hx16 : n / 16 < 16 := by omega
                      have hy16 : n % 16 < 16 := by omega
                      clear h34 h92 h8 h9 h10 h12 h13 h32
                      go_wp2_with (first | (at_builtin; refine wpList_fr_str rfl _ _ rfl rfl HB.out _ rfl (by have := HBL.out; show bs.length + 4 ≤ _; omega) HBA.out ?_; intro v8 w8 hb8 hf8) | go_in)
                      obtain ⟨x, hx⟩ : ∃ x, n / 16 = x := ⟨_, rfl⟩
                      obtain ⟨y, hy⟩ : ∃ y, n % 16 = y := ⟨_, rfl⟩
                      have d1 : (n : Int) / 16 = (x : Int) := by omega
                      have d2 : (n : Int).tdiv 16 = (x : Int) := by rw [Int.tdiv_eq_ediv_of_nonneg (by omega)]; omega
                      have d3 : (n : Int).tmod 16 = (y : Int) := by rw [Int.tmod_eq_emod_of_nonneg (by omega)]; omega
                      have d4 : IntKind.u8.wrap (x : Int) = (x : Int) := IntWalk.u8_in _ (by omega)
                      have d5 : IntKind.u8.wrap (y : Int) = (y : Int) := IntWalk.u8_in _ (by omega)
                      rw [hx] at hx16
                      rw [hy] at hy16
                      have b1 : (x : Int) < 16 := by omega
                      have b2 : (y : Int) < 16 := by omega
                      have HXY : Hid (esc c = [92, 117, 48, 48] ++ [hexDigit x, hexDigit y]) := Lib.hid (by rw [HE.out, hn, hx, hy]; rfl)
                      have HBL2 := Lib.hid (show (bs ++ [92, 117, 48, 48]).length + 2 ≤ 140737488355328 by have := HBL.out; simp; omega)
                      clear hx hy HE HP
                      go_region_law (refine step_fr_lit (by rfl) (.tmp 62) (.tmp 71) (by rfl) (by rfl) hb8.drew _ [hexDigit x, hexDigit y] (by rw [← hexS_at x hx16, ← hexS_at y hy16]; rfl) 2 2 (by rfl) rfl HBL2.out (Nat.le_trans HBA.out hf8.size) ?_; intro v9 w9 hb9 hf9)
                      all_goals
                        go_wp2
                        go_roundw
                        case rel => exact ⟨q + 1, by omega, by go_num, Lib.hid (by rw [HQ.out, HXY.out, ← List.append_assoc]; exact hb9), Lib.hid ((HF.out.trans hf8).drew.trans hf9)⟩
                        case measure => simp [RowKit.intOf]; omega
                    · have HE := Lib.hid (escP HP.out (by omega))
                      have i32 : ¬ (n : Int) < 32 := by omega
                      have HC : Hid (#[Value.int .u8 (n : Int)] = (bc [c]).toArray) := Lib.hid (by simp [bc, hn])
                      clear h34 h92 h8 h9 h10 h12 h13 h32
                      go_wp2_with (first | (at_builtin; refine wpList_fr_lit rfl _ _ rfl rfl HB.out _ _ HC.out 1 1 rfl rfl (by have := HBL.out; omega) HBA.out ?_; intro v9 w9 hb9 hf9) | go_in)
                      go_roundw
                      case rel => exact ⟨q + 1, by omega, by go_num, Lib.hid (by rw [HQ.out, HE.out]; exact hb9), Lib.hid (HF.out.trans hf9)⟩
                      case measure => simp [RowKit.intOf]; omega
    · obtain rfl : q = s.size := by omega
      have hT : s.data.toList.take s.size = s.data.toList := List.take_of_length_le (by rw [bytes_len]; exact Nat.le_refl _)
      rw [hT] at HB
      have hbl : (34 :: escs s.data.toList).length ≤ 100663297 := by
        have h1 := escs_len s.data.toList
        rw [bytes_len] at h1
        rw [List.length_cons]
        have := HS.out
        omega
      have HBL := Lib.hid hbl
      have HBA : Hid (w.heap.size ≤ wr.heap.size) := Lib.hid HF.out.size
      have HC : Hid (#[Value.int .u8 34] = (bc [34]).toArray) := Lib.hid rfl
      obtain ⟨bs, hbs⟩ : ∃ bs, 34 :: escs s.data.toList = bs := ⟨_, rfl⟩
      have HQ : Hid (quo s.data.toList = bs ++ [34]) := Lib.hid (by rw [← hbs]; rfl)
      rw [hbs] at HB HBL
      clear hT hbl hbs
      go_wp2_with (first | (at_builtin; refine wpList_fr_lit rfl _ _ rfl rfl HB.out _ _ HC.out 1 1 rfl rfl (by have := HBL.out; omega) HBA.out ?_; intro v9 w9 hb9 hf9; have hst := hb9.str (by simp)) | go_in)
      go_ret
      exact ⟨by rw [HQ.out]; rfl, (HF.out.trans hf9).bel⟩
end Go.Proofs.YtnckhmfajjcgpaaGreatDoor.Mt
namespace Go.Proofs.YtnckhmfajjcgpaaGreatDoor.Mt
set_option linter.unusedVariables false
open Go.RowKit Go.Lib
theorem str_row (w : World) (s : ByteArray) (cap : Nat) (fr : Nat × Nat) : ∀ j u, (bc s.data.toList)[j]? = some u → (w.alloc (.cells (bytesRow s cap) 5 fr)).cell? ((⟨w.heap.size, 0, none⟩ : Addr).add j) = some u := by
  intro j u hj
  have hlt : j < s.data.toList.length := by
    rcases Nat.lt_or_ge j (bc s.data.toList).length with h | h
    · rwa [bc_len] at h
    · rw [List.getElem?_eq_none h] at hj; cases hj
  rw [bc_get _ j hlt] at hj
  rw [add_lit, Nat.zero_add, World.cell?_alloc_mark, bytesRow_at s cap j (by simpa using hlt), ← hj]
  rfl
theorem dec_pos (n : Nat) : 1 ≤ (decDigits n).length := by
  rw [decDigits]
  split <;> simp
theorem itoa_pos (i : Int) : 1 ≤ (itoa i).length := by
  unfold itoa
  split
  · simp
  · exact dec_pos _
theorem wrt_ne (x : V) : wrt x ≠ [] := by
  cases x with
  | mk k i t ns xs =>
    intro h
    have hl : (wrt (.mk k i t ns xs)).length = 0 := by rw [h]; rfl
    rw [wrt_mk] at hl
    repeat' split at hl
    all_goals first | (simp at hl; done) | skip
    · have := itoa_pos i; omega
    · unfold quo at hl; simp at hl
/-- what the document's written leaves -/
def WrP (x : V) (w : World) : Ending → World → Prop := fun e w' => ∃ ad c, e = .returned (.slice (some ad) (wrt x).length c) ∧ (∀ j u, (bc (wrt x))[j]? = some u → w'.cell? (ad.add j) = some u) ∧ Below w.heap.size w w'
theorem wrP_lit {x : V} {w w1 : World} (hb : Below w.heap.size w w1) (ns : List UInt8) (cs : Array Value) (hc : cs = (bc ns).toArray) (hx : wrt x = ns) (m : Nat) (hm : ns.length = m) (fr : Nat × Nat) :
    WrP x w (.returned (.slice (some ⟨w1.heap.size, 0, none⟩) m m)) (w1.alloc (.cells cs 5 fr)) := by
  subst hx
  exact ⟨_, m, by rw [hm], lit_news w1 _ cs hc fr, hb.alloc hb.size _⟩
theorem wrP_str {x : V} {w w1 : World} (hb : Below w.heap.size w w1) (s : ByteArray) (hx : wrt x = s.data.toList) (c cap : Nat) (fr : Nat × Nat) :
    WrP x w (.returned (.slice (some ⟨w1.heap.size, 0, none⟩) s.size c)) (w1.drew.alloc (.cells (bytesRow s cap) 5 fr)) := by
  refine ⟨⟨w1.heap.size, 0, none⟩, c, by rw [hx, bytes_len], ?_, hb.drew.alloc hb.size _⟩
  rw [hx]
  exact str_row w1.drew s cap fr
theorem wrP_own {x : V} {w w1 : World} {v : Value} {B : Nat} (h : Bs w1 B v (wrt x)) (hb : Below w.heap.size w w1) : WrP x w (.returned v) w1 := by
  obtain ⟨g, c, rfl, _, _, hc⟩ := h.form (wrt_ne x)
  exact ⟨_, c, rfl, hc, hb⟩
set_option maxRecDepth 100000 in
set_option maxHeartbeats 16000000 in
theorem rwr_any (m : Nat) : ∀ (x : V) (cs : List Value) (w : World), SizeOf.sizeOf x < m → x.At w w.heap.size cs → x.sz ≤ 4194304 → x.rng → x.ok →
    Calls Tryz.prog 70 #[.agg cs.toArray] w (WrP x w) := by
  induction m with
  | zero => intro x cs w h; omega
  | succ m ih =>
    rintro ⟨k, i, t, ns, xs⟩ cs w hsm hx hsz hrn hok
    have HWL := Lib.hid (show (wrt (.mk k i t ns xs)).length ≤ 104857600 by have := wrt_len _ hrn; omega)
    rw [V.at_mk] at hx
    obtain ⟨An, cn, Ai, ci, rfl, ⟨hns, hnc⟩, hxs⟩ := hx
    rw [V.ok_mk] at hok
    rw [V.rng_mk] at hrn
    obtain ⟨⟨hk0, hk6⟩, hvt, hnm, hoks⟩ := hok
    obtain ⟨hri, hrx⟩ := hrn
    have hszz : 1 + t.size + nsz ns + V.szs xs ≤ 4194304 := by simpa [V.sz] using hsz
    have IH := Lib.hid (fun (j : Nat) (h : j < xs.length) (cs : List Value) (w : World) (hx : xs[j].At w w.heap.size cs) =>
      ih xs[j] cs w (by have := V.sizeOf_at h; simp only [V.mk.sizeOf_spec] at hsm; omega) hx (by have := V.szs_at h; omega) (V.rngs_at h hrx) (V.oks_at h hoks))
    have HNQ := Lib.hid (fun (j : Nat) (h : j < ns.length) (w : World) => rquo_any w ns[j] (by have := nsz_at h; omega))
    have HTQ := Lib.hid (fun (w : World) => rquo_any w t (by omega))
    have HDG := Lib.hid (fun (w : World) => digits_any w i hri.1 hri.2)
    have HNM := Lib.hid hnm
    clear hsm hsz hszz ih hvt hnm hoks hri hrx
    obtain ⟨nn, hnn⟩ : ∃ n, ns.length = n := ⟨_, rfl⟩
    obtain ⟨ni, hni⟩ : ∃ n, xs.length = n := ⟨_, rfl⟩
    have b1 := hns.1
    have b3 := hxs.1
    have NS := Lib.hid hns
    have XS := Lib.hid hxs
    have HNN := Lib.hid hnn
    have HNI := Lib.hid hni
    rw [hnn] at hnc b1 ⊢
    rw [hni] at b3 ⊢
    clear hns hxs hnn hni
    have HK := Lib.hid (show k = 0 ∨ k = 1 ∨ k = 2 ∨ k = 3 ∨ k = 4 ∨ k = 5 ∨ k = 6 by omega)
    clear hk0 hk6
    go_enter Tryz.func70, Tryz.ntmps70
    go_upto_region 1 with fail
    have hB := Blk.new w 29 #[.int .i64 k, .int .i64 i, .string t, .slice An nn cn, .slice Ai ni ci]
    have HF0 := Lib.hid ((Fr.refl w.heap.size w).alloc (Nat.le_refl _) (.cells #[.int .i64 k, .int .i64 i, .string t, .slice An nn cn, .slice Ai ni ci] 29))
    obtain ⟨w1, hw1⟩ : ∃ w1, w.alloc (.cells #[.int .i64 k, .int .i64 i, .string t, .slice An nn cn, .slice Ai ni ci] 29) = w1 := ⟨_, rfl⟩
    obtain ⟨g, hg⟩ : ∃ g, w.heap.size = g := ⟨_, rfl⟩
    have HG := Lib.hid hg
    rw [hw1] at hB HF0 ⊢
    have HFB := Lib.hid HF0.out.bel
    rw [hg] at hB HF0 ⊢
    clear hw1 hg
    have HBK := Lib.hid hB
    have c0 : w1.cell? ⟨g, 0, none⟩ = some (.int .i64 k) := hB.cell 0
    have c1 : w1.cell? ⟨g, 1, none⟩ = some (.int .i64 i) := hB.cell 1
    have c2 : w1.cell? ⟨g, 2, none⟩ = some (.string t) := hB.cell 2
    have c4 : w1.cell? ⟨g, 4, none⟩ = some (.slice Ai ni ci) := hB.cell 4
    clear hB
    have HCV := Lib.hid (fun (w : World) (s : ByteArray) => run_bytes_of_string (P := Tryz.prog) w 9 152 5 s Tryz.underlying9 Tryz.underlying152 Tryz.underlying5)
    have hci := fun (w : World) (C : Array Value) (n c : Nat) => run_convert_bytes_const (P := Tryz.prog) w 152 5 C n c Tryz.underlying152 Tryz.underlying5
    have e0 : (w1.alloc (.cells #[.int .u8 91] 5)).cell? ⟨g, 0, none⟩ = some (.int .i64 k) := (HBK.out.alloc _).cell 0
    rcases HK.out with rfl | rfl | rfl | rfl | rfl | rfl | rfl
    · go_wp2
      go_ret
      exact wrP_lit HFB.out [110, 117, 108, 108] _ rfl (by rw [wrt_mk]; rfl) 4 rfl _
    · go_wp2
      go_ret
      exact wrP_lit HFB.out [102, 97, 108, 115, 101] _ rfl (by rw [wrt_mk]; rfl) 5 rfl _
    · go_wp2
      go_ret
      exact wrP_lit HFB.out [116, 114, 117, 101] _ rfl (by rw [wrt_mk]; rfl) 4 rfl _
    · obtain ⟨S, hS⟩ : ∃ S : ByteArray, (⟨(itoa i).toArray⟩ : ByteArray) = S := ⟨_, rfl⟩
      have HD := Lib.hid (HDG.out w1)
      rw [hS] at HD
      have HS : Hid (wrt (.mk 3 i t ns xs) = S.data.toList) := Lib.hid (by rw [wrt_mk, ← hS]; rfl)
      clear hS
      go_wp2_with (first | (go_at_call 72; refine HD.out.mono ?_; rintro e w9 ⟨rfl, hb9⟩; have hcv := HCV.out w9 S) | go_in)
      go_ret
      exact wrP_str (bel_next HFB.out hb9) S HS.out _ _ _
    · obtain ⟨S, hS⟩ : ∃ S : ByteArray, (⟨(quo t.data.toList).toArray⟩ : ByteArray) = S := ⟨_, rfl⟩
      have HD := Lib.hid (HTQ.out w1)
      rw [hS] at HD
      have HS : Hid (wrt (.mk 4 i t ns xs) = S.data.toList) := Lib.hid (by rw [wrt_mk, ← hS]; rfl)
      clear hS
      go_wp2_with (first | (go_at_call 128; refine HD.out.mono ?_; rintro e w9 ⟨rfl, hb9⟩; have hcv := HCV.out w9 S) | go_in)
      go_ret
      exact wrP_str (bel_next HFB.out hb9) S HS.out _ _ _
    · have HC44 : Hid (#[Value.int .u8 44] = (bc [44]).toArray) := Lib.hid rfl
      have HC58 : Hid (#[Value.int .u8 58] = (bc [58]).toArray) := Lib.hid rfl
      have HCE : Hid (#[Value.int .u8 93] = (bc [93]).toArray) := Lib.hid rfl
      obtain ⟨WR, hWR⟩ : ∃ WR, wrt (.mk 5 i t ns xs) = WR := ⟨_, rfl⟩
      have HWE : Hid (91 :: (wrts 5 ns 0 xs ++ [93]) = WR) := Lib.hid (by rw [← hWR, wrt_mk]; rfl)
      rw [hWR] at HWL
      have HWR := Lib.hid hWR
      clear hWR
      go_wp2
      have HB1 := Lib.hid (Bs.lit (B := g) w1 (by have := HF0.out.size; have := HG.out; omega) [91] #[.int .u8 91] rfl (by decide))
      have HF1 := Lib.hid (HF0.out.alloc (by have := HF0.out.size; have := HG.out; omega) (.cells #[.int .u8 91] 5))
      have HK1 := Lib.hid (HBK.out.alloc (.cells #[.int .u8 91] 5))
      obtain ⟨w2, hw2⟩ : ∃ w2, w1.alloc (.cells #[.int .u8 91] 5) = w2 := ⟨_, rfl⟩
      rw [hw2] at HB1 HF1 HK1 ⊢
      clear hw2 c0 c1 c2 c4 e0 hci
      go_loopw [3, 5] (fun v ix wr => ∃ (q : Nat) (bs : List UInt8), q ≤ ni ∧ ix = .int .i64 q ∧ Hid (Bs wr g v bs) ∧ Hid (bs ++ (wrts 5 ns q (xs.drop q) ++ [93]) = WR) ∧ Hid (Fr g w wr) ∧ Hid (Blk wr g 29 #[.int .i64 5, .int .i64 i, .string t, .slice An nn cn, .slice Ai ni ci])) (fun _ i _ => ni - (RowKit.intOf i).toNat)
      case atStart => exact ⟨0, [91], Nat.zero_le _, rfl, HB1, HWE, HF1, HK1⟩
      case round =>
        clear HB1 HF1 HK1 HF0 HFB HBK HWE
        obtain ⟨q, bs, hq, rfl, HB, HQ, HF, HKB⟩ := hrel
        have HBA : Hid (g ≤ wr.heap.size) := Lib.hid (by have := HF.out.size; have := HG.out; omega)
        have HBL : Hid (bs.length ≤ 104857600) := Lib.hid (by have := HWL.out; rw [← HQ.out] at this; simp only [List.length_append] at this; omega)
        by_cases hlt : q < ni
        · have hkl : q < xs.length := by have := HNI.out; omega
          have HQ2 := Lib.hid ((congrArg (fun z => bs ++ (z ++ [93])) (wrts_at (k := 5) (ns := ns) hkl)).symm.trans HQ.out)
          clear HQ
          obtain ⟨b, off, e0, e1, e2, e3, e4, rfl, hb, hV, p0, p1, p2, p3, p4⟩ := XS.out.val hkl
          have hbg : b < g := by have := HG.out; omega
          obtain ⟨f1, f2, f3, f4, f5, f6, f7, f8, f9, hform⟩ := hV.form
          injection hform with z0 hform
          injection hform with z1 hform
          injection hform with z2 hform
          injection hform with z3 hform
          injection hform with z4 hform
          subst z0 z1 z2 z3 z4
          clear hform
          have P0 := Lib.hid p0
          have P1 := Lib.hid p1
          have P2 := Lib.hid p2
          have P3 := Lib.hid p3
          have P4 := Lib.hid p4
          clear p0 p1 p2 p3 p4
          have HV := Lib.hid hV
          clear hV
          obtain ⟨XQ, hXQ⟩ : ∃ XQ, xs[q] = XQ := ⟨_, rfl⟩
          have HI := Lib.hid (fun (w9 : World) (hb9 : Below g w w9) => IH.out q hkl _ w9 ((HV.out.below (HG.out.symm ▸ hb9)).more hb9.size))
          rw [hXQ] at HI HQ2
          clear hXQ HV
          have hli : (q : Int) < (ni : Int) := by omega
          have HSEP : Hid (sep 5 ns q = (if 0 < q then [44] else [])) := Lib.hid (by unfold sep; rw [if_neg (show ¬ ((5 : Int) = 6) by decide)]; simp)
          by_cases hq0 : q = 0
          · have hiq : ¬ (0 : Int) < (q : Int) := by omega
            have HS2 : Hid (sep 5 ns q = []) := Lib.hid (by rw [HSEP.out, if_neg (show ¬ 0 < q by omega)])
            rw [HS2.out] at HQ2
            clear HSEP HS2 hq0
            have c0a : wr.cell? ⟨g, 0, none⟩ = some (.int .i64 5) := HKB.out.cell 0
            have c4a : wr.cell? ⟨g, 4, none⟩ = some (.slice (some ⟨b, off, none⟩) ni ci) := HKB.out.cell 4
            have q0a := (HF.out.bel.cell (p := ⟨b, _, none⟩) hbg).trans P0.out
            have q1a := (HF.out.bel.cell (p := ⟨b, _, none⟩) hbg).trans P1.out
            have q2a := (HF.out.bel.cell (p := ⟨b, _, none⟩) hbg).trans P2.out
            have q3a := (HF.out.bel.cell (p := ⟨b, _, none⟩) hbg).trans P3.out
            have q4a := (HF.out.bel.cell (p := ⟨b, _, none⟩) hbg).trans P4.out
            go_wp2_with (first
              | (go_at_call 70; refine (HI.out wr HF.out.bel).mono ?_
                 rintro e_b w_b ⟨ad, cc, rfl, hcell, hb_b⟩
                 have HCELL := Lib.hid hcell
                 have Bb := Lib.hid (HB.out.next hb_b); have Fb := Lib.hid (HF.out.trans (Fr.of_next hb_b HBA.out)); have Kb := Lib.hid (HKB.out.below hb_b HKB.out.lt); have BAb := Lib.hid (Nat.le_trans HBA.out hb_b.size)
                 have c0b : w_b.cell? ⟨g, 0, none⟩ = some (.int .i64 5) := Kb.out.cell 0
                 have c4b : w_b.cell? ⟨g, 4, none⟩ = some (.slice (some ⟨b, off, none⟩) ni ci) := Kb.out.cell 4
                 have q0b := (Fb.out.bel.cell (p := ⟨b, _, none⟩) hbg).trans P0.out
                 have q1b := (Fb.out.bel.cell (p := ⟨b, _, none⟩) hbg).trans P1.out
                 have q2b := (Fb.out.bel.cell (p := ⟨b, _, none⟩) hbg).trans P2.out
                 have q3b := (Fb.out.bel.cell (p := ⟨b, _, none⟩) hbg).trans P3.out
                 have q4b := (Fb.out.bel.cell (p := ⟨b, _, none⟩) hbg).trans P4.out
                 clear c0a c4a q0a q1a q2a q3a q4a hb_b hcell
                 have LBb : Hid ((bs).length + (wrt XQ).length ≤ 140737488355328) := Lib.hid (by have := HWL.out; rw [← HQ2.out] at this; simp only [List.length_append, List.length_cons, List.length_nil, bytes_len] at this ⊢; omega))
              | (at_builtin; refine wpList_fr_row rfl _ _ rfl rfl Bb.out ad _ cc (wrt XQ) rfl rfl HCELL.out LBb.out BAb.out ?_
                 intro v_c w_c hb_c hf_c
                 have Bc := Lib.hid hb_c; have Fc := Lib.hid (Fb.out.trans hf_c); have Kc := Lib.hid (hf_c.blk Kb.out (by decide)))
              | go_in)
            go_roundw
            case rel => exact ⟨q + 1, _, by omega, by go_num, Bc, Lib.hid (by rw [← HQ2.out]; simp), Fc, Kc⟩
            case measure => simp [RowKit.intOf]; omega
          · have hiq : (0 : Int) < (q : Int) := by omega
            have HS2 : Hid (sep 5 ns q = [44]) := Lib.hid (by rw [HSEP.out, if_pos (show 0 < q by omega)])
            rw [HS2.out] at HQ2
            clear HSEP HS2 hq0
            have c0a : wr.cell? ⟨g, 0, none⟩ = some (.int .i64 5) := HKB.out.cell 0
            have c4a : wr.cell? ⟨g, 4, none⟩ = some (.slice (some ⟨b, off, none⟩) ni ci) := HKB.out.cell 4
            have q0a := (HF.out.bel.cell (p := ⟨b, _, none⟩) hbg).trans P0.out
            have q1a := (HF.out.bel.cell (p := ⟨b, _, none⟩) hbg).trans P1.out
            have q2a := (HF.out.bel.cell (p := ⟨b, _, none⟩) hbg).trans P2.out
            have q3a := (HF.out.bel.cell (p := ⟨b, _, none⟩) hbg).trans P3.out
            have q4a := (HF.out.bel.cell (p := ⟨b, _, none⟩) hbg).trans P4.out
            have LBa : Hid ((bs).length + 1 ≤ 140737488355328) := Lib.hid (by have := HWL.out; rw [← HQ2.out] at this; simp only [List.length_append, List.length_cons, List.length_nil, bytes_len] at this ⊢; omega)
            go_wp2_with (first
              | (at_builtin; refine wpList_fr_lit rfl _ _ rfl rfl HB.out _ _ HC44.out 1 1 rfl rfl LBa.out HBA.out ?_
                 intro v_b w_b hb_b hf_b
                 have Bb := Lib.hid hb_b; have Fb := Lib.hid (HF.out.trans hf_b); have Kb := Lib.hid (hf_b.blk HKB.out (by decide)); have BAb := Lib.hid (Nat.le_trans HBA.out hf_b.size)
                 have c0b : w_b.cell? ⟨g, 0, none⟩ = some (.int .i64 5) := Kb.out.cell 0
                 have c4b : w_b.cell? ⟨g, 4, none⟩ = some (.slice (some ⟨b, off, none⟩) ni ci) := Kb.out.cell 4
                 have q0b := (Fb.out.bel.cell (p := ⟨b, _, none⟩) hbg).trans P0.out
                 have q1b := (Fb.out.bel.cell (p := ⟨b, _, none⟩) hbg).trans P1.out
                 have q2b := (Fb.out.bel.cell (p := ⟨b, _, none⟩) hbg).trans P2.out
                 have q3b := (Fb.out.bel.cell (p := ⟨b, _, none⟩) hbg).trans P3.out
                 have q4b := (Fb.out.bel.cell (p := ⟨b, _, none⟩) hbg).trans P4.out
                 clear c0a c4a q0a q1a q2a q3a q4a hb_b hf_b)
              | (go_at_call 70; refine (HI.out w_b Fb.out.bel).mono ?_
                 rintro e_c w_c ⟨ad, cc, rfl, hcell, hb_c⟩
                 have HCELL := Lib.hid hcell
                 have Bc := Lib.hid (Bb.out.next hb_c); have Fc := Lib.hid (Fb.out.trans (Fr.of_next hb_c BAb.out)); have Kc := Lib.hid (Kb.out.below hb_c Kb.out.lt); have BAc := Lib.hid (Nat.le_trans BAb.out hb_c.size)
                 have c0c : w_c.cell? ⟨g, 0, none⟩ = some (.int .i64 5) := Kc.out.cell 0
                 have c4c : w_c.cell? ⟨g, 4, none⟩ = some (.slice (some ⟨b, off, none⟩) ni ci) := Kc.out.cell 4
                 have q0c := (Fc.out.bel.cell (p := ⟨b, _, none⟩) hbg).trans P0.out
                 have q1c := (Fc.out.bel.cell (p := ⟨b, _, none⟩) hbg).trans P1.out
                 have q2c := (Fc.out.bel.cell (p := ⟨b, _, none⟩) hbg).trans P2.out
                 have q3c := (Fc.out.bel.cell (p := ⟨b, _, none⟩) hbg).trans P3.out
                 have q4c := (Fc.out.bel.cell (p := ⟨b, _, none⟩) hbg).trans P4.out
                 clear c0b c4b q0b q1b q2b q3b q4b hb_c hcell
                 have LBc : Hid ((bs ++ [44]).length + (wrt XQ).length ≤ 140737488355328) := Lib.hid (by have := HWL.out; rw [← HQ2.out] at this; simp only [List.length_append, List.length_cons, List.length_nil, bytes_len] at this ⊢; omega))
              | (at_builtin; refine wpList_fr_row rfl _ _ rfl rfl Bc.out ad _ cc (wrt XQ) rfl rfl HCELL.out LBc.out BAc.out ?_
                 intro v_d w_d hb_d hf_d
                 have Bd := Lib.hid hb_d; have Fd := Lib.hid (Fc.out.trans hf_d); have Kd := Lib.hid (hf_d.blk Kc.out (by decide)))
              | go_in)
            go_roundw
            case rel => exact ⟨q + 1, _, by omega, by go_num, Bd, Lib.hid (by rw [← HQ2.out]; simp), Fd, Kd⟩
            case measure => simp [RowKit.intOf]; omega
        · obtain rfl : q = ni := by omega
          have HQ3 : Hid (bs ++ [93] = WR) := Lib.hid (by rw [← HQ.out, ← HNI.out, wrts_end]; rfl)
          have c4 : wr.cell? ⟨g, 4, none⟩ = some (.slice Ai q ci) := HKB.out.cell 4
          have LB : Hid (bs.length + 1 ≤ 140737488355328) := Lib.hid (by have := HBL.out; omega)
          go_wp2_with (first | (at_builtin; refine wpList_fr_lit rfl _ _ rfl rfl HB.out _ _ HCE.out 1 1 rfl rfl LB.out HBA.out ?_; intro v9 w9 hb9 hf9) | go_in)
          go_ret
          rw [HQ3.out, ← HWR.out] at hb9
          exact wrP_own hb9 (HG.out.symm ▸ (HF.out.trans hf9).bel)
    · have HC44 : Hid (#[Value.int .u8 44] = (bc [44]).toArray) := Lib.hid rfl
      have HC58 : Hid (#[Value.int .u8 58] = (bc [58]).toArray) := Lib.hid rfl
      have HCE : Hid (#[Value.int .u8 125] = (bc [125]).toArray) := Lib.hid rfl
      obtain ⟨WR, hWR⟩ : ∃ WR, wrt (.mk 6 i t ns xs) = WR := ⟨_, rfl⟩
      have HWE : Hid (123 :: (wrts 6 ns 0 xs ++ [125]) = WR) := Lib.hid (by rw [← hWR, wrt_mk]; rfl)
      rw [hWR] at HWL
      have HWR := Lib.hid hWR
      clear hWR
      go_wp2
      have HB1 : Hid (Bs ((w1.alloc (.cells #[.int .u8 91] 5)).alloc (.cells #[.int .u8 123] 5)) g (.slice (some ⟨w1.heap.size + 1, 0, none⟩) 1 1) [123]) := Lib.hid (by have := Bs.lit (B := g) (w1.alloc (.cells #[.int .u8 91] 5)) (by have := HF0.out.size; have := HG.out; simp; omega) [123] #[.int .u8 123] rfl (by decide); simpa using this)
      have HF1 := Lib.hid ((HF0.out.alloc (by have := HF0.out.size; have := HG.out; omega) (.cells #[.int .u8 91] 5)).alloc (by have := HF0.out.size; have := HG.out; simp; omega) (.cells #[.int .u8 123] 5))
      have HK1 := Lib.hid ((HBK.out.alloc (.cells #[.int .u8 91] 5)).alloc (.cells #[.int .u8 123] 5))
      obtain ⟨w2, hw2⟩ : ∃ w2, (w1.alloc (.cells #[.int .u8 91] 5)).alloc (.cells #[.int .u8 123] 5) = w2 := ⟨_, rfl⟩
      rw [hw2] at HB1 HF1 HK1 ⊢
      clear hw2 c0 c1 c2 c4 e0 hci
      go_loopw [3, 5] (fun v ix wr => ∃ (q : Nat) (bs : List UInt8), q ≤ ni ∧ ix = .int .i64 q ∧ Hid (Bs wr g v bs) ∧ Hid (bs ++ (wrts 6 ns q (xs.drop q) ++ [125]) = WR) ∧ Hid (Fr g w wr) ∧ Hid (Blk wr g 29 #[.int .i64 6, .int .i64 i, .string t, .slice An nn cn, .slice Ai ni ci])) (fun _ i _ => ni - (RowKit.intOf i).toNat)
      case atStart => exact ⟨0, [123], Nat.zero_le _, rfl, HB1, HWE, HF1, HK1⟩
      case round =>
        clear HB1 HF1 HK1 HF0 HFB HBK HWE
        obtain ⟨q, bs, hq, rfl, HB, HQ, HF, HKB⟩ := hrel
        have HBA : Hid (g ≤ wr.heap.size) := Lib.hid (by have := HF.out.size; have := HG.out; omega)
        have HBL : Hid (bs.length ≤ 104857600) := Lib.hid (by have := HWL.out; rw [← HQ.out] at this; simp only [List.length_append] at this; omega)
        by_cases hlt : q < ni
        · have hkl : q < xs.length := by have := HNI.out; omega
          have HQ2 := Lib.hid ((congrArg (fun z => bs ++ (z ++ [125])) (wrts_at (k := 6) (ns := ns) hkl)).symm.trans HQ.out)
          clear HQ
          obtain ⟨b, off, e0, e1, e2, e3, e4, rfl, hb, hV, p0, p1, p2, p3, p4⟩ := XS.out.val hkl
          have hbg : b < g := by have := HG.out; omega
          obtain ⟨f1, f2, f3, f4, f5, f6, f7, f8, f9, hform⟩ := hV.form
          injection hform with z0 hform
          injection hform with z1 hform
          injection hform with z2 hform
          injection hform with z3 hform
          injection hform with z4 hform
          subst z0 z1 z2 z3 z4
          clear hform
          have P0 := Lib.hid p0
          have P1 := Lib.hid p1
          have P2 := Lib.hid p2
          have P3 := Lib.hid p3
          have P4 := Lib.hid p4
          clear p0 p1 p2 p3 p4
          have HV := Lib.hid hV
          clear hV
          obtain ⟨XQ, hXQ⟩ : ∃ XQ, xs[q] = XQ := ⟨_, rfl⟩
          have HI := Lib.hid (fun (w9 : World) (hb9 : Below g w w9) => IH.out q hkl _ w9 ((HV.out.below (HG.out.symm ▸ hb9)).more hb9.size))
          rw [hXQ] at HI HQ2
          clear hXQ HV
          have hli : (q : Int) < (ni : Int) := by omega
          have hqn : q < ns.length := by have := (HNM.out (by first | rfl | trivial)).1; omega
          obtain ⟨bn, offn, rfl, hbn, hcn⟩ := NS.out.str hqn
          have hbng : bn < g := by have := HG.out; omega
          have Y0 := Lib.hid (hcn q hqn)
          have hqi : (q : Int) < (nn : Int) := by have := HNN.out; omega
          have hgd : ns.getD q ByteArray.empty = ns[q] := by rw [List.getD_eq_getElem?_getD, List.getElem?_eq_getElem hqn, Option.getD_some]
          have HNQ2 := Lib.hid (HNQ.out q hqn)
          obtain ⟨z, hz⟩ : ∃ z, ns[q] = z := ⟨_, rfl⟩
          rw [hz] at Y0 HNQ2 hgd
          obtain ⟨S, hS⟩ : ∃ S : ByteArray, (⟨(quo z.data.toList).toArray⟩ : ByteArray) = S := ⟨_, rfl⟩
          have HSS : Hid (S.data.toList = quo z.data.toList) := Lib.hid (by rw [← hS])
          rw [hS] at HNQ2
          have HSEP : Hid (sep 6 ns q = (if 0 < q then [44] else []) ++ (S.data.toList ++ [58])) := Lib.hid (by unfold sep; rw [if_pos rfl, hgd, HSS.out])
          clear hz hS hcn hgd
          by_cases hq0 : q = 0
          · have hiq : ¬ (0 : Int) < (q : Int) := by omega
            have HS2 : Hid (sep 6 ns q = [] ++ (S.data.toList ++ [58])) := Lib.hid (by rw [HSEP.out, if_neg (show ¬ 0 < q by omega)])
            rw [HS2.out] at HQ2
            clear HSEP HS2 hq0
            have c0a : wr.cell? ⟨g, 0, none⟩ = some (.int .i64 6) := HKB.out.cell 0
            have c3a : wr.cell? ⟨g, 3, none⟩ = some (.slice (some ⟨bn, offn, none⟩) nn cn) := HKB.out.cell 3
            have c4a : wr.cell? ⟨g, 4, none⟩ = some (.slice (some ⟨b, off, none⟩) ni ci) := HKB.out.cell 4
            have y0a := (HF.out.bel.cell (p := ⟨bn, _, none⟩) hbng).trans Y0.out
            have q0a := (HF.out.bel.cell (p := ⟨b, _, none⟩) hbg).trans P0.out
            have q1a := (HF.out.bel.cell (p := ⟨b, _, none⟩) hbg).trans P1.out
            have q2a := (HF.out.bel.cell (p := ⟨b, _, none⟩) hbg).trans P2.out
            have q3a := (HF.out.bel.cell (p := ⟨b, _, none⟩) hbg).trans P3.out
            have q4a := (HF.out.bel.cell (p := ⟨b, _, none⟩) hbg).trans P4.out
            go_wp2_with (first
              | (go_at_call 128; refine (HNQ2.out wr).mono ?_
                 rintro e_b w_b ⟨rfl, hb_b⟩
                 have Bb := Lib.hid (HB.out.next hb_b); have Fb := Lib.hid (HF.out.trans (Fr.of_next hb_b HBA.out)); have Kb := Lib.hid (HKB.out.below hb_b HKB.out.lt); have BAb := Lib.hid (Nat.le_trans HBA.out hb_b.size)
                 have c0b : w_b.cell? ⟨g, 0, none⟩ = some (.int .i64 6) := Kb.out.cell 0
                 have c3b : w_b.cell? ⟨g, 3, none⟩ = some (.slice (some ⟨bn, offn, none⟩) nn cn) := Kb.out.cell 3
                 have c4b : w_b.cell? ⟨g, 4, none⟩ = some (.slice (some ⟨b, off, none⟩) ni ci) := Kb.out.cell 4
                 have y0b := (Fb.out.bel.cell (p := ⟨bn, _, none⟩) hbng).trans Y0.out
                 have q0b := (Fb.out.bel.cell (p := ⟨b, _, none⟩) hbg).trans P0.out
                 have q1b := (Fb.out.bel.cell (p := ⟨b, _, none⟩) hbg).trans P1.out
                 have q2b := (Fb.out.bel.cell (p := ⟨b, _, none⟩) hbg).trans P2.out
                 have q3b := (Fb.out.bel.cell (p := ⟨b, _, none⟩) hbg).trans P3.out
                 have q4b := (Fb.out.bel.cell (p := ⟨b, _, none⟩) hbg).trans P4.out
                 clear c0a c4a q0a q1a q2a q3a q4a c3a y0a hb_b
                 have LBb : Hid ((bs).length + S.size ≤ 140737488355328) := Lib.hid (by have := HWL.out; rw [← HQ2.out] at this; simp only [List.length_append, List.length_cons, List.length_nil, bytes_len] at this ⊢; omega))
              | (at_builtin; refine wpList_fr_str rfl _ _ rfl rfl Bb.out S rfl LBb.out BAb.out ?_
                 intro v_c w_c hb_c hf_c
                 have Bc := Lib.hid hb_c; have Fc := Lib.hid (Fb.out.trans hf_c); have Kc := Lib.hid (hf_c.blk Kb.out (by decide)); have BAc := Lib.hid (Nat.le_trans BAb.out hf_c.size)
                 have c0c : w_c.cell? ⟨g, 0, none⟩ = some (.int .i64 6) := Kc.out.cell 0
                 have c3c : w_c.cell? ⟨g, 3, none⟩ = some (.slice (some ⟨bn, offn, none⟩) nn cn) := Kc.out.cell 3
                 have c4c : w_c.cell? ⟨g, 4, none⟩ = some (.slice (some ⟨b, off, none⟩) ni ci) := Kc.out.cell 4
                 have y0c := (Fc.out.bel.cell (p := ⟨bn, _, none⟩) hbng).trans Y0.out
                 have q0c := (Fc.out.bel.cell (p := ⟨b, _, none⟩) hbg).trans P0.out
                 have q1c := (Fc.out.bel.cell (p := ⟨b, _, none⟩) hbg).trans P1.out
                 have q2c := (Fc.out.bel.cell (p := ⟨b, _, none⟩) hbg).trans P2.out
                 have q3c := (Fc.out.bel.cell (p := ⟨b, _, none⟩) hbg).trans P3.out
                 have q4c := (Fc.out.bel.cell (p := ⟨b, _, none⟩) hbg).trans P4.out
                 clear c0b c4b q0b q1b q2b q3b q4b c3b y0b hb_c hf_c
                 have LBc : Hid ((bs ++ S.data.toList).length + 1 ≤ 140737488355328) := Lib.hid (by have := HWL.out; rw [← HQ2.out] at this; simp only [List.length_append, List.length_cons, List.length_nil, bytes_len] at this ⊢; omega))
              | (at_builtin; refine wpList_fr_lit rfl _ _ rfl rfl Bc.out _ _ HC58.out 1 1 rfl rfl LBc.out BAc.out ?_
                 intro v_d w_d hb_d hf_d
                 have Bd := Lib.hid hb_d; have Fd := Lib.hid (Fc.out.trans hf_d); have Kd := Lib.hid (hf_d.blk Kc.out (by decide)); have BAd := Lib.hid (Nat.le_trans BAc.out hf_d.size)
                 have c0d : w_d.cell? ⟨g, 0, none⟩ = some (.int .i64 6) := Kd.out.cell 0
                 have c3d : w_d.cell? ⟨g, 3, none⟩ = some (.slice (some ⟨bn, offn, none⟩) nn cn) := Kd.out.cell 3
                 have c4d : w_d.cell? ⟨g, 4, none⟩ = some (.slice (some ⟨b, off, none⟩) ni ci) := Kd.out.cell 4
                 have y0d := (Fd.out.bel.cell (p := ⟨bn, _, none⟩) hbng).trans Y0.out
                 have q0d := (Fd.out.bel.cell (p := ⟨b, _, none⟩) hbg).trans P0.out
                 have q1d := (Fd.out.bel.cell (p := ⟨b, _, none⟩) hbg).trans P1.out
                 have q2d := (Fd.out.bel.cell (p := ⟨b, _, none⟩) hbg).trans P2.out
                 have q3d := (Fd.out.bel.cell (p := ⟨b, _, none⟩) hbg).trans P3.out
                 have q4d := (Fd.out.bel.cell (p := ⟨b, _, none⟩) hbg).trans P4.out
                 clear c0c c4c q0c q1c q2c q3c q4c c3c y0c hb_d hf_d)
              | (go_at_call 70; refine (HI.out w_d Fd.out.bel).mono ?_
                 rintro e_e w_e ⟨ad, cc, rfl, hcell, hb_e⟩
                 have HCELL := Lib.hid hcell
                 have Be := Lib.hid (Bd.out.next hb_e); have Fe := Lib.hid (Fd.out.trans (Fr.of_next hb_e BAd.out)); have Ke := Lib.hid (Kd.out.below hb_e Kd.out.lt); have BAe := Lib.hid (Nat.le_trans BAd.out hb_e.size)
                 have c0e : w_e.cell? ⟨g, 0, none⟩ = some (.int .i64 6) := Ke.out.cell 0
                 have c3e : w_e.cell? ⟨g, 3, none⟩ = some (.slice (some ⟨bn, offn, none⟩) nn cn) := Ke.out.cell 3
                 have c4e : w_e.cell? ⟨g, 4, none⟩ = some (.slice (some ⟨b, off, none⟩) ni ci) := Ke.out.cell 4
                 have y0e := (Fe.out.bel.cell (p := ⟨bn, _, none⟩) hbng).trans Y0.out
                 have q0e := (Fe.out.bel.cell (p := ⟨b, _, none⟩) hbg).trans P0.out
                 have q1e := (Fe.out.bel.cell (p := ⟨b, _, none⟩) hbg).trans P1.out
                 have q2e := (Fe.out.bel.cell (p := ⟨b, _, none⟩) hbg).trans P2.out
                 have q3e := (Fe.out.bel.cell (p := ⟨b, _, none⟩) hbg).trans P3.out
                 have q4e := (Fe.out.bel.cell (p := ⟨b, _, none⟩) hbg).trans P4.out
                 clear c0d c4d q0d q1d q2d q3d q4d c3d y0d hb_e hcell
                 have LBe : Hid ((bs ++ S.data.toList ++ [58]).length + (wrt XQ).length ≤ 140737488355328) := Lib.hid (by have := HWL.out; rw [← HQ2.out] at this; simp only [List.length_append, List.length_cons, List.length_nil, bytes_len] at this ⊢; omega))
              | (at_builtin; refine wpList_fr_row rfl _ _ rfl rfl Be.out ad _ cc (wrt XQ) rfl rfl HCELL.out LBe.out BAe.out ?_
                 intro v_f w_f hb_f hf_f
                 have Bf := Lib.hid hb_f; have Ff := Lib.hid (Fe.out.trans hf_f); have Kf := Lib.hid (hf_f.blk Ke.out (by decide)))
              | go_in)
            go_roundw
            case rel => exact ⟨q + 1, _, by omega, by go_num, Bf, Lib.hid (by rw [← HQ2.out]; simp), Ff, Kf⟩
            case measure => simp [RowKit.intOf]; omega
          · have hiq : (0 : Int) < (q : Int) := by omega
            have HS2 : Hid (sep 6 ns q = [44] ++ (S.data.toList ++ [58])) := Lib.hid (by rw [HSEP.out, if_pos (show 0 < q by omega)])
            rw [HS2.out] at HQ2
            clear HSEP HS2 hq0
            have c0a : wr.cell? ⟨g, 0, none⟩ = some (.int .i64 6) := HKB.out.cell 0
            have c3a : wr.cell? ⟨g, 3, none⟩ = some (.slice (some ⟨bn, offn, none⟩) nn cn) := HKB.out.cell 3
            have c4a : wr.cell? ⟨g, 4, none⟩ = some (.slice (some ⟨b, off, none⟩) ni ci) := HKB.out.cell 4
            have y0a := (HF.out.bel.cell (p := ⟨bn, _, none⟩) hbng).trans Y0.out
            have q0a := (HF.out.bel.cell (p := ⟨b, _, none⟩) hbg).trans P0.out
            have q1a := (HF.out.bel.cell (p := ⟨b, _, none⟩) hbg).trans P1.out
            have q2a := (HF.out.bel.cell (p := ⟨b, _, none⟩) hbg).trans P2.out
            have q3a := (HF.out.bel.cell (p := ⟨b, _, none⟩) hbg).trans P3.out
            have q4a := (HF.out.bel.cell (p := ⟨b, _, none⟩) hbg).trans P4.out
            have LBa : Hid ((bs).length + 1 ≤ 140737488355328) := Lib.hid (by have := HWL.out; rw [← HQ2.out] at this; simp only [List.length_append, List.length_cons, List.length_nil, bytes_len] at this ⊢; omega)
            go_wp2_with (first
              | (at_builtin; refine wpList_fr_lit rfl _ _ rfl rfl HB.out _ _ HC44.out 1 1 rfl rfl LBa.out HBA.out ?_
                 intro v_b w_b hb_b hf_b
                 have Bb := Lib.hid hb_b; have Fb := Lib.hid (HF.out.trans hf_b); have Kb := Lib.hid (hf_b.blk HKB.out (by decide)); have BAb := Lib.hid (Nat.le_trans HBA.out hf_b.size)
                 have c0b : w_b.cell? ⟨g, 0, none⟩ = some (.int .i64 6) := Kb.out.cell 0
                 have c3b : w_b.cell? ⟨g, 3, none⟩ = some (.slice (some ⟨bn, offn, none⟩) nn cn) := Kb.out.cell 3
                 have c4b : w_b.cell? ⟨g, 4, none⟩ = some (.slice (some ⟨b, off, none⟩) ni ci) := Kb.out.cell 4
                 have y0b := (Fb.out.bel.cell (p := ⟨bn, _, none⟩) hbng).trans Y0.out
                 have q0b := (Fb.out.bel.cell (p := ⟨b, _, none⟩) hbg).trans P0.out
                 have q1b := (Fb.out.bel.cell (p := ⟨b, _, none⟩) hbg).trans P1.out
                 have q2b := (Fb.out.bel.cell (p := ⟨b, _, none⟩) hbg).trans P2.out
                 have q3b := (Fb.out.bel.cell (p := ⟨b, _, none⟩) hbg).trans P3.out
                 have q4b := (Fb.out.bel.cell (p := ⟨b, _, none⟩) hbg).trans P4.out
                 clear c0a c4a q0a q1a q2a q3a q4a c3a y0a hb_b hf_b)
              | (go_at_call 128; refine (HNQ2.out w_b).mono ?_
                 rintro e_c w_c ⟨rfl, hb_c⟩
                 have Bc := Lib.hid (Bb.out.next hb_c); have Fc := Lib.hid (Fb.out.trans (Fr.of_next hb_c BAb.out)); have Kc := Lib.hid (Kb.out.below hb_c Kb.out.lt); have BAc := Lib.hid (Nat.le_trans BAb.out hb_c.size)
                 have c0c : w_c.cell? ⟨g, 0, none⟩ = some (.int .i64 6) := Kc.out.cell 0
                 have c3c : w_c.cell? ⟨g, 3, none⟩ = some (.slice (some ⟨bn, offn, none⟩) nn cn) := Kc.out.cell 3
                 have c4c : w_c.cell? ⟨g, 4, none⟩ = some (.slice (some ⟨b, off, none⟩) ni ci) := Kc.out.cell 4
                 have y0c := (Fc.out.bel.cell (p := ⟨bn, _, none⟩) hbng).trans Y0.out
                 have q0c := (Fc.out.bel.cell (p := ⟨b, _, none⟩) hbg).trans P0.out
                 have q1c := (Fc.out.bel.cell (p := ⟨b, _, none⟩) hbg).trans P1.out
                 have q2c := (Fc.out.bel.cell (p := ⟨b, _, none⟩) hbg).trans P2.out
                 have q3c := (Fc.out.bel.cell (p := ⟨b, _, none⟩) hbg).trans P3.out
                 have q4c := (Fc.out.bel.cell (p := ⟨b, _, none⟩) hbg).trans P4.out
                 clear c0b c4b q0b q1b q2b q3b q4b c3b y0b hb_c
                 have LBc : Hid ((bs ++ [44]).length + S.size ≤ 140737488355328) := Lib.hid (by have := HWL.out; rw [← HQ2.out] at this; simp only [List.length_append, List.length_cons, List.length_nil, bytes_len] at this ⊢; omega))
              | (at_builtin; refine wpList_fr_str rfl _ _ rfl rfl Bc.out S rfl LBc.out BAc.out ?_
                 intro v_d w_d hb_d hf_d
                 have Bd := Lib.hid hb_d; have Fd := Lib.hid (Fc.out.trans hf_d); have Kd := Lib.hid (hf_d.blk Kc.out (by decide)); have BAd := Lib.hid (Nat.le_trans BAc.out hf_d.size)
                 have c0d : w_d.cell? ⟨g, 0, none⟩ = some (.int .i64 6) := Kd.out.cell 0
                 have c3d : w_d.cell? ⟨g, 3, none⟩ = some (.slice (some ⟨bn, offn, none⟩) nn cn) := Kd.out.cell 3
                 have c4d : w_d.cell? ⟨g, 4, none⟩ = some (.slice (some ⟨b, off, none⟩) ni ci) := Kd.out.cell 4
                 have y0d := (Fd.out.bel.cell (p := ⟨bn, _, none⟩) hbng).trans Y0.out
                 have q0d := (Fd.out.bel.cell (p := ⟨b, _, none⟩) hbg).trans P0.out
                 have q1d := (Fd.out.bel.cell (p := ⟨b, _, none⟩) hbg).trans P1.out
                 have q2d := (Fd.out.bel.cell (p := ⟨b, _, none⟩) hbg).trans P2.out
                 have q3d := (Fd.out.bel.cell (p := ⟨b, _, none⟩) hbg).trans P3.out
                 have q4d := (Fd.out.bel.cell (p := ⟨b, _, none⟩) hbg).trans P4.out
                 clear c0c c4c q0c q1c q2c q3c q4c c3c y0c hb_d hf_d
                 have LBd : Hid ((bs ++ [44] ++ S.data.toList).length + 1 ≤ 140737488355328) := Lib.hid (by have := HWL.out; rw [← HQ2.out] at this; simp only [List.length_append, List.length_cons, List.length_nil, bytes_len] at this ⊢; omega))
              | (at_builtin; refine wpList_fr_lit rfl _ _ rfl rfl Bd.out _ _ HC58.out 1 1 rfl rfl LBd.out BAd.out ?_
                 intro v_e w_e hb_e hf_e
                 have Be := Lib.hid hb_e; have Fe := Lib.hid (Fd.out.trans hf_e); have Ke := Lib.hid (hf_e.blk Kd.out (by decide)); have BAe := Lib.hid (Nat.le_trans BAd.out hf_e.size)
                 have c0e : w_e.cell? ⟨g, 0, none⟩ = some (.int .i64 6) := Ke.out.cell 0
                 have c3e : w_e.cell? ⟨g, 3, none⟩ = some (.slice (some ⟨bn, offn, none⟩) nn cn) := Ke.out.cell 3
                 have c4e : w_e.cell? ⟨g, 4, none⟩ = some (.slice (some ⟨b, off, none⟩) ni ci) := Ke.out.cell 4
                 have y0e := (Fe.out.bel.cell (p := ⟨bn, _, none⟩) hbng).trans Y0.out
                 have q0e := (Fe.out.bel.cell (p := ⟨b, _, none⟩) hbg).trans P0.out
                 have q1e := (Fe.out.bel.cell (p := ⟨b, _, none⟩) hbg).trans P1.out
                 have q2e := (Fe.out.bel.cell (p := ⟨b, _, none⟩) hbg).trans P2.out
                 have q3e := (Fe.out.bel.cell (p := ⟨b, _, none⟩) hbg).trans P3.out
                 have q4e := (Fe.out.bel.cell (p := ⟨b, _, none⟩) hbg).trans P4.out
                 clear c0d c4d q0d q1d q2d q3d q4d c3d y0d hb_e hf_e)
              | (go_at_call 70; refine (HI.out w_e Fe.out.bel).mono ?_
                 rintro e_f w_f ⟨ad, cc, rfl, hcell, hb_f⟩
                 have HCELL := Lib.hid hcell
                 have Bf := Lib.hid (Be.out.next hb_f); have Ff := Lib.hid (Fe.out.trans (Fr.of_next hb_f BAe.out)); have Kf := Lib.hid (Ke.out.below hb_f Ke.out.lt); have BAf := Lib.hid (Nat.le_trans BAe.out hb_f.size)
                 have c0f : w_f.cell? ⟨g, 0, none⟩ = some (.int .i64 6) := Kf.out.cell 0
                 have c3f : w_f.cell? ⟨g, 3, none⟩ = some (.slice (some ⟨bn, offn, none⟩) nn cn) := Kf.out.cell 3
                 have c4f : w_f.cell? ⟨g, 4, none⟩ = some (.slice (some ⟨b, off, none⟩) ni ci) := Kf.out.cell 4
                 have y0f := (Ff.out.bel.cell (p := ⟨bn, _, none⟩) hbng).trans Y0.out
                 have q0f := (Ff.out.bel.cell (p := ⟨b, _, none⟩) hbg).trans P0.out
                 have q1f := (Ff.out.bel.cell (p := ⟨b, _, none⟩) hbg).trans P1.out
                 have q2f := (Ff.out.bel.cell (p := ⟨b, _, none⟩) hbg).trans P2.out
                 have q3f := (Ff.out.bel.cell (p := ⟨b, _, none⟩) hbg).trans P3.out
                 have q4f := (Ff.out.bel.cell (p := ⟨b, _, none⟩) hbg).trans P4.out
                 clear c0e c4e q0e q1e q2e q3e q4e c3e y0e hb_f hcell
                 have LBf : Hid ((bs ++ [44] ++ S.data.toList ++ [58]).length + (wrt XQ).length ≤ 140737488355328) := Lib.hid (by have := HWL.out; rw [← HQ2.out] at this; simp only [List.length_append, List.length_cons, List.length_nil, bytes_len] at this ⊢; omega))
              | (at_builtin; refine wpList_fr_row rfl _ _ rfl rfl Bf.out ad _ cc (wrt XQ) rfl rfl HCELL.out LBf.out BAf.out ?_
                 intro v_g w_g hb_g hf_g
                 have Bg := Lib.hid hb_g; have Fg := Lib.hid (Ff.out.trans hf_g); have Kg := Lib.hid (hf_g.blk Kf.out (by decide)))
              | go_in)
            go_roundw
            case rel => exact ⟨q + 1, _, by omega, by go_num, Bg, Lib.hid (by rw [← HQ2.out]; simp), Fg, Kg⟩
            case measure => simp [RowKit.intOf]; omega
        · obtain rfl : q = ni := by omega
          have HQ3 : Hid (bs ++ [125] = WR) := Lib.hid (by rw [← HQ.out, ← HNI.out, wrts_end]; rfl)
          have c4 : wr.cell? ⟨g, 4, none⟩ = some (.slice Ai q ci) := HKB.out.cell 4
          have LB : Hid (bs.length + 1 ≤ 140737488355328) := Lib.hid (by have := HBL.out; omega)
          go_wp2_with (first | (at_builtin; refine wpList_fr_lit rfl _ _ rfl rfl HB.out _ _ HCE.out 1 1 rfl rfl LB.out HBA.out ?_; intro v9 w9 hb9 hf9) | go_in)
          go_ret
          rw [HQ3.out, ← HWR.out] at hb9
          exact wrP_own hb9 (HG.out.symm ▸ (HF.out.trans hf9).bel)
end Go.Proofs.YtnckhmfajjcgpaaGreatDoor.Mt
