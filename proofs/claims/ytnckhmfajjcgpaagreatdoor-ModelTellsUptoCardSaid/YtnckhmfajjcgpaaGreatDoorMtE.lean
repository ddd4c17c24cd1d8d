/- DERIVED: THE SHELF's CONTRACTS AT THIS DUMP, IN PLAIN WORDS (tools/lay-plain.mjs out of 'MtdevLay.lean', which tools/lay-shelf.mjs wrote): THE SAME DECLARATIONS UNDER THE SAME NAMES: 'import', 'namespace', 'open', 'def', 'theorem' AND NOTHING ELSE: no command of the shelf's: FOR A HAND-IN. Each layi -/
import Derived.Shelf.Strconv.AppendIntPublic10
import Derived.Shelf.Utf8.AppendRunePlain
import Derived.Shelf.Unicode.ValidAny
import Derived.Ground.NamesProg
import Derived.Test.YtnckhmfajjcgpaaGreatDoorProg
import Derived.Test.YtnckhmfajjcgpaaGreatDoorMtC
import Derived.Test.YtnckhmfajjcgpaaGreatDoorMtD
import Derived.Test.YtnckhmfajjcgpaaGreatDoorMtA
import Derived.Maps.OwnOps
import Derived.Maps.RangeWalk
import Derived.MapKept
set_option linter.unusedVariables false
set_option linter.unusedSimpArgs false
set_option linter.unusedSectionVars false
namespace Go.Proofs.YtnckhmfajjcgpaaGreatDoor.Mt
open Go.Shelf
def Tryz.layAI_ren : Go.Shelf.Ren := ⟨fun | 176 => 125 | 249 => 231 | 288 => 299 | 283 => 419 | 284 => 420 | 285 => 421 | 286 => 422 | 129 => 344 | 317 => 559 | 318 => 560 | 319 => 561 | 320 => 562 | 337 => 646 | 338 => 647 | n => n, fun | 37 => 152 | 2 => 2 | 3 => 3 | 53 => 230 | 4 => 4 | 9 => 9 | 171 => 560 | 0 => 0 | 173 => 562 | 212 => 640 | 51 => 475 | 5 => 5 | 20 => 20 | 213 => 641 | 46 => 369 | 232 => 750 | 233 => 751 | n => n, fun | 17 => 8 | 18 => 9 | 19 => 10 | n => n⟩
theorem Tryz.layAI : Go.Proofs.LaysM.n176 Tryz.prog Tryz.layAI_ren := {
  mixed := by kernel_rfl
  f129 := Tryz.func344.trans (congrArg some (by kernel_rfl))
  f176 := Tryz.func125.trans (congrArg some (by kernel_rfl))
  f249 := Tryz.func231.trans (congrArg some (by kernel_rfl))
  f283 := Tryz.func419.trans (congrArg some (by kernel_rfl))
  f284 := Tryz.func420.trans (congrArg some (by kernel_rfl))
  f285 := Tryz.func421.trans (congrArg some (by kernel_rfl))
  f286 := Tryz.func422.trans (congrArg some (by kernel_rfl))
  f288 := Tryz.func299.trans (congrArg some (by kernel_rfl))
  f317 := Tryz.func559.trans (congrArg some (by kernel_rfl))
  f318 := Tryz.func560.trans (congrArg some (by kernel_rfl))
  f319 := Tryz.func561.trans (congrArg some (by kernel_rfl))
  f320 := Tryz.func562.trans (congrArg some (by kernel_rfl))
  f337 := Tryz.func646.trans (congrArg some (by kernel_rfl))
  f338 := Tryz.func647.trans (congrArg some (by kernel_rfl))
  t0 := Tryz.underlying0
  a0 := Tryz.isAgg0
  z0 := Tryz.sizeOf0
  v0 := Tryz.zeroValue0
  t2 := Tryz.underlying2
  a2 := Tryz.isAgg2
  z2 := Tryz.sizeOf2
  v2 := Tryz.zeroValue2
  t3 := Tryz.underlying3
  a3 := Tryz.isAgg3
  z3 := Tryz.sizeOf3
  v3 := Tryz.zeroValue3
  t4 := Tryz.underlying4
  a4 := Tryz.isAgg4
  z4 := Tryz.sizeOf4
  v4 := Tryz.zeroValue4
  t5 := Tryz.underlying5
  a5 := Tryz.isAgg5
  z5 := Tryz.sizeOf5
  v5 := Tryz.zeroValue5
  t9 := Tryz.underlying9
  a9 := Tryz.isAgg9
  z9 := Tryz.sizeOf9
  v9 := Tryz.zeroValue9
  t20 := Tryz.underlying20
  a20 := Tryz.isAgg20
  z20 := Tryz.sizeOf20
  v20 := Tryz.zeroValue20
  t37 := Tryz.underlying152
  a37 := Tryz.isAgg152
  z37 := Tryz.sizeOf152
  v37 := Tryz.zeroValue152
  t46 := Tryz.underlying369
  a46 := Tryz.isAgg369
  z46 := Tryz.sizeOf369
  v46 := Tryz.zeroValue369
  t51 := Tryz.underlying475
  a51 := Tryz.isAgg475
  z51 := Tryz.sizeOf475
  v51 := Tryz.zeroValue475
  t53 := Tryz.underlying230
  a53 := Tryz.isAgg230
  z53 := Tryz.sizeOf230
  v53 := Tryz.zeroValue230
  t171 := Tryz.underlying560
  a171 := Tryz.isAgg560
  z171 := Tryz.sizeOf560
  v171 := Tryz.zeroValue560
  t173 := Tryz.underlying562
  a173 := Tryz.isAgg562
  z173 := Tryz.sizeOf562
  v173 := Tryz.zeroValue562
  t212 := Tryz.underlying640
  a212 := Tryz.isAgg640
  z212 := Tryz.sizeOf640
  v212 := Tryz.zeroValue640
  t213 := Tryz.underlying641
  a213 := Tryz.isAgg641
  z213 := Tryz.sizeOf641
  t232 := Tryz.underlying750
  a232 := Tryz.isAgg750
  z232 := Tryz.sizeOf750
  v232 := Tryz.zeroValue750
  t233 := Tryz.underlying751
  a233 := Tryz.isAgg751
  z233 := Tryz.sizeOf751
  v233 := Tryz.zeroValue751
  g17 := by kernel_rfl
  g18 := by kernel_rfl
  g19 := by kernel_rfl
  i0 := by kernel_rfl
  i2 := by kernel_rfl
  i3 := by kernel_rfl
  i4 := by kernel_rfl
  i5 := by kernel_rfl
  i9 := by kernel_rfl
  i20 := by kernel_rfl
  i37 := by kernel_rfl
  i46 := by kernel_rfl
  i51 := by kernel_rfl
  i53 := by kernel_rfl
  i171 := by kernel_rfl
  i173 := by kernel_rfl
  i212 := by kernel_rfl
  i232 := by kernel_rfl
  i233 := by kernel_rfl
  m17 := by kernel_rfl
  m18 := by kernel_rfl
  m19 := by kernel_rfl }
def Tryz.layAR_ren : Go.Shelf.Ren := ⟨fun | 242 => 232 | 278 => 300 | n => n, fun | 37 => 152 | 21 => 21 | 51 => 475 | 4 => 4 | 5 => 5 | 46 => 369 | n => n, fun | n => n⟩
theorem Tryz.layAR : Go.Proofs.Lays.n242 Tryz.prog Tryz.layAR_ren := {
  mixed := by kernel_rfl
  f242 := Tryz.func232.trans (congrArg some (by kernel_rfl))
  f278 := Tryz.func300.trans (congrArg some (by kernel_rfl))
  t4 := Tryz.underlying4
  a4 := Tryz.isAgg4
  z4 := Tryz.sizeOf4
  v4 := Tryz.zeroValue4
  t5 := Tryz.underlying5
  a5 := Tryz.isAgg5
  z5 := Tryz.sizeOf5
  v5 := Tryz.zeroValue5
  t21 := Tryz.underlying21
  a21 := Tryz.isAgg21
  z21 := Tryz.sizeOf21
  v21 := Tryz.zeroValue21
  t37 := Tryz.underlying152
  a37 := Tryz.isAgg152
  z37 := Tryz.sizeOf152
  v37 := Tryz.zeroValue152
  t46 := Tryz.underlying369
  a46 := Tryz.isAgg369
  z46 := Tryz.sizeOf369
  v46 := Tryz.zeroValue369
  t51 := Tryz.underlying475
  a51 := Tryz.isAgg475
  z51 := Tryz.sizeOf475
  v51 := Tryz.zeroValue475 }
def Tryz.layVS_ren : Go.Shelf.Ren := ⟨fun | 196 => 230 | 259 => 298 | n => n, fun | 9 => 9 | 4 => 4 | 3 => 3 | 5 => 5 | 12 => 12 | 119 => 470 | 0 => 0 | 46 => 369 | 139 => 473 | 138 => 472 | 53 => 230 | n => n, fun | 3 => 3 | 4 => 4 | n => n⟩
theorem Tryz.layVS : Go.Proofs.Lays.n196 Tryz.prog Tryz.layVS_ren := {
  mixed := by kernel_rfl
  f196 := Tryz.func230.trans (congrArg some (by kernel_rfl))
  f259 := Tryz.func298.trans (congrArg some (by kernel_rfl))
  t0 := Tryz.underlying0
  a0 := Tryz.isAgg0
  z0 := Tryz.sizeOf0
  v0 := Tryz.zeroValue0
  t3 := Tryz.underlying3
  a3 := Tryz.isAgg3
  z3 := Tryz.sizeOf3
  v3 := Tryz.zeroValue3
  t4 := Tryz.underlying4
  a4 := Tryz.isAgg4
  z4 := Tryz.sizeOf4
  v4 := Tryz.zeroValue4
  t5 := Tryz.underlying5
  a5 := Tryz.isAgg5
  z5 := Tryz.sizeOf5
  v5 := Tryz.zeroValue5
  t9 := Tryz.underlying9
  a9 := Tryz.isAgg9
  z9 := Tryz.sizeOf9
  v9 := Tryz.zeroValue9
  t12 := Tryz.underlying12
  a12 := Tryz.isAgg12
  z12 := Tryz.sizeOf12
  v12 := Tryz.zeroValue12
  t46 := Tryz.underlying369
  a46 := Tryz.isAgg369
  z46 := Tryz.sizeOf369
  v46 := Tryz.zeroValue369
  t53 := Tryz.underlying230
  a53 := Tryz.isAgg230
  z53 := Tryz.sizeOf230
  v53 := Tryz.zeroValue230
  t119 := Tryz.underlying470
  a119 := Tryz.isAgg470
  z119 := Tryz.sizeOf470
  t138 := Tryz.underlying472
  a138 := Tryz.isAgg472
  z138 := Tryz.sizeOf472
  v138 := Tryz.zeroValue472
  t139 := Tryz.underlying473
  a139 := Tryz.isAgg473
  z139 := Tryz.sizeOf473
  v139 := Tryz.zeroValue473
  g3 := by kernel_rfl
  g4 := by kernel_rfl }
end Go.Proofs.YtnckhmfajjcgpaaGreatDoor.Mt
namespace Go.Proofs.YtnckhmfajjcgpaaGreatDoor.Mt
set_option linter.unusedVariables false
open Go.RowKit Go.Lib Go.Shelf
/-- the library's tables as they lie when the law is called, below block B -/
structure TbP (B : Nat) (w : World) : Prop where
  size : B ≤ w.heap.size
  small : 3 < B ∧ 4 < B
  utf : Lib.Utf8Tabs 3 4 w
  pow : Lib.TabBelow Tryz.prog B w "internal/strconv.uint64pow10" .u64 Lib.pow10Tab
theorem TbP.keep {B C : Nat} {w w' : World} (h : TbP B w) (hb : Below C w w') (hC : B ≤ C) : TbP B w' where
  size := Nat.le_trans h.size hb.size
  small := h.small
  utf := by
    have hb' := hb.mono hC
    exact ⟨fun c hc => (hb'.cell (p := ⟨3, c, none⟩) h.small.1).trans (h.utf.1 c hc), fun i hi => ⟨(hb'.cell (p := ⟨4, 2 * i, none⟩) h.small.2).trans (h.utf.2 i hi).1, (hb'.cell (p := ⟨4, 2 * i + 1, none⟩) h.small.2).trans (h.utf.2 i hi).2⟩⟩
  pow := h.pow.on (hb.mono hC)
def tbs (B : Nat) : Tbs := ⟨TbP B, fun w w' h hb => h.keep hb h.size⟩
theorem valid_ok (B : Nat) : ValidOk (tbs B) := fun w s hs hT => Any.utf8_ValidString Tryz.layVS s w hs hT.utf
theorem ar_any (w : World) (B : Nat) (v : Value) (bs : List UInt8) (r : Nat) (hr : r ≤ 1114111) (h : Bs w B v bs) (hl : bs.length + 4 ≤ 140737488355328) (hB : B ≤ w.heap.size) :
    Calls Tryz.prog 232 #[v, .int .i32 (r : Int)] w fun e w' => ∃ v', e = .returned v' ∧ Bs w' B v' (bs ++ encodeRune (r : Int)) ∧ Fr B w w' := by
  refine (Any.utf8_AppendRune_plain Tryz.layAR (by kernel_rfl) B v bs.length (bc bs) (r : Int) (by omega) (by omega) w h hl hB).mono ?_
  rintro e w' ⟨v', rfl, h1, o, h2⟩
  refine ⟨v', rfl, ?_, ((Fr.refl B w).alloc hB o).trans (Fr.own (h.alloc o) h2 (by simp; omega))⟩
  unfold Bs
  rw [bc_app, List.length_append, ← Lib.runeCells_length, show bc (encodeRune (r : Int)) = runeCells (r : Int) from byteCells_encodeRune _]
  exact h1
theorem ai_any (w : World) (B C : Nat) (v : Value) (bs : List UInt8) (i : Int) (h0 : -9223372036854775808 ≤ i) (h1 : i ≤ 9223372036854775807) (h : Bs w B v bs) (hl : bs.length + 21 ≤ 140737488355328) (hT : TbP C w) (hC : C ≤ B) (hB : B ≤ w.heap.size) :
    Calls Tryz.prog 125 #[v, .int .i64 i, .int .i64 10] w fun e w' => ∃ v', e = .returned v' ∧ Bs w' B v' (bs ++ itoa i) ∧ Fr B w w' := by
  refine (Any.strconv_AppendInt_10 Tryz.layAI B bs.length i h0 h1 v (bc bs) w h hB hl (fun w' hb => hT.pow w' (hb.mono hC))).mono ?_
  rintro e w' ⟨v', rfl, h1, h2, h3⟩
  refine ⟨v', rfl, ?_, ⟨h2, h3⟩⟩
  unfold Bs
  rw [bc_app, List.length_append]
  exact h1
end Go.Proofs.YtnckhmfajjcgpaaGreatDoor.Mt
namespace Go.Proofs.YtnckhmfajjcgpaaGreatDoor.Mt
set_option linter.unusedVariables false
open Go.RowKit Go.Lib
theorem Bs.iterAt {w : World} {B : Nat} {v : Value} {bs : List UInt8} (h : Bs w B v bs) {k : Nat} {s : ByteArray} {pos : Nat} (hk : w.heap[k]? = some (.stringIter s pos)) (pos' : Nat) : Bs (w.iterAt k s pos') B v bs := by
  refine ⟨h.1, ?_⟩
  rcases h.2 with hn | ⟨g, cap, cur, hv, hbg, hg, rest⟩
  · exact .inl hn
  · have hkg : g ≠ k := by
      intro e1
      rw [e1, hk] at hg
      cases hg
    exact .inr ⟨g, cap, cur, hv, hbg, (iterAt_other w k g s pos' hkg).trans hg, rest⟩
theorem Fr.iterAt {B : Nat} {a w : World} (h : Fr B a w) {k : Nat} (hB : B ≤ a.heap.size) (hk : a.heap.size ≤ k) (s : ByteArray) (pos : Nat) : Fr B a (w.iterAt k s pos) :=
  ⟨below_iterAt h.bel (Nat.le_trans hB hk) s pos, fun i o hi hb ho => by
    have hlt : i < a.heap.size := (Array.getElem?_eq_some_iff.1 hi).1
    exact (iterAt_other w k i s pos (by omega)).trans (h.oth i o hi hb ho)⟩
theorem escR34 {r : Nat} (h : r = 34 ∨ r = 92) : escR r = [92, r.toUInt8] := by unfold escR; rw [if_pos h]
theorem escRK {r k : Nat} {x : UInt8} (h : r = k) (hk : (k = 8 ∧ x = 98) ∨ (k = 9 ∧ x = 116) ∨ (k = 10 ∧ x = 110) ∨ (k = 12 ∧ x = 102) ∨ (k = 13 ∧ x = 114)) : escR r = [92, x] := by
  unfold escR
  rw [h]
  rcases hk with ⟨rfl, rfl⟩ | ⟨rfl, rfl⟩ | ⟨rfl, rfl⟩ | ⟨rfl, rfl⟩ | ⟨rfl, rfl⟩ <;> rfl
theorem escRU {r : Nat} (h : plainC r) (h2 : r < 32) : escR r = [92, 117, 48, 48, hexDigit (r / 16), hexDigit (r % 16)] := by
  obtain ⟨a1, a2, a3, a4, a5, a6, a7⟩ := h
  unfold escR
  rw [if_neg (by omega), if_neg a3, if_neg a4, if_neg a5, if_neg a6, if_neg a7, if_pos h2]
theorem escRP {r : Nat} (h : plainC r) (h2 : ¬ r < 32) : escR r = encodeRune (r : Int) := by
  obtain ⟨a1, a2, a3, a4, a5, a6, a7⟩ := h
  unfold escR
  rw [if_neg (by omega), if_neg a3, if_neg a4, if_neg a5, if_neg a6, if_neg a7, if_neg h2]
theorem escs_dec (l : List UInt8) (hne : l ≠ []) (hv : ¬ ((decodeL l).1 = 65533 ∧ (decodeL l).2 = 1)) : escs l = escR (decodeL l).1 ++ escs (l.drop (decodeL l).2) := by
  rw [esc_step l hne hv, ← escs_app, List.take_append_drop]
theorem and15 : ∀ X : Fin 32, bits .and .i32 ((X.val : Nat) : Int) 15 = ((X.val % 16 : Nat) : Int) := by decide
set_option maxRecDepth 100000 in
set_option maxHeartbeats 8000000 in
theorem mquo_any (w : World) (B : Nat) (v : Value) (bs : List UInt8) (s : ByteArray) (hs : s.size ≤ 16777216) (hv : validD s.data.toList = true) (hB : B ≤ w.heap.size) (h : Bs w B v bs) (hl : bs.length ≤ 1073741824) :
    Calls Tryz.prog 126 #[v, .string s] w fun e w' => ∃ v', e = .returned v' ∧ Bs w' B v' (bs ++ quo s.data.toList) ∧ Fr B w w' := by
  have HS := Lib.hid hs
  have HBW := Lib.hid hB
  have H := Lib.hid h
  have HL := Lib.hid hl
  have HVD := Lib.hid hv
  have HC34 : Hid (#[Value.int .u8 34] = (bc [34]).toArray) := Lib.hid rfl
  obtain ⟨Z, hZ⟩ : ∃ Z, bs ++ 34 :: escs s.data.toList = Z := ⟨_, rfl⟩
  have HZ : Hid ((bs ++ [34]) ++ escs (s.data.toList.drop 0) = Z) := Lib.hid (by rw [← hZ]; simp)
  have HZQ : Hid (bs ++ quo s.data.toList = Z ++ [34]) := Lib.hid (by rw [← hZ]; unfold quo; simp)
  have HZL : Hid (Z.length ≤ 1174405122) := Lib.hid (by
    have h1 := escs_len s.data.toList
    rw [bytes_len] at h1
    rw [← hZ, List.length_append, List.length_cons]
    omega)
  clear hs hv hB h hl hZ
  go_enter Tryz.func126, Tryz.ntmps126
  go_wp2_with (first | (at_builtin; refine wpList_fr_lit rfl _ _ rfl rfl H.out _ _ HC34.out 1 1 rfl rfl (by have := HL.out; omega) HBW.out ?_; intro v1 w1 hb1 hf1) | go_in)
  have HF1 := Lib.hid hf1
  have HB1 := Lib.hid hb1
  clear hf1 hb1
  obtain ⟨k, hk⟩ : ∃ k, w1.heap.size = k := ⟨_, rfl⟩
  have HKW : Hid (w.heap.size ≤ k) := Lib.hid (by rw [← hk]; exact HF1.out.size)
  have HI2 : Hid ((w1.iter s 0).heap[k]? = some (.stringIter s 0)) := Lib.hid (by rw [← hk]; exact World.iter_heap w1 s 0)
  have HF2 : Hid (Fr B w (w1.iter s 0)) := Lib.hid (HF1.out.alloc (Nat.le_trans HBW.out HF1.out.size) _)
  have HB2 : Hid (Bs (w1.iter s 0) B v1 (bs ++ [34])) := Lib.hid (HB1.out.alloc _)
  obtain ⟨w2, hw2⟩ : ∃ w2, w1.iter s 0 = w2 := ⟨_, rfl⟩
  rw [hw2] at HI2 HF2 HB2 ⊢
  try rw [hk]
  clear hw2 hk HF1 HB1
  have HD2 : Hid (validD (s.data.toList.drop 0) = true) := Lib.hid (by simpa using HVD.out)
  go_loopg [0] (s.size + 1) (fun gk u wx => ∃ (pos : Nat) (bs' : List UInt8), pos ≤ s.size ∧ s.size - pos < gk ∧ Hid (Bs wx B u bs') ∧ Hid (bs' ++ escs (s.data.toList.drop pos) = Z) ∧ Hid (validD (s.data.toList.drop pos) = true) ∧ Hid (Fr B w wx) ∧ Hid (wx.heap[k]? = some (.stringIter s pos)))
  case atStart => exact ⟨0, bs ++ [34], Nat.zero_le _, by omega, HB2, HZ, HD2, HF2, HI2⟩
  case round =>
    clear HB2 HZ HD2 HF2 HI2
    obtain ⟨pos, bs', hp, hg, HB, HE, HD, HF, HI⟩ := hrel
    by_cases hlt : pos < s.size
    · obtain ⟨gk, rfl⟩ : ∃ g', gk = g' + 1 := ⟨gk - 1, by omega⟩
      have hne : s.data.toList.drop pos ≠ [] := by
        intro h0
        have : (s.data.toList.drop pos).length = 0 := by rw [h0]; rfl
        rw [List.length_drop, bytes_len] at this
        omega
      have hvs := valid_step hne HD.out
      have hle := decodeL_le _ hne
      have hw1 := decodeL_width (s.data.toList.drop pos)
      have hrn := decodeL_rune (s.data.toList.drop pos)
      have hes := escs_dec _ hne hvs.1
      have hvd := hvs.2
      have hnx := fun (ty : TypeId) => run_next_any_at (P := Tryz.prog) wr k s pos ty HI.out hlt
      have hdd := decodeL_drop s pos
      obtain ⟨⟨r, m⟩, hd⟩ : ∃ d, Utf8.decode s pos = d := ⟨_, rfl⟩
      rw [hd] at hnx hdd
      rw [hdd] at hle hw1 hrn hes hvd
      simp only [List.drop_drop] at hes hvd
      rw [List.length_drop, bytes_len] at hle
      simp only [] at hnx hle hw1 hrn hes hvd
      have HE2 := HE.out
      rw [hes] at HE2
      have HE3 := Lib.hid HE2
      have HVD2 := Lib.hid hvd
      have HIW : Hid ((wr.iterAt k s (pos + m)).heap[k]? = some (.stringIter s (pos + m))) := Lib.hid (iterAt_heap wr k s pos (pos + m) HI.out)
      have HFW : Hid (Fr B w (wr.iterAt k s (pos + m))) := Lib.hid (HF.out.iterAt HBW.out HKW.out s (pos + m))
      have HBI : Hid (Bs (wr.iterAt k s (pos + m)) B u0 bs') := Lib.hid (HB.out.iterAt HI.out (pos + m))
      clear hne hvs hes hvd hdd hd HE HE2 HD HI HF HB
      obtain ⟨wn, hwn⟩ : ∃ wn, wr.iterAt k s (pos + m) = wn := ⟨_, rfl⟩
      rw [hwn] at hnx HIW HFW HBI
      clear hwn
      have HBA : Hid (B ≤ wn.heap.size) := Lib.hid (Nat.le_trans HBW.out HFW.out.size)
      have HBL : Hid (bs'.length ≤ 1174405122) := Lib.hid (by have := HZL.out; rw [← HE3.out] at this; simp only [List.length_append] at this; omega)
      by_cases h34 : r = 34
      · have HE := Lib.hid (escR34 (r := r) (by omega))
        subst h34
        have HC : Hid (#[Value.int .u8 92, Value.int .u8 34] = (bc [92, (34 : Nat).toUInt8]).toArray) := Lib.hid rfl
        go_wp2_with (first | (at_builtin; refine wpList_fr_lit rfl _ _ rfl rfl HBI.out _ _ HC.out 2 2 rfl rfl (by have := HBL.out; omega) HBA.out ?_; intro v9 w9 hb9 hf9) | go_in)
        go_roundg gk
        case rel => exact ⟨pos + m, _, by omega, by omega, Lib.hid hb9, Lib.hid (by rw [← HE3.out, HE.out]; simp), HVD2, Lib.hid (HFW.out.trans hf9), Lib.hid (hf9.iter HIW.out)⟩
        case measure => omega
      · have e34 : ((r : Int) == 34) = false := eqF h34
        by_cases h92 : r = 92
        · have HE := Lib.hid (escR34 (r := r) (by omega))
          subst h92
          have HC : Hid (#[Value.int .u8 92, Value.int .u8 92] = (bc [92, (92 : Nat).toUInt8]).toArray) := Lib.hid rfl
          go_wp2_with (first | (at_builtin; refine wpList_fr_lit rfl _ _ rfl rfl HBI.out _ _ HC.out 2 2 rfl rfl (by have := HBL.out; omega) HBA.out ?_; intro v9 w9 hb9 hf9) | go_in)
          go_roundg gk
          case rel => exact ⟨pos + m, _, by omega, by omega, Lib.hid hb9, Lib.hid (by rw [← HE3.out, HE.out]; simp), HVD2, Lib.hid (HFW.out.trans hf9), Lib.hid (hf9.iter HIW.out)⟩
          case measure => omega
        · have e92 : ((r : Int) == 92) = false := eqF h92
          by_cases h8 : r = 8
          · have HE := Lib.hid (escRK (r := r) (k := 8) (x := 98) (by omega) (by simp))
            subst h8
            have HC : Hid (#[Value.int .u8 92, Value.int .u8 98] = (bc [92, 98]).toArray) := Lib.hid rfl
            go_wp2_with (first | (at_builtin; refine wpList_fr_lit rfl _ _ rfl rfl HBI.out _ _ HC.out 2 2 rfl rfl (by have := HBL.out; omega) HBA.out ?_; intro v9 w9 hb9 hf9) | go_in)
            go_roundg gk
            case rel => exact ⟨pos + m, _, by omega, by omega, Lib.hid hb9, Lib.hid (by rw [← HE3.out, HE.out]; simp), HVD2, Lib.hid (HFW.out.trans hf9), Lib.hid (hf9.iter HIW.out)⟩
            case measure => omega
          · have e8 : ((r : Int) == 8) = false := eqF h8
            by_cases h9 : r = 9
            · have HE := Lib.hid (escRK (r := r) (k := 9) (x := 116) (by omega) (by simp))
              subst h9
              have HC : Hid (#[Value.int .u8 92, Value.int .u8 116] = (bc [92, 116]).toArray) := Lib.hid rfl
              go_wp2_with (first | (at_builtin; refine wpList_fr_lit rfl _ _ rfl rfl HBI.out _ _ HC.out 2 2 rfl rfl (by have := HBL.out; omega) HBA.out ?_; intro v9 w9 hb9 hf9) | go_in)
              go_roundg gk
              case rel => exact ⟨pos + m, _, by omega, by omega, Lib.hid hb9, Lib.hid (by rw [← HE3.out, HE.out]; simp), HVD2, Lib.hid (HFW.out.trans hf9), Lib.hid (hf9.iter HIW.out)⟩
              case measure => omega
            · have e9 : ((r : Int) == 9) = false := eqF h9
              by_cases h10 : r = 10
              · have HE := Lib.hid (escRK (r := r) (k := 10) (x := 110) (by omega) (by simp))
                subst h10
                have HC : Hid (#[Value.int .u8 92, Value.int .u8 110] = (bc [92, 110]).toArray) := Lib.hid rfl
                go_wp2_with (first | (at_builtin; refine wpList_fr_lit rfl _ _ rfl rfl HBI.out _ _ HC.out 2 2 rfl rfl (by have := HBL.out; omega) HBA.out ?_; intro v9 w9 hb9 hf9) | go_in)
                go_roundg gk
                case rel => exact ⟨pos + m, _, by omega, by omega, Lib.hid hb9, Lib.hid (by rw [← HE3.out, HE.out]; simp), HVD2, Lib.hid (HFW.out.trans hf9), Lib.hid (hf9.iter HIW.out)⟩
                case measure => omega
              · have e10 : ((r : Int) == 10) = false := eqF h10
                by_cases h12 : r = 12
                · have HE := Lib.hid (escRK (r := r) (k := 12) (x := 102) (by omega) (by simp))
                  subst h12
                  have HC : Hid (#[Value.int .u8 92, Value.int .u8 102] = (bc [92, 102]).toArray) := Lib.hid rfl
                  go_wp2_with (first | (at_builtin; refine wpList_fr_lit rfl _ _ rfl rfl HBI.out _ _ HC.out 2 2 rfl rfl (by have := HBL.out; omega) HBA.out ?_; intro v9 w9 hb9 hf9) | go_in)
                  go_roundg gk
                  case rel => exact ⟨pos + m, _, by omega, by omega, Lib.hid hb9, Lib.hid (by rw [← HE3.out, HE.out]; simp), HVD2, Lib.hid (HFW.out.trans hf9), Lib.hid (hf9.iter HIW.out)⟩
                  case measure => omega
                · have e12 : ((r : Int) == 12) = false := eqF h12
                  by_cases h13 : r = 13
                  · have HE := Lib.hid (escRK (r := r) (k := 13) (x := 114) (by omega) (by simp))
                    subst h13
                    have HC : Hid (#[Value.int .u8 92, Value.int .u8 114] = (bc [92, 114]).toArray) := Lib.hid rfl
                    go_wp2_with (first | (at_builtin; refine wpList_fr_lit rfl _ _ rfl rfl HBI.out _ _ HC.out 2 2 rfl rfl (by have := HBL.out; omega) HBA.out ?_; intro v9 w9 hb9 hf9) | go_in)
                    go_roundg gk
                    case rel => exact ⟨pos + m, _, by omega, by omega, Lib.hid hb9, Lib.hid (by rw [← HE3.out, HE.out]; simp), HVD2, Lib.hid (HFW.out.trans hf9), Lib.hid (hf9.iter HIW.out)⟩
                    case measure => omega
                  · have e13 : ((r : Int) == 13) = false := eqF h13
                    have HP : Hid (plainC r) := Lib.hid (by unfold plainC; omega)
                    by_cases h32 : r < 32
                    · have HE := Lib.hid (escRU HP.out (by omega))
                      have i32 : (r : Int) < 32 := by omega
                      clear h34 h92 h8 h9 h10 h12 h13 h32
                      obtain ⟨x, hx⟩ : ∃ x, r / 16 = x := ⟨_, rfl⟩
                      obtain ⟨y, hy⟩ : ∃ y, r % 16 = y := ⟨_, rfl⟩
                      have hx16 : x < 16 := by omega
                      have hy16 : y < 16 := by omega
                      have HXY : Hid (escR r = [92, 117, 48, 48, hexDigit x, hexDigit y]) := Lib.hid (by rw [HE.out, hx, hy])
                      have d0 : bits .and .i32 (r : Int) 15 = (y : Int) := by rw [← hy]; exact and15 ⟨r, by omega⟩
                      have d1 : (r : Int) / 16 = (x : Int) := by omega
                      have d4 : IntKind.i32.wrap (x : Int) = (x : Int) := IntWalk.i32_in _ (by omega)
                      have b1 : (x : Int) < 16 := by omega
                      have b2 : (y : Int) < 16 := by omega
                      have HBL2 := Lib.hid (show bs'.length + 6 ≤ 140737488355328 by have := HBL.out; omega)
                      clear hx hy HE HP
                      go_wp2_with fail
                      go_region_law (refine step_fr_lit (by rfl) (.tmp 63) (.tmp 70) (by rfl) (by rfl) HBI.out.drew _ [92, 117, 48, 48, hexDigit x, hexDigit y] (by rw [← hexS_at x hx16, ← hexS_at y hy16]; rfl) 6 6 (by rfl) rfl HBL2.out HBA.out ?_; intro v9 w9 hb9 hf9)
                      all_goals
                        go_wp2
                        go_roundg gk
                        case rel => exact ⟨pos + m, _, by omega, by omega, Lib.hid hb9, Lib.hid (by rw [← HE3.out, HXY.out]; simp), HVD2, Lib.hid (HFW.out.drew.trans hf9), Lib.hid (hf9.iter HIW.out)⟩
                        case measure => omega
                    · have HE := Lib.hid (escRP HP.out (by omega))
                      have i32 : ¬ (r : Int) < 32 := by omega
                      clear h34 h92 h8 h9 h10 h12 h13 h32
                      go_wp2_with (first | (go_at_call 232; refine (ar_any _ B _ _ r hrn HBI.out (by have := HBL.out; omega) HBA.out).mono ?_; rintro e9 w9 ⟨v9, rfl, hb9, hf9⟩) | go_in)
                      go_roundg gk
                      case rel => exact ⟨pos + m, _, by omega, by omega, Lib.hid hb9, Lib.hid (by rw [← HE3.out, HE.out]; simp), HVD2, Lib.hid (HFW.out.trans hf9), Lib.hid (hf9.iter HIW.out)⟩
                      case measure => omega
    · obtain rfl : pos = s.size := by omega
      have hnx := fun (ty : TypeId) => run_next_end_at (P := Tryz.prog) wr k s s.size ty HI.out hlt
      have HE2 : Hid (bs' = Z) := Lib.hid (by rw [← HE.out, List.drop_eq_nil_of_le (by rw [bytes_len]; exact Nat.le_refl _)]; simp [escs])
      have HBA : Hid (B ≤ wr.heap.size) := Lib.hid (Nat.le_trans HBW.out HF.out.size)
      have HBL : Hid (bs'.length ≤ 1174405122) := Lib.hid (by rw [HE2.out]; exact HZL.out)
      go_wp2_with (first | (at_builtin; refine wpList_fr_lit rfl _ _ rfl rfl HB.out _ _ HC34.out 1 1 rfl rfl (by have := HBL.out; omega) HBA.out ?_; intro v9 w9 hb9 hf9) | go_in)
      go_ret
      exact ⟨_, rfl, by rw [HZQ.out, ← HE2.out]; exact hb9, HF.out.trans hf9⟩
end Go.Proofs.YtnckhmfajjcgpaaGreatDoor.Mt
namespace Go.Proofs.YtnckhmfajjcgpaaGreatDoor.Mt
set_option linter.unusedVariables false
open Go.RowKit Go.MapKept
abbrev En := ByteArray × Value
def look (es : List En) (k : ByteArray) : Option Value := (es.find? fun e => decide (e.1 = k)).map (·.2)
def ents : List En → Nat → List MapEntry
  | [], _ => []
  | e :: l, i => { key := .string e.1, val := e.2, born := i } :: ents l (i + 1)
/-- block b is a map that holds these entries, in the order in which they came -/
def MAt (w : World) (b : Nat) (es : List En) : Prop := w.heap[b]? = some (.map (ents es 0).toArray es.length)
theorem ents_length : ∀ (l : List En) (i : Nat), (ents l i).length = l.length
  | [], _ => rfl
  | _ :: l, i => by simp [ents, ents_length l]
theorem ents_get : ∀ (l : List En) (i j : Nat), (ents l i)[j]? = (l[j]?).map fun e => { key := .string e.1, val := e.2, born := i + j }
  | [], _, _ => by simp [ents]
  | e :: l, i, 0 => by simp [ents]
  | e :: l, i, j + 1 => by simp [ents, ents_get l, Nat.add_assoc, Nat.add_comm 1]
theorem ents_app : ∀ (l : List En) (i : Nat) (e : En), ents l i ++ [{ key := .string e.1, val := e.2, born := i + l.length }] = ents (l ++ [e]) i
  | [], i, e => by simp [ents]
  | x :: l, i, e => by simp [ents, ← ents_app l, Nat.add_assoc, Nat.add_comm 1]
theorem findNow_ents (k : ByteArray) : ∀ (l : List En) (i q : Nat), ∃ r, Instr.findNow .string (.string k) (ents l i) q = some r ∧ r.map (·.2) = look l k
  | [], _, _ => ⟨none, rfl, rfl⟩
  | e :: l, i, q => by
    simp only [ents, Instr.findNow, Instr.sameNow, look, List.find?_cons]
    by_cases h : e.1 = k
    · have h1 : (k == e.1) = true := (bytes_beq _ _).2 h.symm
      rw [h1]
      exact ⟨some (q, e.2), rfl, by simp [h]⟩
    · have h1 : (k == e.1) = false := by
        cases hb : k == e.1
        · rfl
        · exact absurd ((bytes_beq _ _).1 hb).symm h
      rw [h1]
      simp only [h, decide_false]
      exact findNow_ents k l (i + 1) (q + 1)
section
variable {P : Program} {w : World} {b : Nat} {es : List En} {t kt et : TypeId}
theorem MAt.made (w : World) : MAt (w.alloc (.map #[] 0)) w.heap.size [] := heap_alloc_new w _
theorem MAt.lt (h : MAt w b es) : b < w.heap.size := by
  rcases Nat.lt_or_ge b w.heap.size with hlt | hge
  · exact hlt
  · unfold MAt at h; rw [Array.getElem?_eq_none hge] at h; cases h
theorem MAt.keep {w' : World} (h : MAt w b es) (hk : w'.heap[b]? = w.heap[b]?) : MAt w' b es := hk.trans h
theorem MAt.drewN (h : MAt w b es) (n : Nat) : MAt (w.drewN n) b es := h
theorem MAt.alloc (h : MAt w b es) (o : Obj) : MAt (w.alloc o) b es := (Below.heap_alloc w o b h.lt).trans h
theorem MAt.below {B : Nat} {w' : World} (h : MAt w b es) (hb : Below B w w') (hlt : b < B) : MAt w' b es := (hb.block b hlt).trans h
theorem MAt.far {p : Addr} (h : MAt w b es) (hp : b ≠ p.block) (u : Value) : MAt (w.setCell p u) b es := (Below.heap_setCell w p u b hp).trans h
theorem isKey_str (k : ByteArray) : IsKey .string (.string k) := by first | exact ⟨k, rfl⟩ | constructor | simp [IsKey]
theorem run_lookup_at (ht : P.underlying t = some (.map kt et)) (hk : P.underlying kt = some .string) {z : Value} (hz : (zeroValue et).run P w = .ok z w) (h : MAt w b es) (k : ByteArray) :
    (Instr.lookup t (.map (some b)) (.string k) true).run P w = .ok (.tuple #[(look es k).getD z, .bool (look es k).isSome]) w := by
  unfold MAt at h
  obtain ⟨r, h1, h2⟩ := findNow_ents k es 0 0
  have hf := run_findKey (P := P) (w := w) hk h1
  have hc := run_checkKey (P := P) (w := w) hk (isKey_str k) (ents es 0).toArray.isEmpty 9999
  unfold Instr.lookup
  rw [Sem.run_bind, run_underlying ht]
  simp only [Result.andThen_ok, Sem.run_bind, Go.MapKept.run_getObj_map h, Sem.run_pure, hc, hf]
  cases r with
  | none => simp only [Option.map_none] at h2; rw [← h2]; simp [hz, Sem.run_bind, ← bind_pure_comp]
  | some x => simp only [Option.map_some] at h2; rw [← h2]; simp
theorem run_look_at (ht : P.underlying t = some (.map kt et)) (hk : P.underlying kt = some .string) {z : Value} (hz : (zeroValue et).run P w = .ok z w) (h : MAt w b es) (k : ByteArray) :
    (Instr.lookup t (.map (some b)) (.string k) false).run P w = .ok ((look es k).getD z) w := by
  unfold MAt at h
  obtain ⟨r, h1, h2⟩ := findNow_ents k es 0 0
  have hf := run_findKey (P := P) (w := w) hk h1
  have hc := run_checkKey (P := P) (w := w) hk (isKey_str k) (ents es 0).toArray.isEmpty 9999
  unfold Instr.lookup
  rw [Sem.run_bind, run_underlying ht]
  simp only [Result.andThen_ok, Sem.run_bind, Go.MapKept.run_getObj_map h, Sem.run_pure, hc, hf]
  cases r with
  | none => simp only [Option.map_none] at h2; rw [← h2]; simp [hz, Sem.run_bind, ← bind_pure_comp]
  | some x => simp only [Option.map_some] at h2; rw [← h2]; simp
def putMap (w : World) (b : Nat) (es : List En) (k : ByteArray) (v : Value) : World := { w with heap := w.heap.setIfInBounds b (.map (ents (es ++ [(k, v)]) 0).toArray (es.length + 1)) }
theorem run_put_at (ht : P.underlying t = some (.map kt et)) (hk : P.underlying kt = some .string) (h : MAt w b es) (k : ByteArray) (v : Value) (hn : look es k = none) :
    (Instr.mapUpdate t (.map (some b)) (.string k) v).run P w = .ok () (putMap w b es k v) := by
  unfold MAt at h
  obtain ⟨r, h1, h2⟩ := findNow_ents k es 0 0
  rw [hn] at h2
  have hr : r = none := by cases r with | none => rfl | some x => simp at h2
  subst hr
  have hf := run_findKey (P := P) (w := w) hk h1
  have hc := run_checkKey (P := P) (w := w) hk (isKey_str k) false 9999
  have he := ents_app es 0 (k, v)
  simp only [Nat.zero_add] at he
  unfold Instr.mapUpdate putMap
  rw [Sem.run_bind, run_underlying ht]
  simp only [Result.andThen_ok, Sem.run_bind, Go.MapKept.run_getObj_map h, hc, hf, run_setObj_map _ h, ← he]
  simp
theorem putMap_at (h : MAt w b es) (k : ByteArray) (v : Value) : MAt (putMap w b es k v) b (es ++ [(k, v)]) := by
  unfold MAt putMap
  rw [(heap_set (w := w) h).1]
  simp
theorem putMap_grown (h : MAt w b es) (k : ByteArray) (v : Value) : w.grownBy (putMap w b es k v) (some b) := by
  refine ⟨rfl, rfl, rfl, by simp [putMap], fun g hg hne => ?_⟩
  exact (heap_set (w := w) h).2 g (by rintro rfl; exact hne rfl)
theorem putMap_size (k : ByteArray) (v : Value) : (putMap w b es k v).heap.size = w.heap.size := by simp [putMap]
end
section
variable {P : Program} (w : World) {ops : Array Oper} {rest : List Oper} {o : Oper} {a : Act} {Q : Exit → Act → World → Prop} {b : Nat} {es : List En} {t kt et : TypeId}
theorem wpList_look (hg : o.guard = none) (m x : Operand) (t : TypeId) (hop : o.op = Op.lookup t m x true) (kt et : TypeId) (ht : P.underlying t = some (.map kt et)) (hk : P.underlying kt = some .string) (z : Value) (hz : (zeroValue et).run P w = .ok z w) (b : Nat) (es : List En)
    (hm : a.eval m = .map (some b)) (h : MAt w b es) (k : ByteArray) (hx : a.eval x = .string k) (r : Option Value) (hr : look es k = r)
    (hK : wpList P ops Q rest (a.put o.dst (.tuple #[r.getD z, .bool r.isSome])) w) : wpList P ops Q (o :: rest) a w := by
  refine wpList_plain hg fun K' hK' => ?_
  subst hr
  unfold Oper.wp
  simp [execOp, hop, hm, hx, run_lookup_at ht hk hz h, Result.andThen]
  exact hK' _ _ hK
theorem wpList_put (hg : o.guard = none) (m x y : Operand) (t : TypeId) (hop : o.op = Op.mapUpdate t m x y) (kt et : TypeId) (ht : P.underlying t = some (.map kt et)) (hk : P.underlying kt = some .string) (b : Nat) (es : List En)
    (hm : a.eval m = .map (some b)) (h : MAt w b es) (k : ByteArray) (hx : a.eval x = .string k) (v : Value) (hy : a.eval y = v) (hr : look es k = none)
    (hK : wpList P ops Q rest (a.put o.dst undef) (putMap w b es k v)) : wpList P ops Q (o :: rest) a w := by
  refine wpList_plain hg fun K' hK' => ?_
  unfold Oper.wp
  simp [execOp, hop, hm, hx, hy, run_put_at ht hk h k v hr, Result.andThen, Sem.run_bind]
  exact hK' _ _ hK
end
end Go.Proofs.YtnckhmfajjcgpaaGreatDoor.Mt
