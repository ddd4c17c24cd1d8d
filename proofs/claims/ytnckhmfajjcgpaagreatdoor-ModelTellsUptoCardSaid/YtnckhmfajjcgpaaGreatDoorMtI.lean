/- A row of values that grows, each value's own lists in other blocks. -/
import Derived.Test.YtnckhmfajjcgpaaGreatDoorMtG
import Derived.Test.YtnckhmfajjcgpaaGreatDoorMtH
set_option linter.unusedVariables false
set_option linter.unusedSimpArgs false
set_option linter.unusedSectionVars false
namespace Go.Proofs.YtnckhmfajjcgpaaGreatDoor.Mt
set_option linter.unusedVariables false
open Go.RowKit Go.Lib
/-- the world without the block of v, and without ex -/
def off (ex : Option Nat) (v : Value) (W : World) : World := only (fun b => decide (some b ≠ v.ownBlock ∧ some b ≠ ex)) W
theorem off_size (ex : Option Nat) (v : Value) (W : World) : (off ex v W).heap.size = W.heap.size := only_size _ _
theorem off_sub (ex : Option Nat) (v : Value) (W : World) : Mono (off ex v W) W := only_sub _ _
theorem off_get {ex : Option Nat} {v : Value} {W : World} {b : Nat} (h : some b ≠ v.ownBlock) (h2 : some b ≠ ex) : (off ex v W).heap[b]? = W.heap[b]? := only_get (by simpa using ⟨h, h2⟩)
/-- the call's own row of values -/
def RowV (ex : Option Nat) (W : World) (base : Nat) (v : Value) (xs : List V) : Prop := ∃ news, W.ownsRow base 29 5 v xs.length news ∧ Flat 5 (V.At (off ex v W) W.heap.size) xs news
section
variable {ex : Option Nat} {W W' : World} {base : Nat} {v v' : Value} {xs : List V}
theorem RowV.none (ex : Option Nat) (W : World) (base : Nat) : RowV ex W base (.slice none 0 0) [] := ⟨[], World.ownsRow_nil _ _ _ _, Flat.nil⟩
theorem own_next {e : TypeId} {n k : Nat} {news : List Value} (h : W.ownsRow base e n v k news) (hb : Below W.heap.size W W') : W'.ownsRow base e n v k news :=
  World.ownsRow.kept (row := Option.none) h ⟨hb.os, hb.tape, hb.output, hb.size, fun k hk _ => hb.block k hk⟩ (by
    cases v.ownBlock with
    | none => exact .inl rfl
    | some g => exact .inr (by simp))
theorem off_next (hb : Below W.heap.size W W') : Mono (off ex v W) (off ex v W') := only_mono fun b h hl => ⟨h, hb.block b hl⟩
theorem RowV.next (h : RowV ex W base v xs) (hb : Below W.heap.size W W') : RowV ex W' base v xs := by
  obtain ⟨news, h1, h2⟩ := h
  exact ⟨news, own_next h1 hb, h2.imp fun x cs h => h.mono hb.size (off_next hb)⟩
theorem RowV.drew (h : RowV ex W base v xs) : RowV ex W.drew base v xs := h.next ((Below.refl _ _).drew)
theorem off_grown (hg : W.grownBy W' v.ownBlock) (hl : v'.ownBlock = v.ownBlock ∨ v'.ownBlock = some W.heap.size) : Mono (off ex v W) (off ex v' W') :=
  only_mono fun b h hb => by
    have h0 : some b ≠ v.ownBlock ∧ some b ≠ ex := of_decide_eq_true h
    refine ⟨decide_eq_true ⟨?_, h0.2⟩, hg.block b hb h0.1⟩
    rcases hl with e | e
    · rw [e]; exact h0.1
    · rw [e]
      intro e2
      injection e2 with e2
      omega
theorem Flat.app {α : Type} {n : Nat} {R : α → List Value → Prop} : ∀ {l l' : List α} {news news' : List Value}, Flat n R l news → Flat n R l' news' → Flat n R (l ++ l') (news ++ news')
  | l, l', news, news', h, h' => by
    refine ⟨by rw [List.length_append, List.length_append, h.1, h'.1, Nat.add_mul], fun j hj => ?_⟩
    by_cases hjl : j < l.length
    · obtain ⟨cs, h1, h2, h3⟩ := h.2 j hjl
      refine ⟨cs, h1, by rw [List.getElem_append_left hjl]; exact h2, fun i hi => ?_⟩
      rw [List.getElem?_append_left]
      · exact h3 i hi
      · rw [h.1]
        have : (j + 1) * n ≤ l.length * n := Nat.mul_le_mul_right n hjl
        rw [Nat.succ_mul] at this
        omega
    · obtain ⟨cs, h1, h2, h3⟩ := h'.2 (j - l.length) (by rw [List.length_append] at hj; omega)
      refine ⟨cs, h1, by rw [List.getElem_append_right (by omega)]; exact h2, fun i hi => ?_⟩
      have e : j * n = l.length * n + (j - l.length) * n := by rw [← Nat.add_mul]; congr 1; omega
      rw [List.getElem?_append_right (by rw [h.1]; omega), h.1, ← h3 i hi]
      congr 1
      omega
theorem RowV.push {news cs : List Value} {x : V} (h2 : Flat 5 (V.At (off ex v W) W.heap.size) xs news) (hg : W.grownBy W' v.ownBlock) (hl : v'.ownBlock = v.ownBlock ∨ v'.ownBlock = some W.heap.size)
    (hx : V.At (off ex v W) W.heap.size x cs) (hown : W'.ownsRow base 29 5 v' (xs.length + 1) (news ++ cs)) : RowV ex W' base v' (xs ++ [x]) := by
  refine ⟨news ++ cs, by rw [List.length_append]; exact hown, ?_⟩
  have hf : Flat 5 (V.At (off ex v W) W.heap.size) [x] cs := by
    have := (Flat.nil (n := 5) (R := V.At (off ex v W) W.heap.size)).cons (x := x) (cs := cs) (V.at_len hx) hx
    rwa [List.append_nil] at this
  exact (h2.app hf).imp fun x cs h => h.mono hg.size (off_grown hg hl)
theorem RowV.lst (h : RowV ex W base v xs) (hm : xs.length ≤ 1048576) : ∃ A c, v = .slice A xs.length c ∧ xs.length ≤ c ∧ Lst 5 (V.At (off ex v W) W.heap.size) W W.heap.size A xs := by
  obtain ⟨news, h1, h2⟩ := h
  obtain ⟨A, c, h3, h4, _, h5⟩ := own_lst h1 h2 hm
  exact ⟨A, c, h3, h4, h5⟩
theorem RowV.len (h : RowV ex W base v xs) : ∃ news, W.ownsRow base 29 5 v xs.length news ∧ Flat 5 (V.At (off ex v W) W.heap.size) xs news := h
theorem RowIs.off {α : Type} {n : Nat} {R : α → List Value → Prop} {g : Nat} {l : List α} (h : RowIs n R W g l) (hne : some g ≠ v.ownBlock) (hn2 : some g ≠ ex) : RowIs n R (off ex v W) g l :=
  h.keep (Nat.le_of_eq (off_size ex v W).symm) (off_get hne hn2)
/-- the world as it was lies in it all the same, where v's row was made later -/
theorem mono_off {w : World} (hb : Below w.heap.size w W) (hv : ∀ b, v.ownBlock = some b → w.heap.size ≤ b) (he : ∀ b, ex = some b → w.heap.size ≤ b) : Mono w (Mt.off ex v W) :=
  mono_only fun b hl => ⟨decide_eq_true ⟨fun e => by
    have := hv b e.symm
    omega, fun e => by
    have := he b e.symm
    omega⟩, hb.block b hl⟩
theorem RowV.ltb (h : RowV ex W base v xs) {g : Nat} (e : v.ownBlock = some g) : base ≤ g ∧ g < W.heap.size := by
  obtain ⟨news, h1, _⟩ := h
  exact World.ownsRow.lt h1 g e
end
end Go.Proofs.YtnckhmfajjcgpaaGreatDoor.Mt
namespace Go.Proofs.YtnckhmfajjcgpaaGreatDoor.Mt
set_option linter.unusedVariables false
open Go.RowKit Go.Lib
attribute [local go_sem ↓] Go.wp_at_zero Go.wp_at_succ
def docN : List ByteArray := [⟨#[105, 100]⟩, ⟨#[118, 101, 114, 115, 105, 111, 110]⟩, ⟨#[118, 97, 108, 117, 101]⟩]
def docX (t : ByteArray) (n : Int) (x : V) : List V := [.mk 4 0 t [] [], .mk 3 n ⟨#[]⟩ [] [], x]
/-- a document as it is told -/
def docV (t : ByteArray) (n : Int) (x : V) : V := .mk 6 0 ⟨#[]⟩ docN (docX t n x)
theorem leaf_at (W : World) (C : Nat) (k i : Int) (t : ByteArray) : V.At W C (.mk k i t [] []) [.int .i64 k, .int .i64 i, .string t, .slice none 0 0, .slice none 0 0] := by
  rw [V.at_mk]
  exact ⟨none, 0, none, 0, rfl, ⟨Lst.nil none, Nat.le_refl _⟩, Lst.nil none⟩
theorem docX_flat {W : World} {C : Nat} {x : V} {cs : List Value} (h : V.At W C x cs) (t : ByteArray) (n : Int) :
    Flat 5 (V.At W C) (docX t n x) ([.int .i64 4, .int .i64 0, .string t, .slice none 0 0, .slice none 0 0] ++ ([.int .i64 3, .int .i64 n, .string ⟨#[]⟩, .slice none 0 0, .slice none 0 0] ++ (cs ++ []))) :=
  ((Flat.nil.cons (V.at_len h) h).cons rfl (leaf_at W C 3 n ⟨#[]⟩)).cons rfl (leaf_at W C 4 0 t)
set_option maxRecDepth 100000 in
set_option maxHeartbeats 8000000 in
theorem mtold_any (w : World) (t : ByteArray) (n : Int) (cs : List Value) (x : V) (W : World) (C : Nat) (hx : V.At W C x cs) :
    Calls Tryz.prog 18 #[.string t, .int .i64 n, .agg cs.toArray] w fun e w' => ∃ A1 c1 A2 c2, e = .returned (.agg #[.int .i64 6, .int .i64 0, .string ⟨#[]⟩, .slice A1 3 c1, .slice A2 3 c2]) ∧ 3 ≤ c1 ∧
      Lst 1 StrR (new w.heap.size w') w'.heap.size A1 docN ∧ Lst 5 (V.At W C) (new w.heap.size w') w'.heap.size A2 (docX t n x) ∧ Below w.heap.size w w' := by
  obtain ⟨k, i, s, A1, n1, c1, A2, n2, c2, rfl⟩ := hx.form
  have HFI := Lib.hid (docX_flat hx t n)
  clear hx
  go_enter Tryz.func18, Tryz.ntmps18
  go_upto_region 1 with fail
  have FBx : Hid (Blk ((w.alloc (.cells #[.int .i64 k, .int .i64 i, .string s, .slice A1 n1 c1, .slice A2 n2 c2] 29)).alloc (.cells #[.int .i64 0, .int .i64 0, .string ⟨#[]⟩, .slice none 0 0, .slice none 0 0] 29)).drew w.heap.size 29 #[.int .i64 k, .int .i64 i, .string s, .slice A1 n1 c1, .slice A2 n2 c2]) := Lib.hid ((Blk.new w 29 #[.int .i64 k, .int .i64 i, .string s, .slice A1 n1 c1, .slice A2 n2 c2]).alloc _)
  have FRz : Hid (Blk ((w.alloc (.cells #[.int .i64 k, .int .i64 i, .string s, .slice A1 n1 c1, .slice A2 n2 c2] 29)).alloc (.cells #[.int .i64 0, .int .i64 0, .string ⟨#[]⟩, .slice none 0 0, .slice none 0 0] 29)).drew (w.heap.size + 1) 29 #[.int .i64 0, .int .i64 0, .string ⟨#[]⟩, .slice none 0 0, .slice none 0 0]) := Lib.hid (by have := Blk.new (w.alloc (.cells #[.int .i64 k, .int .i64 i, .string s, .slice A1 n1 c1, .slice A2 n2 c2] 29)) 29 #[.int .i64 0, .int .i64 0, .string ⟨#[]⟩, .slice none 0 0, .slice none 0 0]; simpa using this.drew)
  have HBd : Hid (Below w.heap.size w ((w.alloc (.cells #[.int .i64 k, .int .i64 i, .string s, .slice A1 n1 c1, .slice A2 n2 c2] 29)).alloc (.cells #[.int .i64 0, .int .i64 0, .string ⟨#[]⟩, .slice none 0 0, .slice none 0 0] 29)).drew) := Lib.hid ((((Below.refl w.heap.size w).alloc (Nat.le_refl _) _).alloc (by simp) _).drew)
  obtain ⟨w2, hw2⟩ : ∃ w2, (w.alloc (.cells #[.int .i64 k, .int .i64 i, .string s, .slice A1 n1 c1, .slice A2 n2 c2] 29)).alloc (.cells #[.int .i64 0, .int .i64 0, .string ⟨#[]⟩, .slice none 0 0, .slice none 0 0] 29) = w2 := ⟨_, rfl⟩
  obtain ⟨gr, hgr⟩ : ∃ g, w.heap.size + 1 = g := ⟨_, rfl⟩
  rw [hw2] at FBx FRz HBd ⊢
  rw [hgr] at FRz ⊢
  obtain ⟨gb, hgb⟩ : ∃ g, w.heap.size = g := ⟨_, rfl⟩
  have NE0 : Hid (gb ≠ gr) := Lib.hid (by omega)
  have HGR : Hid (w.heap.size ≤ gr) := Lib.hid (by omega)
  rw [hgb] at FBx ⊢
  clear hw2 hgr hgb
  refine wp_region_noPanic ?_
  refine wp_region_held_drew (S := (fun wx => wx.cell? ⟨gb, 0, none⟩ = some (.int .i64 k) ∧ wx.cell? ⟨gb, 1, none⟩ = some (.int .i64 i) ∧ wx.cell? ⟨gb, 2, none⟩ = some (.string s) ∧ wx.cell? ⟨gb, 3, none⟩ = some (.slice A1 n1 c1) ∧ wx.cell? ⟨gb, 4, none⟩ = some (.slice A2 n2 c2))) (by kernel_rfl) ?_ (fun hHeld => ?_)
  · exact ⟨FBx.out.cell 0, FBx.out.cell 1, FBx.out.cell 2, FBx.out.cell 3, FBx.out.cell 4⟩
  obtain ⟨W0, hW0⟩ : ∃ W0, w2.drew = W0 := ⟨_, rfl⟩
  rw [hW0] at HBd FBx FRz hHeld ⊢
  clear hW0
  refine wpAnyH_take (i := 1) (v := ?_) (by simp only [List.getElem?_toArray, List.getElem?_cons_succ, List.getElem?_cons_zero]; rfl) (by kernel_rfl) (by kernel_rfl) (by kernel_rfl) (fun _ _ _ h => h) (Or.inl ⟨by rfl, ?_⟩) (by assumption) ?_
  rotate_left
  · (intro w hSw; (try dsimp only at hSw); go_simp; try with_reducible rfl)
  try simp only [Act.put, List.setIfInBounds_toArray, List.set_cons_zero, List.set_cons_succ]
  refine wpAnyH_take (i := 3) (v := ?_) (by simp only [List.getElem?_toArray, List.getElem?_cons_succ, List.getElem?_cons_zero]; rfl) (by kernel_rfl) (by kernel_rfl) (by kernel_rfl) (fun _ _ _ h => h) (Or.inl ⟨by rfl, ?_⟩) (by assumption) ?_
  rotate_left
  · (intro w hSw; (try dsimp only at hSw); go_simp; try with_reducible rfl)
  try simp only [Act.put, List.setIfInBounds_toArray, List.set_cons_zero, List.set_cons_succ]
  refine wpAnyH_take (i := 5) (v := ?_) (by simp only [List.getElem?_toArray, List.getElem?_cons_succ, List.getElem?_cons_zero]; rfl) (by kernel_rfl) (by kernel_rfl) (by kernel_rfl) (fun _ _ _ h => h) (Or.inl ⟨by rfl, ?_⟩) (by assumption) ?_
  rotate_left
  · (intro w hSw; (try dsimp only at hSw); go_simp; try with_reducible rfl)
  try simp only [Act.put, List.setIfInBounds_toArray, List.set_cons_zero, List.set_cons_succ]
  refine wpAnyH_ready (rs := [0, 2]) (by kernel_rfl) (by simp) ?_
  refine AllReadyH.cons (o := _) (by simp only [List.getElem?_toArray, List.getElem?_cons_succ, List.getElem?_cons_zero]; rfl) (fun K hK => ?_) ?_
  · go_simp
    have HB2 := Lib.hid (HBd.out.alloc HBd.out.size (.cells #[.string ⟨#[105, 100]⟩, .string ⟨#[118, 101, 114, 115, 105, 111, 110]⟩, .string ⟨#[118, 97, 108, 117, 101]⟩] 9))
    have hbx := below_alloc W0 (.cells #[.string ⟨#[105, 100]⟩, .string ⟨#[118, 101, 114, 115, 105, 111, 110]⟩, .string ⟨#[118, 97, 108, 117, 101]⟩] 9)
    have hsz := hbx.size
    have lt_Bx := FBx.out.lt
    have lt_Rz := FRz.out.lt
    have FN3 : Hid (Blk (W0.alloc (.cells #[.string ⟨#[105, 100]⟩, .string ⟨#[118, 101, 114, 115, 105, 111, 110]⟩, .string ⟨#[118, 97, 108, 117, 101]⟩] 9)) W0.heap.size 9 #[.string ⟨#[105, 100]⟩, .string ⟨#[118, 101, 114, 115, 105, 111, 110]⟩, .string ⟨#[118, 97, 108, 117, 101]⟩]) := Lib.hid (Blk.new W0 9 #[.string ⟨#[105, 100]⟩, .string ⟨#[118, 101, 114, 115, 105, 111, 110]⟩, .string ⟨#[118, 97, 108, 117, 101]⟩])
    have FBx4 := Lib.hid (blk_keep (W' := W0.alloc (.cells #[.string ⟨#[105, 100]⟩, .string ⟨#[118, 101, 114, 115, 105, 111, 110]⟩, .string ⟨#[118, 97, 108, 117, 101]⟩] 9)) FBx.out (below_old hbx lt_Bx))
    have FRz4 := Lib.hid (blk_keep (W' := W0.alloc (.cells #[.string ⟨#[105, 100]⟩, .string ⟨#[118, 101, 114, 115, 105, 111, 110]⟩, .string ⟨#[118, 97, 108, 117, 101]⟩] 9)) FRz.out (below_old hbx lt_Rz))
    clear hHeld
    refine hK.out _ _ ?_ (fun hHeld => ?_)
    · exact ⟨FBx4.out.cell 0, FBx4.out.cell 1, FBx4.out.cell 2, FBx4.out.cell 3, FBx4.out.cell 4⟩
    clear hK K
    obtain ⟨W1, hWn⟩ : ∃ Wn, W0.alloc (.cells #[.string ⟨#[105, 100]⟩, .string ⟨#[118, 101, 114, 115, 105, 111, 110]⟩, .string ⟨#[118, 97, 108, 117, 101]⟩] 9) = Wn := ⟨_, rfl⟩
    obtain ⟨aN, ha⟩ : ∃ a, W0.heap.size = a := ⟨_, rfl⟩
    rw [hWn] at HB2 FN3 FBx4 FRz4 hHeld ⊢
    rw [ha] at FN3 ⊢
    have N5 : Hid (gb ≠ aN) := Lib.hid (by omega)
    have N6 : Hid (gr ≠ aN) := Lib.hid (by omega)
    clear hWn ha hbx hsz lt_Bx lt_Rz FBx FRz HBd
    try simp only [Act.put, List.setIfInBounds_toArray, List.set_cons_zero, List.set_cons_succ]
    refine wpAnyH_ready (rs := [2]) (by kernel_rfl) (by simp) ?_
    refine AllReadyH.cons (o := _) (by simp only [List.getElem?_toArray, List.getElem?_cons_succ, List.getElem?_cons_zero]; rfl) (fun K hK => ?_) AllReadyH.nil
    go_simp
    go_at_call 39
    refine (word_any W1 t).mono ?_
    rintro e W7 ⟨rfl, hb⟩
    have HB8 := Lib.hid (bel_next HB2.out hb)
    have hsz := hb.size
    have hbx := hb
    have lt_Bx := FBx4.out.lt
    have lt_Rz := FRz4.out.lt
    have lt_N := FN3.out.lt
    have FBx9 := Lib.hid (blk_keep (W' := W7) FBx4.out (below_old hb lt_Bx))
    have FRz9 := Lib.hid (blk_keep (W' := W7) FRz4.out (below_old hb lt_Rz))
    have FN9 := Lib.hid (blk_keep (W' := W7) FN3.out (below_old hb lt_N))
    clear hHeld
    refine hK.out _ _ ?_ (fun hHeld => ?_)
    · exact ⟨FBx9.out.cell 0, FBx9.out.cell 1, FBx9.out.cell 2, FBx9.out.cell 3, FBx9.out.cell 4⟩
    clear hK K
    clear hb hbx hsz lt_Bx lt_Rz lt_N FBx4 FRz4 FN3 HB2
    try simp only [Act.put, List.setIfInBounds_toArray, List.set_cons_zero, List.set_cons_succ]
    refine wpAnyH_ready (rs := [4]) (by kernel_rfl) (by simp) ?_
    refine AllReadyH.cons (o := _) (by simp only [List.getElem?_toArray, List.getElem?_cons_succ, List.getElem?_cons_zero]; rfl) (fun K hK => ?_) AllReadyH.nil
    go_simp
    go_at_call 15
    refine (of_any W7 n).mono ?_
    rintro e W10 ⟨rfl, hb⟩
    have HB11 := Lib.hid (bel_next HB8.out hb)
    have hsz := hb.size
    have hbx := hb
    have lt_Bx := FBx9.out.lt
    have lt_Rz := FRz9.out.lt
    have lt_N := FN9.out.lt
    have FBx12 := Lib.hid (blk_keep (W' := W10) FBx9.out (below_old hb lt_Bx))
    have FRz12 := Lib.hid (blk_keep (W' := W10) FRz9.out (below_old hb lt_Rz))
    have FN12 := Lib.hid (blk_keep (W' := W10) FN9.out (below_old hb lt_N))
    clear hHeld
    refine hK.out _ _ ?_ (fun hHeld => ?_)
    · exact ⟨FBx12.out.cell 0, FBx12.out.cell 1, FBx12.out.cell 2, FBx12.out.cell 3, FBx12.out.cell 4⟩
    clear hK K
    clear hb hbx hsz lt_Bx lt_Rz lt_N FBx9 FRz9 FN9 HB8
    try simp only [Act.put, List.setIfInBounds_toArray, List.set_cons_zero, List.set_cons_succ]
    refine wpAnyH_ready (rs := [6]) (by kernel_rfl) (by simp) ?_
    refine AllReadyH.cons (o := _) (by simp only [List.getElem?_toArray, List.getElem?_cons_succ, List.getElem?_cons_zero]; rfl) (fun K hK => ?_) AllReadyH.nil
    go_simp
    have HB14 := Lib.hid (HB11.out.alloc HB11.out.size (.cells #[.int .i64 4, .int .i64 0, .string t, .slice none 0 0, .slice none 0 0, .int .i64 3, .int .i64 n, .string ⟨#[]⟩, .slice none 0 0, .slice none 0 0, .int .i64 k, .int .i64 i, .string s, .slice A1 n1 c1, .slice A2 n2 c2] 29))
    have hbx := below_alloc W10 (.cells #[.int .i64 4, .int .i64 0, .string t, .slice none 0 0, .slice none 0 0, .int .i64 3, .int .i64 n, .string ⟨#[]⟩, .slice none 0 0, .slice none 0 0, .int .i64 k, .int .i64 i, .string s, .slice A1 n1 c1, .slice A2 n2 c2] 29)
    have hsz := hbx.size
    have lt_Bx := FBx12.out.lt
    have lt_Rz := FRz12.out.lt
    have lt_N := FN12.out.lt
    have FI15 : Hid (Blk (W10.alloc (.cells #[.int .i64 4, .int .i64 0, .string t, .slice none 0 0, .slice none 0 0, .int .i64 3, .int .i64 n, .string ⟨#[]⟩, .slice none 0 0, .slice none 0 0, .int .i64 k, .int .i64 i, .string s, .slice A1 n1 c1, .slice A2 n2 c2] 29)) W10.heap.size 29 #[.int .i64 4, .int .i64 0, .string t, .slice none 0 0, .slice none 0 0, .int .i64 3, .int .i64 n, .string ⟨#[]⟩, .slice none 0 0, .slice none 0 0, .int .i64 k, .int .i64 i, .string s, .slice A1 n1 c1, .slice A2 n2 c2]) := Lib.hid (Blk.new W10 29 #[.int .i64 4, .int .i64 0, .string t, .slice none 0 0, .slice none 0 0, .int .i64 3, .int .i64 n, .string ⟨#[]⟩, .slice none 0 0, .slice none 0 0, .int .i64 k, .int .i64 i, .string s, .slice A1 n1 c1, .slice A2 n2 c2])
    have FBx16 := Lib.hid (blk_keep (W' := W10.alloc (.cells #[.int .i64 4, .int .i64 0, .string t, .slice none 0 0, .slice none 0 0, .int .i64 3, .int .i64 n, .string ⟨#[]⟩, .slice none 0 0, .slice none 0 0, .int .i64 k, .int .i64 i, .string s, .slice A1 n1 c1, .slice A2 n2 c2] 29)) FBx12.out (below_old hbx lt_Bx))
    have FRz16 := Lib.hid (blk_keep (W' := W10.alloc (.cells #[.int .i64 4, .int .i64 0, .string t, .slice none 0 0, .slice none 0 0, .int .i64 3, .int .i64 n, .string ⟨#[]⟩, .slice none 0 0, .slice none 0 0, .int .i64 k, .int .i64 i, .string s, .slice A1 n1 c1, .slice A2 n2 c2] 29)) FRz12.out (below_old hbx lt_Rz))
    have FN16 := Lib.hid (blk_keep (W' := W10.alloc (.cells #[.int .i64 4, .int .i64 0, .string t, .slice none 0 0, .slice none 0 0, .int .i64 3, .int .i64 n, .string ⟨#[]⟩, .slice none 0 0, .slice none 0 0, .int .i64 k, .int .i64 i, .string s, .slice A1 n1 c1, .slice A2 n2 c2] 29)) FN12.out (below_old hbx lt_N))
    clear hHeld
    refine hK.out _ _ ?_ (fun hHeld => ?_)
    · exact ⟨FBx16.out.cell 0, FBx16.out.cell 1, FBx16.out.cell 2, FBx16.out.cell 3, FBx16.out.cell 4⟩
    clear hK K
    obtain ⟨W13, hWn⟩ : ∃ Wn, W10.alloc (.cells #[.int .i64 4, .int .i64 0, .string t, .slice none 0 0, .slice none 0 0, .int .i64 3, .int .i64 n, .string ⟨#[]⟩, .slice none 0 0, .slice none 0 0, .int .i64 k, .int .i64 i, .string s, .slice A1 n1 c1, .slice A2 n2 c2] 29) = Wn := ⟨_, rfl⟩
    obtain ⟨aI, ha⟩ : ∃ a, W10.heap.size = a := ⟨_, rfl⟩
    rw [hWn] at HB14 FI15 FBx16 FRz16 FN16 hHeld ⊢
    rw [ha] at FI15 ⊢
    have N17 : Hid (gb ≠ aI) := Lib.hid (by omega)
    have N18 : Hid (gr ≠ aI) := Lib.hid (by omega)
    have N19 : Hid (aN ≠ aI) := Lib.hid (by omega)
    clear hWn ha hbx hsz lt_Bx lt_Rz lt_N FBx12 FRz12 FN12 HB11
    try simp only [Act.put, List.setIfInBounds_toArray, List.set_cons_zero, List.set_cons_succ]
    refine wpAnyH_ready (rs := [7]) (by kernel_rfl) (by simp) ?_
    refine AllReadyH.cons (o := _) (by simp only [List.getElem?_toArray, List.getElem?_cons_succ, List.getElem?_cons_zero]; rfl) (fun K hK => ?_) AllReadyH.nil
    go_simp
    go_at_call 35
    refine (named_any W13 (some ⟨aN, 0, none⟩) (some ⟨aI, 0, none⟩) 3 3 3 3 W13.heap.size docN W C (docX t n x) rfl rfl ((blk_rowS FN16.out rfl).lst (by decide)) ((blk_rowV FI15.out rfl HFI.out).lst (by show 3 ≤ 1048576; decide)) (Nat.le_refl _)).mono ?_
    rintro e W20 ⟨A3, d3, A4, d4, rfl, hc3, hl3, hl4, hb⟩
    have HB21 := Lib.hid (bel_next HB14.out hb)
    have hsz := hb.size
    have hbx := hb
    have lt_Bx := FBx16.out.lt
    have lt_Rz := FRz16.out.lt
    have lt_N := FN16.out.lt
    have lt_I := FI15.out.lt
    have FBx22 := Lib.hid (blk_keep (W' := W20) FBx16.out (below_old hb lt_Bx))
    have FRz22 := Lib.hid (blk_keep (W' := W20) FRz16.out (below_old hb lt_Rz))
    have FN22 := Lib.hid (blk_keep (W' := W20) FN16.out (below_old hb lt_N))
    have FI22 := Lib.hid (blk_keep (W' := W20) FI15.out (below_old hb lt_I))
    have HLN := Lib.hid hl3
    have HLX := Lib.hid hl4
    have HC3 := Lib.hid hc3
    have HLT7 := Lib.hid lt_Rz
    clear hc3 hl3 hl4
    clear hHeld
    refine hK.out _ _ ?_ (fun hHeld => ?_)
    · exact ⟨FBx22.out.cell 0, FBx22.out.cell 1, FBx22.out.cell 2, FBx22.out.cell 3, FBx22.out.cell 4⟩
    clear hK K
    clear hb hbx hsz lt_Bx lt_Rz lt_N lt_I FBx16 FRz16 FN16 FI15 HB14
    try simp only [Act.put, List.setIfInBounds_toArray, List.set_cons_zero, List.set_cons_succ]
    refine wpAnyH_ready (rs := [8]) (by kernel_rfl) (by simp) ?_
    refine AllReadyH.cons (o := _) (by simp only [List.getElem?_toArray, List.getElem?_cons_succ, List.getElem?_cons_zero]; rfl) (fun K hK => ?_) AllReadyH.nil
    have z0 : W20.cell? ⟨gr, 0, none⟩ = some (.int .i64 0) := FRz22.out.cell 0
    have z1 : W20.cell? ⟨gr, 1, none⟩ = some (.int .i64 0) := FRz22.out.cell 1
    have z2 : W20.cell? ⟨gr, 2, none⟩ = some (.string ⟨#[]⟩) := FRz22.out.cell 2
    have z3 : W20.cell? ⟨gr, 3, none⟩ = some (.slice none 0 0) := FRz22.out.cell 3
    have z4 : W20.cell? ⟨gr, 4, none⟩ = some (.slice none 0 0) := FRz22.out.cell 4
    have zf := fun j => FRz22.out.frozen j
    go_simp
    have HB25 := Lib.hid (set5_bel HB21.out HGR.out (.int .i64 6) (.int .i64 0) (.string ⟨#[]⟩) (.slice A3 3 d3) (.slice A4 3 d4))
    have FBs := Lib.hid (blk_keep (W' := set5 W20 gr (.int .i64 6) (.int .i64 0) (.string ⟨#[]⟩) (.slice A3 3 d3) (.slice A4 3 d4)) FBx22.out (set5_far NE0.out _ _ _ _ _))
    clear hHeld
    refine hK.out _ _ ?_ (fun hHeld => ?_)
    · exact ⟨FBs.out.cell 0, FBs.out.cell 1, FBs.out.cell 2, FBs.out.cell 3, FBs.out.cell 4⟩
    clear hK K z0 z1 z2 z3 z4 zf
    have FZs : Hid (Blk (set5 W20 gr (.int .i64 6) (.int .i64 0) (.string ⟨#[]⟩) (.slice A3 3 d3) (.slice A4 3 d4)) gr 29 #[.int .i64 6, .int .i64 0, .string ⟨#[]⟩, .slice A3 3 d3, .slice A4 3 d4]) := Lib.hid (set5_blk FRz22.out _ _ _ _ _)
    have HLN2 : Hid (Lst 1 StrR (new w.heap.size (set5 W20 gr (.int .i64 6) (.int .i64 0) (.string ⟨#[]⟩) (.slice A3 3 d3) (.slice A4 3 d4))) (set5 W20 gr (.int .i64 6) (.int .i64 0) (.string ⟨#[]⟩) (.slice A3 3 d3) (.slice A4 3 d4)).heap.size A3 docN) := Lib.hid (by
      refine HLN.out.mono (only_mono fun b hb hl => ?_) (by rw [set5_size]; exact Nat.le_refl _) fun _ _ h => h
      simp only [decide_eq_true_eq] at hb ⊢
      have h7 := HLT7.out
      have h8 := HGR.out
      exact ⟨by omega, set5_far (by omega) _ _ _ _ _⟩)
    have HLX2 : Hid (Lst 5 (V.At W C) (new w.heap.size (set5 W20 gr (.int .i64 6) (.int .i64 0) (.string ⟨#[]⟩) (.slice A3 3 d3) (.slice A4 3 d4))) (set5 W20 gr (.int .i64 6) (.int .i64 0) (.string ⟨#[]⟩) (.slice A3 3 d3) (.slice A4 3 d4)).heap.size A4 (docX t n x)) := Lib.hid (by
      refine HLX.out.mono (only_mono fun b hb hl => ?_) (by rw [set5_size]; exact Nat.le_refl _) fun _ _ h => h
      simp only [decide_eq_true_eq] at hb ⊢
      have h7 := HLT7.out
      have h8 := HGR.out
      exact ⟨by omega, set5_far (by omega) _ _ _ _ _⟩)
    change wpAnyH _ _ _ _ _ _ _ _ (set5 W20 gr (.int .i64 6) (.int .i64 0) (.string ⟨#[]⟩) (.slice A3 3 d3) (.slice A4 3 d4))
    change (fun wx => wx.cell? ⟨gb, 0, none⟩ = some (.int .i64 k) ∧ wx.cell? ⟨gb, 1, none⟩ = some (.int .i64 i) ∧ wx.cell? ⟨gb, 2, none⟩ = some (.string s) ∧ wx.cell? ⟨gb, 3, none⟩ = some (.slice A1 n1 c1) ∧ wx.cell? ⟨gb, 4, none⟩ = some (.slice A2 n2 c2)) (set5 W20 gr (.int .i64 6) (.int .i64 0) (.string ⟨#[]⟩) (.slice A3 3 d3) (.slice A4 3 d4)) at hHeld
    obtain ⟨W25, hWn⟩ : ∃ Wn, set5 W20 gr (.int .i64 6) (.int .i64 0) (.string ⟨#[]⟩) (.slice A3 3 d3) (.slice A4 3 d4) = Wn := ⟨_, rfl⟩
    rw [hWn] at HB25 FZs FBs HLN2 HLX2 hHeld ⊢
    clear hWn
    try simp only [Act.put, List.setIfInBounds_toArray, List.set_cons_zero, List.set_cons_succ]
    refine wpAnyH_done (by kernel_rfl) ?_ _
    refine NoPanic.normal ?_
    have y0 : W25.cell? ⟨gr, 0, none⟩ = some (.int .i64 6) := FZs.out.cell 0
    have y1 : W25.cell? ⟨gr, 1, none⟩ = some (.int .i64 0) := FZs.out.cell 1
    have y2 : W25.cell? ⟨gr, 2, none⟩ = some (.string ⟨#[]⟩) := FZs.out.cell 2
    have y3 : W25.cell? ⟨gr, 3, none⟩ = some (.slice A3 3 d3) := FZs.out.cell 3
    have y4 : W25.cell? ⟨gr, 4, none⟩ = some (.slice A4 3 d4) := FZs.out.cell 4
    go_wp2_with fail
    refine bodyPost_ret (v := .agg #[.int .i64 6, .int .i64 0, .string ⟨#[]⟩, .slice A3 3 d3, .slice A4 3 d4]) (by rw [results_cell1 rfl]; go_simp) rfl ?_
    exact ⟨A3, d3, A4, d4, rfl, HC3.out, HLN2.out, HLX2.out, HB25.out⟩
  refine AllReadyH.cons (o := _) (by simp only [List.getElem?_toArray, List.getElem?_cons_succ, List.getElem?_cons_zero]; rfl) (fun K hK => ?_) AllReadyH.nil
  go_simp
  go_at_call 39
  refine (word_any W0 t).mono ?_
  rintro e W26 ⟨rfl, hb⟩
  have HB27 := Lib.hid (bel_next HBd.out hb)
  have hsz := hb.size
  have hbx := hb
  have lt_Bx := FBx.out.lt
  have lt_Rz := FRz.out.lt
  have FBx28 := Lib.hid (blk_keep (W' := W26) FBx.out (below_old hb lt_Bx))
  have FRz28 := Lib.hid (blk_keep (W' := W26) FRz.out (below_old hb lt_Rz))
  clear hHeld
  refine hK.out _ _ ?_ (fun hHeld => ?_)
  · exact ⟨FBx28.out.cell 0, FBx28.out.cell 1, FBx28.out.cell 2, FBx28.out.cell 3, FBx28.out.cell 4⟩
  clear hK K
  clear hb hbx hsz lt_Bx lt_Rz FBx FRz HBd
  try simp only [Act.put, List.setIfInBounds_toArray, List.set_cons_zero, List.set_cons_succ]
  refine wpAnyH_ready (rs := [0, 4]) (by kernel_rfl) (by simp) ?_
  refine AllReadyH.cons (o := _) (by simp only [List.getElem?_toArray, List.getElem?_cons_succ, List.getElem?_cons_zero]; rfl) (fun K hK => ?_) ?_
  · go_simp
    have HB30 := Lib.hid (HB27.out.alloc HB27.out.size (.cells #[.string ⟨#[105, 100]⟩, .string ⟨#[118, 101, 114, 115, 105, 111, 110]⟩, .string ⟨#[118, 97, 108, 117, 101]⟩] 9))
    have hbx := below_alloc W26 (.cells #[.string ⟨#[105, 100]⟩, .string ⟨#[118, 101, 114, 115, 105, 111, 110]⟩, .string ⟨#[118, 97, 108, 117, 101]⟩] 9)
    have hsz := hbx.size
    have lt_Bx := FBx28.out.lt
    have lt_Rz := FRz28.out.lt
    have FN31 : Hid (Blk (W26.alloc (.cells #[.string ⟨#[105, 100]⟩, .string ⟨#[118, 101, 114, 115, 105, 111, 110]⟩, .string ⟨#[118, 97, 108, 117, 101]⟩] 9)) W26.heap.size 9 #[.string ⟨#[105, 100]⟩, .string ⟨#[118, 101, 114, 115, 105, 111, 110]⟩, .string ⟨#[118, 97, 108, 117, 101]⟩]) := Lib.hid (Blk.new W26 9 #[.string ⟨#[105, 100]⟩, .string ⟨#[118, 101, 114, 115, 105, 111, 110]⟩, .string ⟨#[118, 97, 108, 117, 101]⟩])
    have FBx32 := Lib.hid (blk_keep (W' := W26.alloc (.cells #[.string ⟨#[105, 100]⟩, .string ⟨#[118, 101, 114, 115, 105, 111, 110]⟩, .string ⟨#[118, 97, 108, 117, 101]⟩] 9)) FBx28.out (below_old hbx lt_Bx))
    have FRz32 := Lib.hid (blk_keep (W' := W26.alloc (.cells #[.string ⟨#[105, 100]⟩, .string ⟨#[118, 101, 114, 115, 105, 111, 110]⟩, .string ⟨#[118, 97, 108, 117, 101]⟩] 9)) FRz28.out (below_old hbx lt_Rz))
    clear hHeld
    refine hK.out _ _ ?_ (fun hHeld => ?_)
    · exact ⟨FBx32.out.cell 0, FBx32.out.cell 1, FBx32.out.cell 2, FBx32.out.cell 3, FBx32.out.cell 4⟩
    clear hK K
    obtain ⟨W29, hWn⟩ : ∃ Wn, W26.alloc (.cells #[.string ⟨#[105, 100]⟩, .string ⟨#[118, 101, 114, 115, 105, 111, 110]⟩, .string ⟨#[118, 97, 108, 117, 101]⟩] 9) = Wn := ⟨_, rfl⟩
    obtain ⟨aN, ha⟩ : ∃ a, W26.heap.size = a := ⟨_, rfl⟩
    rw [hWn] at HB30 FN31 FBx32 FRz32 hHeld ⊢
    rw [ha] at FN31 ⊢
    have N33 : Hid (gb ≠ aN) := Lib.hid (by omega)
    have N34 : Hid (gr ≠ aN) := Lib.hid (by omega)
    clear hWn ha hbx hsz lt_Bx lt_Rz FBx28 FRz28 HB27
    try simp only [Act.put, List.setIfInBounds_toArray, List.set_cons_zero, List.set_cons_succ]
    refine wpAnyH_ready (rs := [4]) (by kernel_rfl) (by simp) ?_
    refine AllReadyH.cons (o := _) (by simp only [List.getElem?_toArray, List.getElem?_cons_succ, List.getElem?_cons_zero]; rfl) (fun K hK => ?_) AllReadyH.nil
    go_simp
    go_at_call 15
    refine (of_any W29 n).mono ?_
    rintro e W35 ⟨rfl, hb⟩
    have HB36 := Lib.hid (bel_next HB30.out hb)
    have hsz := hb.size
    have hbx := hb
    have lt_Bx := FBx32.out.lt
    have lt_Rz := FRz32.out.lt
    have lt_N := FN31.out.lt
    have FBx37 := Lib.hid (blk_keep (W' := W35) FBx32.out (below_old hb lt_Bx))
    have FRz37 := Lib.hid (blk_keep (W' := W35) FRz32.out (below_old hb lt_Rz))
    have FN37 := Lib.hid (blk_keep (W' := W35) FN31.out (below_old hb lt_N))
    clear hHeld
    refine hK.out _ _ ?_ (fun hHeld => ?_)
    · exact ⟨FBx37.out.cell 0, FBx37.out.cell 1, FBx37.out.cell 2, FBx37.out.cell 3, FBx37.out.cell 4⟩
    clear hK K
    clear hb hbx hsz lt_Bx lt_Rz lt_N FBx32 FRz32 FN31 HB30
    try simp only [Act.put, List.setIfInBounds_toArray, List.set_cons_zero, List.set_cons_succ]
    refine wpAnyH_ready (rs := [6]) (by kernel_rfl) (by simp) ?_
    refine AllReadyH.cons (o := _) (by simp only [List.getElem?_toArray, List.getElem?_cons_succ, List.getElem?_cons_zero]; rfl) (fun K hK => ?_) AllReadyH.nil
    go_simp
    have HB39 := Lib.hid (HB36.out.alloc HB36.out.size (.cells #[.int .i64 4, .int .i64 0, .string t, .slice none 0 0, .slice none 0 0, .int .i64 3, .int .i64 n, .string ⟨#[]⟩, .slice none 0 0, .slice none 0 0, .int .i64 k, .int .i64 i, .string s, .slice A1 n1 c1, .slice A2 n2 c2] 29))
    have hbx := below_alloc W35 (.cells #[.int .i64 4, .int .i64 0, .string t, .slice none 0 0, .slice none 0 0, .int .i64 3, .int .i64 n, .string ⟨#[]⟩, .slice none 0 0, .slice none 0 0, .int .i64 k, .int .i64 i, .string s, .slice A1 n1 c1, .slice A2 n2 c2] 29)
    have hsz := hbx.size
    have lt_Bx := FBx37.out.lt
    have lt_Rz := FRz37.out.lt
    have lt_N := FN37.out.lt
    have FI40 : Hid (Blk (W35.alloc (.cells #[.int .i64 4, .int .i64 0, .string t, .slice none 0 0, .slice none 0 0, .int .i64 3, .int .i64 n, .string ⟨#[]⟩, .slice none 0 0, .slice none 0 0, .int .i64 k, .int .i64 i, .string s, .slice A1 n1 c1, .slice A2 n2 c2] 29)) W35.heap.size 29 #[.int .i64 4, .int .i64 0, .string t, .slice none 0 0, .slice none 0 0, .int .i64 3, .int .i64 n, .string ⟨#[]⟩, .slice none 0 0, .slice none 0 0, .int .i64 k, .int .i64 i, .string s, .slice A1 n1 c1, .slice A2 n2 c2]) := Lib.hid (Blk.new W35 29 #[.int .i64 4, .int .i64 0, .string t, .slice none 0 0, .slice none 0 0, .int .i64 3, .int .i64 n, .string ⟨#[]⟩, .slice none 0 0, .slice none 0 0, .int .i64 k, .int .i64 i, .string s, .slice A1 n1 c1, .slice A2 n2 c2])
    have FBx41 := Lib.hid (blk_keep (W' := W35.alloc (.cells #[.int .i64 4, .int .i64 0, .string t, .slice none 0 0, .slice none 0 0, .int .i64 3, .int .i64 n, .string ⟨#[]⟩, .slice none 0 0, .slice none 0 0, .int .i64 k, .int .i64 i, .string s, .slice A1 n1 c1, .slice A2 n2 c2] 29)) FBx37.out (below_old hbx lt_Bx))
    have FRz41 := Lib.hid (blk_keep (W' := W35.alloc (.cells #[.int .i64 4, .int .i64 0, .string t, .slice none 0 0, .slice none 0 0, .int .i64 3, .int .i64 n, .string ⟨#[]⟩, .slice none 0 0, .slice none 0 0, .int .i64 k, .int .i64 i, .string s, .slice A1 n1 c1, .slice A2 n2 c2] 29)) FRz37.out (below_old hbx lt_Rz))
    have FN41 := Lib.hid (blk_keep (W' := W35.alloc (.cells #[.int .i64 4, .int .i64 0, .string t, .slice none 0 0, .slice none 0 0, .int .i64 3, .int .i64 n, .string ⟨#[]⟩, .slice none 0 0, .slice none 0 0, .int .i64 k, .int .i64 i, .string s, .slice A1 n1 c1, .slice A2 n2 c2] 29)) FN37.out (below_old hbx lt_N))
    clear hHeld
    refine hK.out _ _ ?_ (fun hHeld => ?_)
    · exact ⟨FBx41.out.cell 0, FBx41.out.cell 1, FBx41.out.cell 2, FBx41.out.cell 3, FBx41.out.cell 4⟩
    clear hK K
    obtain ⟨W38, hWn⟩ : ∃ Wn, W35.alloc (.cells #[.int .i64 4, .int .i64 0, .string t, .slice none 0 0, .slice none 0 0, .int .i64 3, .int .i64 n, .string ⟨#[]⟩, .slice none 0 0, .slice none 0 0, .int .i64 k, .int .i64 i, .string s, .slice A1 n1 c1, .slice A2 n2 c2] 29) = Wn := ⟨_, rfl⟩
    obtain ⟨aI, ha⟩ : ∃ a, W35.heap.size = a := ⟨_, rfl⟩
    rw [hWn] at HB39 FI40 FBx41 FRz41 FN41 hHeld ⊢
    rw [ha] at FI40 ⊢
    have N42 : Hid (gb ≠ aI) := Lib.hid (by omega)
    have N43 : Hid (gr ≠ aI) := Lib.hid (by omega)
    have N44 : Hid (aN ≠ aI) := Lib.hid (by omega)
    clear hWn ha hbx hsz lt_Bx lt_Rz lt_N FBx37 FRz37 FN37 HB36
    try simp only [Act.put, List.setIfInBounds_toArray, List.set_cons_zero, List.set_cons_succ]
    refine wpAnyH_ready (rs := [7]) (by kernel_rfl) (by simp) ?_
    refine AllReadyH.cons (o := _) (by simp only [List.getElem?_toArray, List.getElem?_cons_succ, List.getElem?_cons_zero]; rfl) (fun K hK => ?_) AllReadyH.nil
    go_simp
    go_at_call 35
    refine (named_any W38 (some ⟨aN, 0, none⟩) (some ⟨aI, 0, none⟩) 3 3 3 3 W38.heap.size docN W C (docX t n x) rfl rfl ((blk_rowS FN41.out rfl).lst (by decide)) ((blk_rowV FI40.out rfl HFI.out).lst (by show 3 ≤ 1048576; decide)) (Nat.le_refl _)).mono ?_
    rintro e W45 ⟨A3, d3, A4, d4, rfl, hc3, hl3, hl4, hb⟩
    have HB46 := Lib.hid (bel_next HB39.out hb)
    have hsz := hb.size
    have hbx := hb
    have lt_Bx := FBx41.out.lt
    have lt_Rz := FRz41.out.lt
    have lt_N := FN41.out.lt
    have lt_I := FI40.out.lt
    have FBx47 := Lib.hid (blk_keep (W' := W45) FBx41.out (below_old hb lt_Bx))
    have FRz47 := Lib.hid (blk_keep (W' := W45) FRz41.out (below_old hb lt_Rz))
    have FN47 := Lib.hid (blk_keep (W' := W45) FN41.out (below_old hb lt_N))
    have FI47 := Lib.hid (blk_keep (W' := W45) FI40.out (below_old hb lt_I))
    have HLN := Lib.hid hl3
    have HLX := Lib.hid hl4
    have HC3 := Lib.hid hc3
    have HLT7 := Lib.hid lt_Rz
    clear hc3 hl3 hl4
    clear hHeld
    refine hK.out _ _ ?_ (fun hHeld => ?_)
    · exact ⟨FBx47.out.cell 0, FBx47.out.cell 1, FBx47.out.cell 2, FBx47.out.cell 3, FBx47.out.cell 4⟩
    clear hK K
    clear hb hbx hsz lt_Bx lt_Rz lt_N lt_I FBx41 FRz41 FN41 FI40 HB39
    try simp only [Act.put, List.setIfInBounds_toArray, List.set_cons_zero, List.set_cons_succ]
    refine wpAnyH_ready (rs := [8]) (by kernel_rfl) (by simp) ?_
    refine AllReadyH.cons (o := _) (by simp only [List.getElem?_toArray, List.getElem?_cons_succ, List.getElem?_cons_zero]; rfl) (fun K hK => ?_) AllReadyH.nil
    have z0 : W45.cell? ⟨gr, 0, none⟩ = some (.int .i64 0) := FRz47.out.cell 0
    have z1 : W45.cell? ⟨gr, 1, none⟩ = some (.int .i64 0) := FRz47.out.cell 1
    have z2 : W45.cell? ⟨gr, 2, none⟩ = some (.string ⟨#[]⟩) := FRz47.out.cell 2
    have z3 : W45.cell? ⟨gr, 3, none⟩ = some (.slice none 0 0) := FRz47.out.cell 3
    have z4 : W45.cell? ⟨gr, 4, none⟩ = some (.slice none 0 0) := FRz47.out.cell 4
    have zf := fun j => FRz47.out.frozen j
    go_simp
    have HB50 := Lib.hid (set5_bel HB46.out HGR.out (.int .i64 6) (.int .i64 0) (.string ⟨#[]⟩) (.slice A3 3 d3) (.slice A4 3 d4))
    have FBs := Lib.hid (blk_keep (W' := set5 W45 gr (.int .i64 6) (.int .i64 0) (.string ⟨#[]⟩) (.slice A3 3 d3) (.slice A4 3 d4)) FBx47.out (set5_far NE0.out _ _ _ _ _))
    clear hHeld
    refine hK.out _ _ ?_ (fun hHeld => ?_)
    · exact ⟨FBs.out.cell 0, FBs.out.cell 1, FBs.out.cell 2, FBs.out.cell 3, FBs.out.cell 4⟩
    clear hK K z0 z1 z2 z3 z4 zf
    have FZs : Hid (Blk (set5 W45 gr (.int .i64 6) (.int .i64 0) (.string ⟨#[]⟩) (.slice A3 3 d3) (.slice A4 3 d4)) gr 29 #[.int .i64 6, .int .i64 0, .string ⟨#[]⟩, .slice A3 3 d3, .slice A4 3 d4]) := Lib.hid (set5_blk FRz47.out _ _ _ _ _)
    have HLN2 : Hid (Lst 1 StrR (new w.heap.size (set5 W45 gr (.int .i64 6) (.int .i64 0) (.string ⟨#[]⟩) (.slice A3 3 d3) (.slice A4 3 d4))) (set5 W45 gr (.int .i64 6) (.int .i64 0) (.string ⟨#[]⟩) (.slice A3 3 d3) (.slice A4 3 d4)).heap.size A3 docN) := Lib.hid (by
      refine HLN.out.mono (only_mono fun b hb hl => ?_) (by rw [set5_size]; exact Nat.le_refl _) fun _ _ h => h
      simp only [decide_eq_true_eq] at hb ⊢
      have h7 := HLT7.out
      have h8 := HGR.out
      exact ⟨by omega, set5_far (by omega) _ _ _ _ _⟩)
    have HLX2 : Hid (Lst 5 (V.At W C) (new w.heap.size (set5 W45 gr (.int .i64 6) (.int .i64 0) (.string ⟨#[]⟩) (.slice A3 3 d3) (.slice A4 3 d4))) (set5 W45 gr (.int .i64 6) (.int .i64 0) (.string ⟨#[]⟩) (.slice A3 3 d3) (.slice A4 3 d4)).heap.size A4 (docX t n x)) := Lib.hid (by
      refine HLX.out.mono (only_mono fun b hb hl => ?_) (by rw [set5_size]; exact Nat.le_refl _) fun _ _ h => h
      simp only [decide_eq_true_eq] at hb ⊢
      have h7 := HLT7.out
      have h8 := HGR.out
      exact ⟨by omega, set5_far (by omega) _ _ _ _ _⟩)
    change wpAnyH _ _ _ _ _ _ _ _ (set5 W45 gr (.int .i64 6) (.int .i64 0) (.string ⟨#[]⟩) (.slice A3 3 d3) (.slice A4 3 d4))
    change (fun wx => wx.cell? ⟨gb, 0, none⟩ = some (.int .i64 k) ∧ wx.cell? ⟨gb, 1, none⟩ = some (.int .i64 i) ∧ wx.cell? ⟨gb, 2, none⟩ = some (.string s) ∧ wx.cell? ⟨gb, 3, none⟩ = some (.slice A1 n1 c1) ∧ wx.cell? ⟨gb, 4, none⟩ = some (.slice A2 n2 c2)) (set5 W45 gr (.int .i64 6) (.int .i64 0) (.string ⟨#[]⟩) (.slice A3 3 d3) (.slice A4 3 d4)) at hHeld
    obtain ⟨W50, hWn⟩ : ∃ Wn, set5 W45 gr (.int .i64 6) (.int .i64 0) (.string ⟨#[]⟩) (.slice A3 3 d3) (.slice A4 3 d4) = Wn := ⟨_, rfl⟩
    rw [hWn] at HB50 FZs FBs HLN2 HLX2 hHeld ⊢
    clear hWn
    try simp only [Act.put, List.setIfInBounds_toArray, List.set_cons_zero, List.set_cons_succ]
    refine wpAnyH_done (by kernel_rfl) ?_ _
    refine NoPanic.normal ?_
    have y0 : W50.cell? ⟨gr, 0, none⟩ = some (.int .i64 6) := FZs.out.cell 0
    have y1 : W50.cell? ⟨gr, 1, none⟩ = some (.int .i64 0) := FZs.out.cell 1
    have y2 : W50.cell? ⟨gr, 2, none⟩ = some (.string ⟨#[]⟩) := FZs.out.cell 2
    have y3 : W50.cell? ⟨gr, 3, none⟩ = some (.slice A3 3 d3) := FZs.out.cell 3
    have y4 : W50.cell? ⟨gr, 4, none⟩ = some (.slice A4 3 d4) := FZs.out.cell 4
    go_wp2_with fail
    refine bodyPost_ret (v := .agg #[.int .i64 6, .int .i64 0, .string ⟨#[]⟩, .slice A3 3 d3, .slice A4 3 d4]) (by rw [results_cell1 rfl]; go_simp) rfl ?_
    exact ⟨A3, d3, A4, d4, rfl, HC3.out, HLN2.out, HLX2.out, HB50.out⟩
  refine AllReadyH.cons (o := _) (by simp only [List.getElem?_toArray, List.getElem?_cons_succ, List.getElem?_cons_zero]; rfl) (fun K hK => ?_) AllReadyH.nil
  go_simp
  go_at_call 15
  refine (of_any W26 n).mono ?_
  rintro e W51 ⟨rfl, hb⟩
  have HB52 := Lib.hid (bel_next HB27.out hb)
  have hsz := hb.size
  have hbx := hb
  have lt_Bx := FBx28.out.lt
  have lt_Rz := FRz28.out.lt
  have FBx53 := Lib.hid (blk_keep (W' := W51) FBx28.out (below_old hb lt_Bx))
  have FRz53 := Lib.hid (blk_keep (W' := W51) FRz28.out (below_old hb lt_Rz))
  clear hHeld
  refine hK.out _ _ ?_ (fun hHeld => ?_)
  · exact ⟨FBx53.out.cell 0, FBx53.out.cell 1, FBx53.out.cell 2, FBx53.out.cell 3, FBx53.out.cell 4⟩
  clear hK K
  clear hb hbx hsz lt_Bx lt_Rz FBx28 FRz28 HB27
  try simp only [Act.put, List.setIfInBounds_toArray, List.set_cons_zero, List.set_cons_succ]
  refine wpAnyH_ready (rs := [0, 6]) (by kernel_rfl) (by simp) ?_
  refine AllReadyH.cons (o := _) (by simp only [List.getElem?_toArray, List.getElem?_cons_succ, List.getElem?_cons_zero]; rfl) (fun K hK => ?_) ?_
  · go_simp
    have HB55 := Lib.hid (HB52.out.alloc HB52.out.size (.cells #[.string ⟨#[105, 100]⟩, .string ⟨#[118, 101, 114, 115, 105, 111, 110]⟩, .string ⟨#[118, 97, 108, 117, 101]⟩] 9))
    have hbx := below_alloc W51 (.cells #[.string ⟨#[105, 100]⟩, .string ⟨#[118, 101, 114, 115, 105, 111, 110]⟩, .string ⟨#[118, 97, 108, 117, 101]⟩] 9)
    have hsz := hbx.size
    have lt_Bx := FBx53.out.lt
    have lt_Rz := FRz53.out.lt
    have FN56 : Hid (Blk (W51.alloc (.cells #[.string ⟨#[105, 100]⟩, .string ⟨#[118, 101, 114, 115, 105, 111, 110]⟩, .string ⟨#[118, 97, 108, 117, 101]⟩] 9)) W51.heap.size 9 #[.string ⟨#[105, 100]⟩, .string ⟨#[118, 101, 114, 115, 105, 111, 110]⟩, .string ⟨#[118, 97, 108, 117, 101]⟩]) := Lib.hid (Blk.new W51 9 #[.string ⟨#[105, 100]⟩, .string ⟨#[118, 101, 114, 115, 105, 111, 110]⟩, .string ⟨#[118, 97, 108, 117, 101]⟩])
    have FBx57 := Lib.hid (blk_keep (W' := W51.alloc (.cells #[.string ⟨#[105, 100]⟩, .string ⟨#[118, 101, 114, 115, 105, 111, 110]⟩, .string ⟨#[118, 97, 108, 117, 101]⟩] 9)) FBx53.out (below_old hbx lt_Bx))
    have FRz57 := Lib.hid (blk_keep (W' := W51.alloc (.cells #[.string ⟨#[105, 100]⟩, .string ⟨#[118, 101, 114, 115, 105, 111, 110]⟩, .string ⟨#[118, 97, 108, 117, 101]⟩] 9)) FRz53.out (below_old hbx lt_Rz))
    clear hHeld
    refine hK.out _ _ ?_ (fun hHeld => ?_)
    · exact ⟨FBx57.out.cell 0, FBx57.out.cell 1, FBx57.out.cell 2, FBx57.out.cell 3, FBx57.out.cell 4⟩
    clear hK K
    obtain ⟨W54, hWn⟩ : ∃ Wn, W51.alloc (.cells #[.string ⟨#[105, 100]⟩, .string ⟨#[118, 101, 114, 115, 105, 111, 110]⟩, .string ⟨#[118, 97, 108, 117, 101]⟩] 9) = Wn := ⟨_, rfl⟩
    obtain ⟨aN, ha⟩ : ∃ a, W51.heap.size = a := ⟨_, rfl⟩
    rw [hWn] at HB55 FN56 FBx57 FRz57 hHeld ⊢
    rw [ha] at FN56 ⊢
    have N58 : Hid (gb ≠ aN) := Lib.hid (by omega)
    have N59 : Hid (gr ≠ aN) := Lib.hid (by omega)
    clear hWn ha hbx hsz lt_Bx lt_Rz FBx53 FRz53 HB52
    try simp only [Act.put, List.setIfInBounds_toArray, List.set_cons_zero, List.set_cons_succ]
    refine wpAnyH_ready (rs := [6]) (by kernel_rfl) (by simp) ?_
    refine AllReadyH.cons (o := _) (by simp only [List.getElem?_toArray, List.getElem?_cons_succ, List.getElem?_cons_zero]; rfl) (fun K hK => ?_) AllReadyH.nil
    go_simp
    have HB61 := Lib.hid (HB55.out.alloc HB55.out.size (.cells #[.int .i64 4, .int .i64 0, .string t, .slice none 0 0, .slice none 0 0, .int .i64 3, .int .i64 n, .string ⟨#[]⟩, .slice none 0 0, .slice none 0 0, .int .i64 k, .int .i64 i, .string s, .slice A1 n1 c1, .slice A2 n2 c2] 29))
    have hbx := below_alloc W54 (.cells #[.int .i64 4, .int .i64 0, .string t, .slice none 0 0, .slice none 0 0, .int .i64 3, .int .i64 n, .string ⟨#[]⟩, .slice none 0 0, .slice none 0 0, .int .i64 k, .int .i64 i, .string s, .slice A1 n1 c1, .slice A2 n2 c2] 29)
    have hsz := hbx.size
    have lt_Bx := FBx57.out.lt
    have lt_Rz := FRz57.out.lt
    have lt_N := FN56.out.lt
    have FI62 : Hid (Blk (W54.alloc (.cells #[.int .i64 4, .int .i64 0, .string t, .slice none 0 0, .slice none 0 0, .int .i64 3, .int .i64 n, .string ⟨#[]⟩, .slice none 0 0, .slice none 0 0, .int .i64 k, .int .i64 i, .string s, .slice A1 n1 c1, .slice A2 n2 c2] 29)) W54.heap.size 29 #[.int .i64 4, .int .i64 0, .string t, .slice none 0 0, .slice none 0 0, .int .i64 3, .int .i64 n, .string ⟨#[]⟩, .slice none 0 0, .slice none 0 0, .int .i64 k, .int .i64 i, .string s, .slice A1 n1 c1, .slice A2 n2 c2]) := Lib.hid (Blk.new W54 29 #[.int .i64 4, .int .i64 0, .string t, .slice none 0 0, .slice none 0 0, .int .i64 3, .int .i64 n, .string ⟨#[]⟩, .slice none 0 0, .slice none 0 0, .int .i64 k, .int .i64 i, .string s, .slice A1 n1 c1, .slice A2 n2 c2])
    have FBx63 := Lib.hid (blk_keep (W' := W54.alloc (.cells #[.int .i64 4, .int .i64 0, .string t, .slice none 0 0, .slice none 0 0, .int .i64 3, .int .i64 n, .string ⟨#[]⟩, .slice none 0 0, .slice none 0 0, .int .i64 k, .int .i64 i, .string s, .slice A1 n1 c1, .slice A2 n2 c2] 29)) FBx57.out (below_old hbx lt_Bx))
    have FRz63 := Lib.hid (blk_keep (W' := W54.alloc (.cells #[.int .i64 4, .int .i64 0, .string t, .slice none 0 0, .slice none 0 0, .int .i64 3, .int .i64 n, .string ⟨#[]⟩, .slice none 0 0, .slice none 0 0, .int .i64 k, .int .i64 i, .string s, .slice A1 n1 c1, .slice A2 n2 c2] 29)) FRz57.out (below_old hbx lt_Rz))
    have FN63 := Lib.hid (blk_keep (W' := W54.alloc (.cells #[.int .i64 4, .int .i64 0, .string t, .slice none 0 0, .slice none 0 0, .int .i64 3, .int .i64 n, .string ⟨#[]⟩, .slice none 0 0, .slice none 0 0, .int .i64 k, .int .i64 i, .string s, .slice A1 n1 c1, .slice A2 n2 c2] 29)) FN56.out (below_old hbx lt_N))
    clear hHeld
    refine hK.out _ _ ?_ (fun hHeld => ?_)
    · exact ⟨FBx63.out.cell 0, FBx63.out.cell 1, FBx63.out.cell 2, FBx63.out.cell 3, FBx63.out.cell 4⟩
    clear hK K
    obtain ⟨W60, hWn⟩ : ∃ Wn, W54.alloc (.cells #[.int .i64 4, .int .i64 0, .string t, .slice none 0 0, .slice none 0 0, .int .i64 3, .int .i64 n, .string ⟨#[]⟩, .slice none 0 0, .slice none 0 0, .int .i64 k, .int .i64 i, .string s, .slice A1 n1 c1, .slice A2 n2 c2] 29) = Wn := ⟨_, rfl⟩
    obtain ⟨aI, ha⟩ : ∃ a, W54.heap.size = a := ⟨_, rfl⟩
    rw [hWn] at HB61 FI62 FBx63 FRz63 FN63 hHeld ⊢
    rw [ha] at FI62 ⊢
    have N64 : Hid (gb ≠ aI) := Lib.hid (by omega)
    have N65 : Hid (gr ≠ aI) := Lib.hid (by omega)
    have N66 : Hid (aN ≠ aI) := Lib.hid (by omega)
    clear hWn ha hbx hsz lt_Bx lt_Rz lt_N FBx57 FRz57 FN56 HB55
    try simp only [Act.put, List.setIfInBounds_toArray, List.set_cons_zero, List.set_cons_succ]
    refine wpAnyH_ready (rs := [7]) (by kernel_rfl) (by simp) ?_
    refine AllReadyH.cons (o := _) (by simp only [List.getElem?_toArray, List.getElem?_cons_succ, List.getElem?_cons_zero]; rfl) (fun K hK => ?_) AllReadyH.nil
    go_simp
    go_at_call 35
    refine (named_any W60 (some ⟨aN, 0, none⟩) (some ⟨aI, 0, none⟩) 3 3 3 3 W60.heap.size docN W C (docX t n x) rfl rfl ((blk_rowS FN63.out rfl).lst (by decide)) ((blk_rowV FI62.out rfl HFI.out).lst (by show 3 ≤ 1048576; decide)) (Nat.le_refl _)).mono ?_
    rintro e W67 ⟨A3, d3, A4, d4, rfl, hc3, hl3, hl4, hb⟩
    have HB68 := Lib.hid (bel_next HB61.out hb)
    have hsz := hb.size
    have hbx := hb
    have lt_Bx := FBx63.out.lt
    have lt_Rz := FRz63.out.lt
    have lt_N := FN63.out.lt
    have lt_I := FI62.out.lt
    have FBx69 := Lib.hid (blk_keep (W' := W67) FBx63.out (below_old hb lt_Bx))
    have FRz69 := Lib.hid (blk_keep (W' := W67) FRz63.out (below_old hb lt_Rz))
    have FN69 := Lib.hid (blk_keep (W' := W67) FN63.out (below_old hb lt_N))
    have FI69 := Lib.hid (blk_keep (W' := W67) FI62.out (below_old hb lt_I))
    have HLN := Lib.hid hl3
    have HLX := Lib.hid hl4
    have HC3 := Lib.hid hc3
    have HLT7 := Lib.hid lt_Rz
    clear hc3 hl3 hl4
    clear hHeld
    refine hK.out _ _ ?_ (fun hHeld => ?_)
    · exact ⟨FBx69.out.cell 0, FBx69.out.cell 1, FBx69.out.cell 2, FBx69.out.cell 3, FBx69.out.cell 4⟩
    clear hK K
    clear hb hbx hsz lt_Bx lt_Rz lt_N lt_I FBx63 FRz63 FN63 FI62 HB61
    try simp only [Act.put, List.setIfInBounds_toArray, List.set_cons_zero, List.set_cons_succ]
    refine wpAnyH_ready (rs := [8]) (by kernel_rfl) (by simp) ?_
    refine AllReadyH.cons (o := _) (by simp only [List.getElem?_toArray, List.getElem?_cons_succ, List.getElem?_cons_zero]; rfl) (fun K hK => ?_) AllReadyH.nil
    have z0 : W67.cell? ⟨gr, 0, none⟩ = some (.int .i64 0) := FRz69.out.cell 0
    have z1 : W67.cell? ⟨gr, 1, none⟩ = some (.int .i64 0) := FRz69.out.cell 1
    have z2 : W67.cell? ⟨gr, 2, none⟩ = some (.string ⟨#[]⟩) := FRz69.out.cell 2
    have z3 : W67.cell? ⟨gr, 3, none⟩ = some (.slice none 0 0) := FRz69.out.cell 3
    have z4 : W67.cell? ⟨gr, 4, none⟩ = some (.slice none 0 0) := FRz69.out.cell 4
    have zf := fun j => FRz69.out.frozen j
    go_simp
    have HB72 := Lib.hid (set5_bel HB68.out HGR.out (.int .i64 6) (.int .i64 0) (.string ⟨#[]⟩) (.slice A3 3 d3) (.slice A4 3 d4))
    have FBs := Lib.hid (blk_keep (W' := set5 W67 gr (.int .i64 6) (.int .i64 0) (.string ⟨#[]⟩) (.slice A3 3 d3) (.slice A4 3 d4)) FBx69.out (set5_far NE0.out _ _ _ _ _))
    clear hHeld
    refine hK.out _ _ ?_ (fun hHeld => ?_)
    · exact ⟨FBs.out.cell 0, FBs.out.cell 1, FBs.out.cell 2, FBs.out.cell 3, FBs.out.cell 4⟩
    clear hK K z0 z1 z2 z3 z4 zf
    have FZs : Hid (Blk (set5 W67 gr (.int .i64 6) (.int .i64 0) (.string ⟨#[]⟩) (.slice A3 3 d3) (.slice A4 3 d4)) gr 29 #[.int .i64 6, .int .i64 0, .string ⟨#[]⟩, .slice A3 3 d3, .slice A4 3 d4]) := Lib.hid (set5_blk FRz69.out _ _ _ _ _)
    have HLN2 : Hid (Lst 1 StrR (new w.heap.size (set5 W67 gr (.int .i64 6) (.int .i64 0) (.string ⟨#[]⟩) (.slice A3 3 d3) (.slice A4 3 d4))) (set5 W67 gr (.int .i64 6) (.int .i64 0) (.string ⟨#[]⟩) (.slice A3 3 d3) (.slice A4 3 d4)).heap.size A3 docN) := Lib.hid (by
      refine HLN.out.mono (only_mono fun b hb hl => ?_) (by rw [set5_size]; exact Nat.le_refl _) fun _ _ h => h
      simp only [decide_eq_true_eq] at hb ⊢
      have h7 := HLT7.out
      have h8 := HGR.out
      exact ⟨by omega, set5_far (by omega) _ _ _ _ _⟩)
    have HLX2 : Hid (Lst 5 (V.At W C) (new w.heap.size (set5 W67 gr (.int .i64 6) (.int .i64 0) (.string ⟨#[]⟩) (.slice A3 3 d3) (.slice A4 3 d4))) (set5 W67 gr (.int .i64 6) (.int .i64 0) (.string ⟨#[]⟩) (.slice A3 3 d3) (.slice A4 3 d4)).heap.size A4 (docX t n x)) := Lib.hid (by
      refine HLX.out.mono (only_mono fun b hb hl => ?_) (by rw [set5_size]; exact Nat.le_refl _) fun _ _ h => h
      simp only [decide_eq_true_eq] at hb ⊢
      have h7 := HLT7.out
      have h8 := HGR.out
      exact ⟨by omega, set5_far (by omega) _ _ _ _ _⟩)
    change wpAnyH _ _ _ _ _ _ _ _ (set5 W67 gr (.int .i64 6) (.int .i64 0) (.string ⟨#[]⟩) (.slice A3 3 d3) (.slice A4 3 d4))
    change (fun wx => wx.cell? ⟨gb, 0, none⟩ = some (.int .i64 k) ∧ wx.cell? ⟨gb, 1, none⟩ = some (.int .i64 i) ∧ wx.cell? ⟨gb, 2, none⟩ = some (.string s) ∧ wx.cell? ⟨gb, 3, none⟩ = some (.slice A1 n1 c1) ∧ wx.cell? ⟨gb, 4, none⟩ = some (.slice A2 n2 c2)) (set5 W67 gr (.int .i64 6) (.int .i64 0) (.string ⟨#[]⟩) (.slice A3 3 d3) (.slice A4 3 d4)) at hHeld
    obtain ⟨W72, hWn⟩ : ∃ Wn, set5 W67 gr (.int .i64 6) (.int .i64 0) (.string ⟨#[]⟩) (.slice A3 3 d3) (.slice A4 3 d4) = Wn := ⟨_, rfl⟩
    rw [hWn] at HB72 FZs FBs HLN2 HLX2 hHeld ⊢
    clear hWn
    try simp only [Act.put, List.setIfInBounds_toArray, List.set_cons_zero, List.set_cons_succ]
    refine wpAnyH_done (by kernel_rfl) ?_ _
    refine NoPanic.normal ?_
    have y0 : W72.cell? ⟨gr, 0, none⟩ = some (.int .i64 6) := FZs.out.cell 0
    have y1 : W72.cell? ⟨gr, 1, none⟩ = some (.int .i64 0) := FZs.out.cell 1
    have y2 : W72.cell? ⟨gr, 2, none⟩ = some (.string ⟨#[]⟩) := FZs.out.cell 2
    have y3 : W72.cell? ⟨gr, 3, none⟩ = some (.slice A3 3 d3) := FZs.out.cell 3
    have y4 : W72.cell? ⟨gr, 4, none⟩ = some (.slice A4 3 d4) := FZs.out.cell 4
    go_wp2_with fail
    refine bodyPost_ret (v := .agg #[.int .i64 6, .int .i64 0, .string ⟨#[]⟩, .slice A3 3 d3, .slice A4 3 d4]) (by rw [results_cell1 rfl]; go_simp) rfl ?_
    exact ⟨A3, d3, A4, d4, rfl, HC3.out, HLN2.out, HLX2.out, HB72.out⟩
  refine AllReadyH.cons (o := _) (by simp only [List.getElem?_toArray, List.getElem?_cons_succ, List.getElem?_cons_zero]; rfl) (fun K hK => ?_) AllReadyH.nil
  go_simp
  have HB74 := Lib.hid (HB52.out.alloc HB52.out.size (.cells #[.int .i64 4, .int .i64 0, .string t, .slice none 0 0, .slice none 0 0, .int .i64 3, .int .i64 n, .string ⟨#[]⟩, .slice none 0 0, .slice none 0 0, .int .i64 k, .int .i64 i, .string s, .slice A1 n1 c1, .slice A2 n2 c2] 29))
  have hbx := below_alloc W51 (.cells #[.int .i64 4, .int .i64 0, .string t, .slice none 0 0, .slice none 0 0, .int .i64 3, .int .i64 n, .string ⟨#[]⟩, .slice none 0 0, .slice none 0 0, .int .i64 k, .int .i64 i, .string s, .slice A1 n1 c1, .slice A2 n2 c2] 29)
  have hsz := hbx.size
  have lt_Bx := FBx53.out.lt
  have lt_Rz := FRz53.out.lt
  have FI75 : Hid (Blk (W51.alloc (.cells #[.int .i64 4, .int .i64 0, .string t, .slice none 0 0, .slice none 0 0, .int .i64 3, .int .i64 n, .string ⟨#[]⟩, .slice none 0 0, .slice none 0 0, .int .i64 k, .int .i64 i, .string s, .slice A1 n1 c1, .slice A2 n2 c2] 29)) W51.heap.size 29 #[.int .i64 4, .int .i64 0, .string t, .slice none 0 0, .slice none 0 0, .int .i64 3, .int .i64 n, .string ⟨#[]⟩, .slice none 0 0, .slice none 0 0, .int .i64 k, .int .i64 i, .string s, .slice A1 n1 c1, .slice A2 n2 c2]) := Lib.hid (Blk.new W51 29 #[.int .i64 4, .int .i64 0, .string t, .slice none 0 0, .slice none 0 0, .int .i64 3, .int .i64 n, .string ⟨#[]⟩, .slice none 0 0, .slice none 0 0, .int .i64 k, .int .i64 i, .string s, .slice A1 n1 c1, .slice A2 n2 c2])
  have FBx76 := Lib.hid (blk_keep (W' := W51.alloc (.cells #[.int .i64 4, .int .i64 0, .string t, .slice none 0 0, .slice none 0 0, .int .i64 3, .int .i64 n, .string ⟨#[]⟩, .slice none 0 0, .slice none 0 0, .int .i64 k, .int .i64 i, .string s, .slice A1 n1 c1, .slice A2 n2 c2] 29)) FBx53.out (below_old hbx lt_Bx))
  have FRz76 := Lib.hid (blk_keep (W' := W51.alloc (.cells #[.int .i64 4, .int .i64 0, .string t, .slice none 0 0, .slice none 0 0, .int .i64 3, .int .i64 n, .string ⟨#[]⟩, .slice none 0 0, .slice none 0 0, .int .i64 k, .int .i64 i, .string s, .slice A1 n1 c1, .slice A2 n2 c2] 29)) FRz53.out (below_old hbx lt_Rz))
  clear hHeld
  refine hK.out _ _ ?_ (fun hHeld => ?_)
  · exact ⟨FBx76.out.cell 0, FBx76.out.cell 1, FBx76.out.cell 2, FBx76.out.cell 3, FBx76.out.cell 4⟩
  clear hK K
  obtain ⟨W73, hWn⟩ : ∃ Wn, W51.alloc (.cells #[.int .i64 4, .int .i64 0, .string t, .slice none 0 0, .slice none 0 0, .int .i64 3, .int .i64 n, .string ⟨#[]⟩, .slice none 0 0, .slice none 0 0, .int .i64 k, .int .i64 i, .string s, .slice A1 n1 c1, .slice A2 n2 c2] 29) = Wn := ⟨_, rfl⟩
  obtain ⟨aI, ha⟩ : ∃ a, W51.heap.size = a := ⟨_, rfl⟩
  rw [hWn] at HB74 FI75 FBx76 FRz76 hHeld ⊢
  rw [ha] at FI75 ⊢
  have N77 : Hid (gb ≠ aI) := Lib.hid (by omega)
  have N78 : Hid (gr ≠ aI) := Lib.hid (by omega)
  clear hWn ha hbx hsz lt_Bx lt_Rz FBx53 FRz53 HB52
  try simp only [Act.put, List.setIfInBounds_toArray, List.set_cons_zero, List.set_cons_succ]
  refine wpAnyH_ready (rs := [0]) (by kernel_rfl) (by simp) ?_
  refine AllReadyH.cons (o := _) (by simp only [List.getElem?_toArray, List.getElem?_cons_succ, List.getElem?_cons_zero]; rfl) (fun K hK => ?_) AllReadyH.nil
  go_simp
  have HB80 := Lib.hid (HB74.out.alloc HB74.out.size (.cells #[.string ⟨#[105, 100]⟩, .string ⟨#[118, 101, 114, 115, 105, 111, 110]⟩, .string ⟨#[118, 97, 108, 117, 101]⟩] 9))
  have hbx := below_alloc W73 (.cells #[.string ⟨#[105, 100]⟩, .string ⟨#[118, 101, 114, 115, 105, 111, 110]⟩, .string ⟨#[118, 97, 108, 117, 101]⟩] 9)
  have hsz := hbx.size
  have lt_Bx := FBx76.out.lt
  have lt_Rz := FRz76.out.lt
  have lt_I := FI75.out.lt
  have FN81 : Hid (Blk (W73.alloc (.cells #[.string ⟨#[105, 100]⟩, .string ⟨#[118, 101, 114, 115, 105, 111, 110]⟩, .string ⟨#[118, 97, 108, 117, 101]⟩] 9)) W73.heap.size 9 #[.string ⟨#[105, 100]⟩, .string ⟨#[118, 101, 114, 115, 105, 111, 110]⟩, .string ⟨#[118, 97, 108, 117, 101]⟩]) := Lib.hid (Blk.new W73 9 #[.string ⟨#[105, 100]⟩, .string ⟨#[118, 101, 114, 115, 105, 111, 110]⟩, .string ⟨#[118, 97, 108, 117, 101]⟩])
  have FBx82 := Lib.hid (blk_keep (W' := W73.alloc (.cells #[.string ⟨#[105, 100]⟩, .string ⟨#[118, 101, 114, 115, 105, 111, 110]⟩, .string ⟨#[118, 97, 108, 117, 101]⟩] 9)) FBx76.out (below_old hbx lt_Bx))
  have FRz82 := Lib.hid (blk_keep (W' := W73.alloc (.cells #[.string ⟨#[105, 100]⟩, .string ⟨#[118, 101, 114, 115, 105, 111, 110]⟩, .string ⟨#[118, 97, 108, 117, 101]⟩] 9)) FRz76.out (below_old hbx lt_Rz))
  have FI82 := Lib.hid (blk_keep (W' := W73.alloc (.cells #[.string ⟨#[105, 100]⟩, .string ⟨#[118, 101, 114, 115, 105, 111, 110]⟩, .string ⟨#[118, 97, 108, 117, 101]⟩] 9)) FI75.out (below_old hbx lt_I))
  clear hHeld
  refine hK.out _ _ ?_ (fun hHeld => ?_)
  · exact ⟨FBx82.out.cell 0, FBx82.out.cell 1, FBx82.out.cell 2, FBx82.out.cell 3, FBx82.out.cell 4⟩
  clear hK K
  obtain ⟨W79, hWn⟩ : ∃ Wn, W73.alloc (.cells #[.string ⟨#[105, 100]⟩, .string ⟨#[118, 101, 114, 115, 105, 111, 110]⟩, .string ⟨#[118, 97, 108, 117, 101]⟩] 9) = Wn := ⟨_, rfl⟩
  obtain ⟨aN, ha⟩ : ∃ a, W73.heap.size = a := ⟨_, rfl⟩
  rw [hWn] at HB80 FN81 FBx82 FRz82 FI82 hHeld ⊢
  rw [ha] at FN81 ⊢
  have N83 : Hid (gb ≠ aN) := Lib.hid (by omega)
  have N84 : Hid (gr ≠ aN) := Lib.hid (by omega)
  have N85 : Hid (aI ≠ aN) := Lib.hid (by omega)
  clear hWn ha hbx hsz lt_Bx lt_Rz lt_I FBx76 FRz76 FI75 HB74
  try simp only [Act.put, List.setIfInBounds_toArray, List.set_cons_zero, List.set_cons_succ]
  refine wpAnyH_ready (rs := [7]) (by kernel_rfl) (by simp) ?_
  refine AllReadyH.cons (o := _) (by simp only [List.getElem?_toArray, List.getElem?_cons_succ, List.getElem?_cons_zero]; rfl) (fun K hK => ?_) AllReadyH.nil
  go_simp
  go_at_call 35
  refine (named_any W79 (some ⟨aN, 0, none⟩) (some ⟨aI, 0, none⟩) 3 3 3 3 W79.heap.size docN W C (docX t n x) rfl rfl ((blk_rowS FN81.out rfl).lst (by decide)) ((blk_rowV FI82.out rfl HFI.out).lst (by show 3 ≤ 1048576; decide)) (Nat.le_refl _)).mono ?_
  rintro e W86 ⟨A3, d3, A4, d4, rfl, hc3, hl3, hl4, hb⟩
  have HB87 := Lib.hid (bel_next HB80.out hb)
  have hsz := hb.size
  have hbx := hb
  have lt_Bx := FBx82.out.lt
  have lt_Rz := FRz82.out.lt
  have lt_I := FI82.out.lt
  have lt_N := FN81.out.lt
  have FBx88 := Lib.hid (blk_keep (W' := W86) FBx82.out (below_old hb lt_Bx))
  have FRz88 := Lib.hid (blk_keep (W' := W86) FRz82.out (below_old hb lt_Rz))
  have FI88 := Lib.hid (blk_keep (W' := W86) FI82.out (below_old hb lt_I))
  have FN88 := Lib.hid (blk_keep (W' := W86) FN81.out (below_old hb lt_N))
  have HLN := Lib.hid hl3
  have HLX := Lib.hid hl4
  have HC3 := Lib.hid hc3
  have HLT7 := Lib.hid lt_Rz
  clear hc3 hl3 hl4
  clear hHeld
  refine hK.out _ _ ?_ (fun hHeld => ?_)
  · exact ⟨FBx88.out.cell 0, FBx88.out.cell 1, FBx88.out.cell 2, FBx88.out.cell 3, FBx88.out.cell 4⟩
  clear hK K
  clear hb hbx hsz lt_Bx lt_Rz lt_I lt_N FBx82 FRz82 FI82 FN81 HB80
  try simp only [Act.put, List.setIfInBounds_toArray, List.set_cons_zero, List.set_cons_succ]
  refine wpAnyH_ready (rs := [8]) (by kernel_rfl) (by simp) ?_
  refine AllReadyH.cons (o := _) (by simp only [List.getElem?_toArray, List.getElem?_cons_succ, List.getElem?_cons_zero]; rfl) (fun K hK => ?_) AllReadyH.nil
  have z0 : W86.cell? ⟨gr, 0, none⟩ = some (.int .i64 0) := FRz88.out.cell 0
  have z1 : W86.cell? ⟨gr, 1, none⟩ = some (.int .i64 0) := FRz88.out.cell 1
  have z2 : W86.cell? ⟨gr, 2, none⟩ = some (.string ⟨#[]⟩) := FRz88.out.cell 2
  have z3 : W86.cell? ⟨gr, 3, none⟩ = some (.slice none 0 0) := FRz88.out.cell 3
  have z4 : W86.cell? ⟨gr, 4, none⟩ = some (.slice none 0 0) := FRz88.out.cell 4
  have zf := fun j => FRz88.out.frozen j
  go_simp
  have HB91 := Lib.hid (set5_bel HB87.out HGR.out (.int .i64 6) (.int .i64 0) (.string ⟨#[]⟩) (.slice A3 3 d3) (.slice A4 3 d4))
  have FBs := Lib.hid (blk_keep (W' := set5 W86 gr (.int .i64 6) (.int .i64 0) (.string ⟨#[]⟩) (.slice A3 3 d3) (.slice A4 3 d4)) FBx88.out (set5_far NE0.out _ _ _ _ _))
  clear hHeld
  refine hK.out _ _ ?_ (fun hHeld => ?_)
  · exact ⟨FBs.out.cell 0, FBs.out.cell 1, FBs.out.cell 2, FBs.out.cell 3, FBs.out.cell 4⟩
  clear hK K z0 z1 z2 z3 z4 zf
  have FZs : Hid (Blk (set5 W86 gr (.int .i64 6) (.int .i64 0) (.string ⟨#[]⟩) (.slice A3 3 d3) (.slice A4 3 d4)) gr 29 #[.int .i64 6, .int .i64 0, .string ⟨#[]⟩, .slice A3 3 d3, .slice A4 3 d4]) := Lib.hid (set5_blk FRz88.out _ _ _ _ _)
  have HLN2 : Hid (Lst 1 StrR (new w.heap.size (set5 W86 gr (.int .i64 6) (.int .i64 0) (.string ⟨#[]⟩) (.slice A3 3 d3) (.slice A4 3 d4))) (set5 W86 gr (.int .i64 6) (.int .i64 0) (.string ⟨#[]⟩) (.slice A3 3 d3) (.slice A4 3 d4)).heap.size A3 docN) := Lib.hid (by
    refine HLN.out.mono (only_mono fun b hb hl => ?_) (by rw [set5_size]; exact Nat.le_refl _) fun _ _ h => h
    simp only [decide_eq_true_eq] at hb ⊢
    have h7 := HLT7.out
    have h8 := HGR.out
    exact ⟨by omega, set5_far (by omega) _ _ _ _ _⟩)
  have HLX2 : Hid (Lst 5 (V.At W C) (new w.heap.size (set5 W86 gr (.int .i64 6) (.int .i64 0) (.string ⟨#[]⟩) (.slice A3 3 d3) (.slice A4 3 d4))) (set5 W86 gr (.int .i64 6) (.int .i64 0) (.string ⟨#[]⟩) (.slice A3 3 d3) (.slice A4 3 d4)).heap.size A4 (docX t n x)) := Lib.hid (by
    refine HLX.out.mono (only_mono fun b hb hl => ?_) (by rw [set5_size]; exact Nat.le_refl _) fun _ _ h => h
    simp only [decide_eq_true_eq] at hb ⊢
    have h7 := HLT7.out
    have h8 := HGR.out
    exact ⟨by omega, set5_far (by omega) _ _ _ _ _⟩)
  change wpAnyH _ _ _ _ _ _ _ _ (set5 W86 gr (.int .i64 6) (.int .i64 0) (.string ⟨#[]⟩) (.slice A3 3 d3) (.slice A4 3 d4))
  change (fun wx => wx.cell? ⟨gb, 0, none⟩ = some (.int .i64 k) ∧ wx.cell? ⟨gb, 1, none⟩ = some (.int .i64 i) ∧ wx.cell? ⟨gb, 2, none⟩ = some (.string s) ∧ wx.cell? ⟨gb, 3, none⟩ = some (.slice A1 n1 c1) ∧ wx.cell? ⟨gb, 4, none⟩ = some (.slice A2 n2 c2)) (set5 W86 gr (.int .i64 6) (.int .i64 0) (.string ⟨#[]⟩) (.slice A3 3 d3) (.slice A4 3 d4)) at hHeld
  obtain ⟨W91, hWn⟩ : ∃ Wn, set5 W86 gr (.int .i64 6) (.int .i64 0) (.string ⟨#[]⟩) (.slice A3 3 d3) (.slice A4 3 d4) = Wn := ⟨_, rfl⟩
  rw [hWn] at HB91 FZs FBs HLN2 HLX2 hHeld ⊢
  clear hWn
  try simp only [Act.put, List.setIfInBounds_toArray, List.set_cons_zero, List.set_cons_succ]
  refine wpAnyH_done (by kernel_rfl) ?_ _
  refine NoPanic.normal ?_
  have y0 : W91.cell? ⟨gr, 0, none⟩ = some (.int .i64 6) := FZs.out.cell 0
  have y1 : W91.cell? ⟨gr, 1, none⟩ = some (.int .i64 0) := FZs.out.cell 1
  have y2 : W91.cell? ⟨gr, 2, none⟩ = some (.string ⟨#[]⟩) := FZs.out.cell 2
  have y3 : W91.cell? ⟨gr, 3, none⟩ = some (.slice A3 3 d3) := FZs.out.cell 3
  have y4 : W91.cell? ⟨gr, 4, none⟩ = some (.slice A4 3 d4) := FZs.out.cell 4
  go_wp2_with fail
  refine bodyPost_ret (v := .agg #[.int .i64 6, .int .i64 0, .string ⟨#[]⟩, .slice A3 3 d3, .slice A4 3 d4]) (by rw [results_cell1 rfl]; go_simp) rfl ?_
  exact ⟨A3, d3, A4, d4, rfl, HC3.out, HLN2.out, HLX2.out, HB91.out⟩
end Go.Proofs.YtnckhmfajjcgpaaGreatDoor.Mt
namespace Go.Proofs.YtnckhmfajjcgpaaGreatDoor.Mt
set_option linter.unusedVariables false
open Go.RowKit Go.Lib
structure D where
  id : ByteArray
  ver : Int
  v : V
def DocR (W : World) (B : Nat) (d : D) (cs : List Value) : Prop := ∃ vs, cs = [.string d.id, .int .i64 d.ver] ++ vs ∧ V.At W B d.v vs
def D.told (d : D) : V := docV d.id d.ver d.v
theorem Lst.doc {w : World} {B : Nat} {A : Option Addr} {ds : List D} {k : Nat} (h : Lst 7 (DocR w B) w B A ds) (hk : k < ds.length) :
    ∃ b off c0 c1 c2 c3 c4, A = some ⟨b, off, none⟩ ∧ b < B ∧ ds[k].v.At w B [c0, c1, c2, c3, c4] ∧ w.cell? ⟨b, off + k * 7, none⟩ = some (.string ds[k].id) ∧ w.cell? ⟨b, off + k * 7 + 1, none⟩ = some (.int .i64 ds[k].ver) ∧
      w.cell? ⟨b, off + k * 7 + 2, none⟩ = some c0 ∧ w.cell? ⟨b, off + k * 7 + 3, none⟩ = some c1 ∧ w.cell? ⟨b, off + k * 7 + 4, none⟩ = some c2 ∧ w.cell? ⟨b, off + k * 7 + 5, none⟩ = some c3 ∧ w.cell? ⟨b, off + k * 7 + 6, none⟩ = some c4 := by
  obtain ⟨b, off, e, hb, hc⟩ := h.2 (by omega)
  obtain ⟨cs, h1, h2, vs, rfl, h3⟩ := hc k hk
  have hl := V.at_len h3
  match vs, hl with
  | [c0, c1, c2, c3, c4], _ => exact ⟨b, off, c0, c1, c2, c3, c4, e, hb, h3, h2 0 _ rfl, h2 1 _ rfl, h2 2 _ rfl, h2 3 _ rfl, h2 4 _ rfl, h2 5 _ rfl, h2 6 _ rfl⟩
theorem told_take {ds : List D} {q : Nat} (h : q < ds.length) : (ds.map D.told).take (q + 1) = (ds.map D.told).take q ++ [ds[q].told] := by
  rw [List.take_succ_eq_append_getElem (by simpa using h)]
  simp
def pgN : List ByteArray := [⟨#[100, 111, 99, 115]⟩, ⟨#[100, 111, 110, 101]⟩]
def flagV (b : Bool) : V := .mk (if b = true then 2 else 1) 0 ⟨#[]⟩ [] []
def pgX (ds : List D) (b : Bool) : List V := [.mk 5 0 ⟨#[]⟩ [] (ds.map D.told), flagV b]
/-- what is told of a page -/
def pgV (ds : List D) (b : Bool) : V := gv pgN (pgX ds b)
def opN : List ByteArray := [⟨#[99, 117, 114, 115, 111, 114]⟩, ⟨#[115, 116, 97, 109, 112]⟩]
def opX (n s : Int) : List V := [.mk 3 n ⟨#[]⟩ [] [], .mk 3 s ⟨#[]⟩ [] []]
/-- what is told of a cursor that is opened -/
def opV (n s : Int) : V := gv opN (opX n s)
theorem pair_flat {W : World} {C : Nat} {x y : V} {cs ds : List Value} (h : V.At W C x cs) (k : V.At W C y ds) : Flat 5 (V.At W C) [x, y] (cs ++ (ds ++ [])) := (Flat.nil.cons (V.at_len k) k).cons (V.at_len h) h
end Go.Proofs.YtnckhmfajjcgpaaGreatDoor.Mt
namespace Go.Proofs.YtnckhmfajjcgpaaGreatDoor.Mt
set_option linter.unusedVariables false
open Go.RowKit Go.Lib
theorem opV_sz (n s : Int) : (opV n s).sz ≤ 4194304 := by
  simp [opV, gv, opX, opN, tru, okT, V.sz, V.szs, nsz]
  decide
theorem opV_rng {n s : Int} (hn : -9223372036854775808 ≤ n ∧ n ≤ 9223372036854775807) (hs : -9223372036854775808 ≤ s ∧ s ≤ 9223372036854775807) : (opV n s).rng := by
  simp [opV, gv, opX, tru, V.rng, V.rngs]
  omega
set_option maxRecDepth 100000 in
set_option maxHeartbeats 8000000 in
theorem mopened_any {C0 : Nat} {bt : Int → ByteArray} (HBAD : BadOk 26 bt) (w : World) (hT : TbP C0 w) (n s : Int) (hn : -9223372036854775808 ≤ n ∧ n ≤ 9223372036854775807) (hs : -9223372036854775808 ≤ s ∧ s ≤ 9223372036854775807) :
    Calls Tryz.prog 6 #[.int .i64 n, .int .i64 s] w fun e w' => e = .returned (.string (good bt (opV n s))) ∧ Below w.heap.size w w' := by
  have HT := Lib.hid hT
  have HRG := Lib.hid (opV_rng hn hs)
  have HSZ := Lib.hid (opV_sz n s)
  have HBD := Lib.hid HBAD
  have FN := Lib.hid (Blk.new w 9 #[.string ⟨#[99, 117, 114, 115, 111, 114]⟩, .string ⟨#[115, 116, 97, 109, 112]⟩])
  have HB0 := Lib.hid ((Below.refl w.heap.size w).alloc (Nat.le_refl _) (.cells #[.string ⟨#[99, 117, 114, 115, 111, 114]⟩, .string ⟨#[115, 116, 97, 109, 112]⟩] 9))
  obtain ⟨G, hG⟩ : ∃ G, good bt (opV n s) = G := ⟨_, rfl⟩
  have HG := Lib.hid hG
  rw [hG]
  clear hT hn hs HBAD hG
  go_enter Tryz.func6, Tryz.ntmps6
  go_wp2_with (first
    | (go_at_call_of 15 (Value.int IntKind.i64 n); refine (of_any _ n).mono ?_; rintro e w2 ⟨rfl, hb2⟩
       have F2 := Lib.hid (FN.out.below hb2 FN.out.lt)
       have HB2 := Lib.hid (bel_next HB0.out hb2)
       clear hb2)
    | (go_at_call_of 15 (Value.int IntKind.i64 s); refine (of_any w2 s).mono ?_; rintro e w3 ⟨rfl, hb3⟩
       have F3 := Lib.hid ((F2.out.below hb3 F2.out.lt).alloc (.cells #[.int .i64 3, .int .i64 n, .string ⟨#[]⟩, .slice none 0 0, .slice none 0 0, .int .i64 3, .int .i64 s, .string ⟨#[]⟩, .slice none 0 0, .slice none 0 0] 29))
       have FI := Lib.hid (Blk.new w3 29 #[.int .i64 3, .int .i64 n, .string ⟨#[]⟩, .slice none 0 0, .slice none 0 0, .int .i64 3, .int .i64 s, .string ⟨#[]⟩, .slice none 0 0, .slice none 0 0])
       have HB3 := Lib.hid (bel_next HB2.out hb3)
       have HB4 := Lib.hid (HB3.out.alloc HB3.out.size (.cells #[.int .i64 3, .int .i64 n, .string ⟨#[]⟩, .slice none 0 0, .slice none 0 0, .int .i64 3, .int .i64 s, .string ⟨#[]⟩, .slice none 0 0, .slice none 0 0] 29))
       have HL4 := Lib.hid ((blk_rowV FI.out rfl (pair_flat (leaf_at w 0 3 n ⟨#[]⟩) (leaf_at w 0 3 s ⟨#[]⟩))).lst (by show 2 ≤ 1048576; decide))
       have HN4 := Lib.hid ((blk_rowS (l := opN) F3.out rfl).lst (by decide))
       clear hb3)
    | (go_at_call 14
       refine (mgood_any HBD.out _ (HT.out.keep HB4.out HT.out.size) _ _ 2 2 _ opN (opX n s) w 0 rfl rfl (Nat.le_refl _) (Nat.le_refl _) HN4.out HL4.out (Nat.le_refl _) (mono_below HB4.out) (Nat.zero_le _) HSZ.out HRG.out).mono ?_
       rintro e w5 ⟨rfl, hb5⟩)
    | go_in)
  go_ret
  exact ⟨by rw [← HG.out]; rfl, bel_next HB4.out hb5⟩
set_option maxRecDepth 100000 in
set_option maxHeartbeats 8000000 in
theorem ropened_any {bt : Int → ByteArray} (HBAD : BadOk 38 bt) (w : World) (n s : Int) (hn : -9223372036854775808 ≤ n ∧ n ≤ 9223372036854775807) (hs : -9223372036854775808 ≤ s ∧ s ≤ 9223372036854775807) :
    Calls Tryz.prog 7 #[.int .i64 n, .int .i64 s] w fun e w' => e = .returned (.string (good bt (opV n s))) ∧ Below w.heap.size w w' := by
  skip
  have HRG := Lib.hid (opV_rng hn hs)
  have HSZ := Lib.hid (opV_sz n s)
  have HBD := Lib.hid HBAD
  have FN := Lib.hid (Blk.new w 9 #[.string ⟨#[99, 117, 114, 115, 111, 114]⟩, .string ⟨#[115, 116, 97, 109, 112]⟩])
  have HB0 := Lib.hid ((Below.refl w.heap.size w).alloc (Nat.le_refl _) (.cells #[.string ⟨#[99, 117, 114, 115, 111, 114]⟩, .string ⟨#[115, 116, 97, 109, 112]⟩] 9))
  obtain ⟨G, hG⟩ : ∃ G, good bt (opV n s) = G := ⟨_, rfl⟩
  have HG := Lib.hid hG
  rw [hG]
  clear hn hs HBAD hG
  go_enter Tryz.func7, Tryz.ntmps7
  go_wp2_with (first
    | (go_at_call_of 17 (Value.int IntKind.i64 n); refine (whole_any _ n).mono ?_; rintro e w2 ⟨rfl, hb2⟩
       have F2 := Lib.hid (FN.out.below hb2 FN.out.lt)
       have HB2 := Lib.hid (bel_next HB0.out hb2)
       clear hb2)
    | (go_at_call_of 17 (Value.int IntKind.i64 s); refine (whole_any w2 s).mono ?_; rintro e w3 ⟨rfl, hb3⟩
       have F3 := Lib.hid ((F2.out.below hb3 F2.out.lt).alloc (.cells #[.int .i64 3, .int .i64 n, .string ⟨#[]⟩, .slice none 0 0, .slice none 0 0, .int .i64 3, .int .i64 s, .string ⟨#[]⟩, .slice none 0 0, .slice none 0 0] 29))
       have FI := Lib.hid (Blk.new w3 29 #[.int .i64 3, .int .i64 n, .string ⟨#[]⟩, .slice none 0 0, .slice none 0 0, .int .i64 3, .int .i64 s, .string ⟨#[]⟩, .slice none 0 0, .slice none 0 0])
       have HB3 := Lib.hid (bel_next HB2.out hb3)
       have HB4 := Lib.hid (HB3.out.alloc HB3.out.size (.cells #[.int .i64 3, .int .i64 n, .string ⟨#[]⟩, .slice none 0 0, .slice none 0 0, .int .i64 3, .int .i64 s, .string ⟨#[]⟩, .slice none 0 0, .slice none 0 0] 29))
       have HL4 := Lib.hid ((blk_rowV FI.out rfl (pair_flat (leaf_at w 0 3 n ⟨#[]⟩) (leaf_at w 0 3 s ⟨#[]⟩))).lst (by show 2 ≤ 1048576; decide))
       have HN4 := Lib.hid ((blk_rowS (l := opN) F3.out rfl).lst (by decide))
       clear hb3)
    | (go_at_call 16
       refine (rgood_any HBD.out _ _ _ 2 2 _ opN (opX n s) w 0 rfl rfl (Nat.le_refl _) (Nat.le_refl _) HN4.out HL4.out (Nat.le_refl _) (mono_below HB4.out) (Nat.zero_le _) HSZ.out HRG.out).mono ?_
       rintro e w5 ⟨rfl, hb5⟩)
    | go_in)
  go_ret
  exact ⟨by rw [← HG.out]; rfl, bel_next HB4.out hb5⟩
end Go.Proofs.YtnckhmfajjcgpaaGreatDoor.Mt
