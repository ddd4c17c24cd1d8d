/- A slice that reads as a list; append from any source. -/
import Derived.Test.YtbjmakigdglghaaGreatDoorDdD
import Derived.Sort.Walk0
import Derived.Test.YtbjmakigdglghaaGreatDoorDdC
import Derived.Deep.RegionLaw
import Derived.Laws.ResultCell
set_option linter.unusedVariables false
set_option linter.unusedSimpArgs false
set_option linter.unusedSectionVars false
namespace Go.Proofs.YtbjmakigdglghaaGreatDoor.Dd
set_option linter.unusedVariables false
open Go.RowKit
def Reads (w : World) (B size : Nat) (A : Option Addr) (n : Nat) (xs : List Value) : Prop :=
  xs.length = n * size ∧ (0 < n → ∃ ad, A = some ad ∧ ad.block < B ∧ ∀ j u, xs[j]? = some u → w.cell? (ad.add j) = some u)

section
variable {w w' : World} {B B' size n : Nat} {A : Option Addr} {xs : List Value}
theorem Reads.none_ : Reads w B size A 0 [] := ⟨by simp, fun h => absurd h (by omega)⟩
theorem Reads.at_ {k : Nat} (h : Reads w B 1 A n xs) (hk : k < n) : ∃ ad u, A = some ad ∧ ad.block < B ∧ xs[k]? = some u ∧ w.cell? (ad.add k) = some u := by
  obtain ⟨ad, e, hb, hc⟩ := h.2 (by omega)
  have hl : k < xs.length := by have := h.1; omega
  exact ⟨ad, xs[k], e, hb, List.getElem?_eq_getElem hl, hc k _ (List.getElem?_eq_getElem hl)⟩
theorem Reads.keep (h : Reads w B size A n xs) (hk : ∀ p : Addr, p.block < B → w'.cell? p = w.cell? p) : Reads w' B size A n xs :=
  ⟨h.1, fun hn => by
    obtain ⟨ad, e, hb, hc⟩ := h.2 hn
    exact ⟨ad, e, hb, fun j u hu => (hk _ (by rw [block_of_add]; exact hb)).trans (hc j u hu)⟩⟩
theorem Reads.more (h : Reads w B size A n xs) (hB : B ≤ B') : Reads w B' size A n xs :=
  ⟨h.1, fun hn => by
    obtain ⟨ad, e, hb, hc⟩ := h.2 hn
    exact ⟨ad, e, by omega, hc⟩⟩
theorem Reads.below (h : Reads w B size A n xs) (hb : Below B w w') : Reads w' B size A n xs := h.keep fun _ hp => hb.cell hp
theorem Reads.drew (h : Reads w B size A n xs) : Reads w.drew B size A n xs := h
theorem Reads.drewN (h : Reads w B size A n xs) (k : Nat) : Reads (w.drewN k) B size A n xs := h
theorem Reads.alloc (h : Reads w B size A n xs) (hB : B ≤ w.heap.size) (o : Obj) : Reads (w.alloc o) B size A n xs := h.keep fun p hp => World.cell?_alloc_lt w o p (by omega)
theorem Reads.setCell (h : Reads w B size A n xs) {p : Addr} (hB : B ≤ p.block) (u : Value) : Reads (w.setCell p u) B size A n xs :=
  h.keep fun q hq => World.cell?_setCell_other w p q u (fun e => by subst e; omega)
theorem Reads.grown (h : Reads w B size A n xs) {row : Option Nat} (hg : w.grownBy w' row) (hB : B ≤ w.heap.size) (hr : ∀ g, row = some g → B ≤ g) : Reads w' B size A n xs :=
  h.keep fun p hp => World.cell?_of_block (hg.block p.block (by omega) (fun e => by have := hr _ e.symm; omega))
theorem Reads.cut (h : Reads w B size A n xs) {k cap : Nat} (hk : k ≤ n) (hc : n ≤ cap) :
    Reads w B size (if cap = k then A else A.map (·.add (k * size))) (n - k) (xs.drop (k * size)) := by
  refine ⟨by rw [List.length_drop, h.1, Nat.sub_mul], fun hn => ?_⟩
  obtain ⟨ad, rfl, hb, hcell⟩ := h.2 (by omega)
  rw [if_neg (by omega)]
  refine ⟨ad.add (k * size), rfl, by rw [block_of_add]; exact hb, fun j u hu => ?_⟩
  rw [add_of_add]
  exact hcell _ u (by rw [← hu, List.getElem?_drop])
theorem Reads.take {l : List ByteArray} (h : Reads w B 1 A n (l.map Value.string)) {p : Nat} (hp : p ≤ n) : Reads w B 1 A p ((l.take p).map Value.string) := by
  have hl : l.length = n := by have := h.1; simp at this; omega
  refine ⟨by simp; omega, fun hq => ?_⟩
  obtain ⟨ad, e, hb, hc⟩ := h.2 (by omega)
  refine ⟨ad, e, hb, fun j u hu => hc j u ?_⟩
  rw [List.map_take] at hu
  have hj : j < p := by
    rcases Nat.lt_or_ge j p with h | h
    · exact h
    · rw [List.getElem?_eq_none (by simp; omega)] at hu; cases hu
  rwa [List.getElem?_take_of_lt hj] at hu
theorem Reads.of_own {base : Nat} {e : TypeId} {c : Nat} (h : w.ownsRow base e size (.slice A n c) n xs) : Reads w w.heap.size size A n xs := by
  refine ⟨h.1, fun hn => ?_⟩
  obtain ⟨g, cap, hv, _, hlt⟩ := h.form hn
  have hA : A = some ⟨g, 0, none⟩ := by injection hv
  subst hA
  exact ⟨_, rfl, hlt, h.cells (g := g) rfl⟩
end
section
variable {P : Program} (w : World)

theorem run_append_of_nil (base : Nat) (t ty e : TypeId) (i : TypeInfo) (size : Nat) (ht : P.underlying t = some (.slice e)) (hi : P.info? e = some i)
    (v : Value) (n : Nat) (xs : List Value) (hown : w.ownsRow base e size v n xs) (c : Nat) : (Builtin.append_ #[t, t] ty #[v, .slice none 0 c]).run P w = .ok v w := by
  rcases hown.2 with ⟨rfl, rfl⟩ | ⟨g, cap, cur, rfl, _, _, hnc, _⟩
  · simp [Builtin.append_, run_underlying ht, sizeOf, typeInfo, hi, Builtin.lenOf, Builtin.firstCells]
  · simp [Builtin.append_, run_underlying ht, sizeOf, typeInfo, hi, Builtin.lenOf, Builtin.firstCells, hnc, storeCells]

theorem run_append_any (base : Nat) (t ty e : TypeId) (i : TypeInfo) (z : Value) (size bytes : Nat) (ht : P.underlying t = some (.slice e)) (hi : P.info? e = some i) (hz : i.zero = some z)
    (hsize : i.size = size) (hby : i.bytes = bytes) (hzs : z.cells.size = size) (hsz : 0 < size)
    (v : Value) (n : Nat) (xs : List Value) (hown : w.ownsRow base e size v n xs)
    (B : Nat) (A : Option Addr) (m c : Nat) (news : List Value) (hr : Reads w B size A m news) (h1 : ∀ u ∈ news, u.oneCell' = true)
    (h63 : n + m ≤ maxLen) (hbytes : (n + m) * bytes ≤ 140737488355328) (hbase : base ≤ w.heap.size) :
    ∃ v' w', (Builtin.append_ #[t, t] ty #[v, .slice A m c]).run P w = .ok v' w' ∧ w'.ownsRow base e size v' (n + m) (xs ++ news) ∧ w.grownBy w' v.ownBlock ∧
      (v'.ownBlock = v.ownBlock ∨ v'.ownBlock = some w.heap.size) := by
  rcases A with _ | ad
  · have hm : m = 0 := by
      rcases Nat.eq_zero_or_pos m with h0 | h0
      · exact h0
      · obtain ⟨ad, h, _⟩ := hr.2 h0
        cases h
    subst hm
    have hn : news = [] := List.eq_nil_of_length_eq_zero (by simpa using hr.1)
    subst hn
    exact ⟨v, w, run_append_of_nil w base t ty e i size ht hi v n xs hown c, by simpa using hown, World.grownBy.refl w _, .inl rfl⟩
  · have hcells : ∀ j u, news[j]? = some u → w.cell? (ad.add j) = some u := by
      intro j u hu
      rcases Nat.eq_zero_or_pos m with h0 | h0
      · subst h0
        have hn : news = [] := List.eq_nil_of_length_eq_zero (by simpa using hr.1)
        subst hn
        simp at hu
      · obtain ⟨ad', h, _, hc⟩ := hr.2 h0
        injection h with h
        subst h
        exact hc j u hu
    obtain ⟨v', w', hrun, h2, h3, _, h5⟩ := run_append_own_at (P := P) w base t ty e i z size bytes ht hi hz hsize hby hzs hsz v n xs hown ad m c news hr.1 hcells h1 h63 hbytes hbase
    exact ⟨v', w', hrun, h2, h3, h5⟩

theorem wp_append_any {o : Oper} {a : Act} {K : Act → World → Prop} {Q : Exit → Act → World → Prop} (s x : Operand) (t : TypeId)
    (ho : o.op = .call { callee := .builtin .append, args := #[s, x], argTypes := #[t, t] })
    (base : Nat) (e : TypeId) (i : TypeInfo) (z : Value) (size bytes : Nat) (ht : P.underlying t = some (.slice e)) (hi : P.info? e = some i) (hz : i.zero = some z)
    (hsize : i.size = size) (hby : i.bytes = bytes) (hzs : z.cells.size = size) (hsz : 0 < size)
    (v : Value) (n : Nat) (xs : List Value) (hs : a.eval s = v) (hown : w.ownsRow base e size v n xs)
    (B : Nat) (A : Option Addr) (m c : Nat) (news : List Value) (hx : a.eval x = .slice A m c) (hr : Reads w B size A m news) (h1 : ∀ u ∈ news, u.oneCell' = true)
    (h63 : n + m ≤ maxLen) (hbytes : (n + m) * bytes ≤ 140737488355328) (hbase : base ≤ w.heap.size)
    (h : ∀ v' w', w'.ownsRow base e size v' (n + m) (xs ++ news) → w.grownBy w' v.ownBlock → (v'.ownBlock = v.ownBlock ∨ v'.ownBlock = some w.heap.size) → K (a.put o.dst v') w') : o.wp P a w K Q := by
  obtain ⟨v', w', hrun, h2, h3, h4⟩ := run_append_any (P := P) w base t o.type e i z size bytes ht hi hz hsize hby hzs hsz v n xs hown B A m c news hr h1 h63 hbytes hbase
  unfold Oper.wp execOp
  simp only [ho, resolve, invoke, builtin, Sem.run_bind, Sem.run_pure, Result.andThen_ok, List.map_toArray, List.map_cons, List.map_nil, hs, hx, hrun]
  exact h v' w' h2 h3 h4

theorem wpList_append_any {ops : Array Oper} {rest : List Oper} {o : Oper} {a : Act} {Q : Exit → Act → World → Prop} (hgd : o.guard = none) (s x : Operand) (t : TypeId)
    (ho : o.op = .call { callee := .builtin .append, args := #[s, x], argTypes := #[t, t] })
    (base : Nat) (e : TypeId) (i : TypeInfo) (z : Value) (size bytes : Nat) (ht : P.underlying t = some (.slice e)) (hi : P.info? e = some i) (hz : i.zero = some z)
    (hsize : i.size = size) (hby : i.bytes = bytes) (hzs : z.cells.size = size) (hsz : 0 < size)
    (v : Value) (n : Nat) (xs : List Value) (hs : a.eval s = v) (hown : w.ownsRow base e size v n xs)
    (B : Nat) (A : Option Addr) (m c : Nat) (news : List Value) (hx : a.eval x = .slice A m c) (hr : Reads w B size A m news) (h1 : ∀ u ∈ news, u.oneCell' = true)
    (h63 : n + m ≤ maxLen) (hbytes : (n + m) * bytes ≤ 140737488355328) (hbase : base ≤ w.heap.size)
    (h : ∀ v' w', w'.ownsRow base e size v' (n + m) (xs ++ news) → w.grownBy w' v.ownBlock → (v'.ownBlock = v.ownBlock ∨ v'.ownBlock = some w.heap.size) → wpList P ops Q rest (a.put o.dst v') w') : wpList P ops Q (o :: rest) a w :=
  wpList_plain hgd fun _ hK => wp_append_any w s x t ho base e i z size bytes ht hi hz hsize hby hzs hsz v n xs hs hown B A m c news hx hr h1 h63 hbytes hbase fun v' w' h2 h3 h4 => hK _ _ (h v' w' h2 h3 h4)

theorem step_append_any {ops : Array Oper} {o : Oper} {a : Act} {K : Act → World → Prop} {Q : Exit → Act → World → Prop} {E : Prop} (hgd : o.guard = none) (s x : Operand) (t : TypeId)
    (ho : o.op = .call { callee := .builtin .append, args := #[s, x], argTypes := #[t, t] })
    (base : Nat) (e : TypeId) (i : TypeInfo) (z : Value) (size bytes : Nat) (ht : P.underlying t = some (.slice e)) (hi : P.info? e = some i) (hz : i.zero = some z)
    (hsize : i.size = size) (hby : i.bytes = bytes) (hzs : z.cells.size = size) (hsz : 0 < size)
    (v : Value) (n : Nat) (xs : List Value) (hs : a.eval s = v) (hown : w.ownsRow base e size v n xs)
    (B : Nat) (A : Option Addr) (m c : Nat) (news : List Value) (hx : a.eval x = .slice A m c) (hr : Reads w B size A m news) (h1 : ∀ u ∈ news, u.oneCell' = true)
    (h63 : n + m ≤ maxLen) (hbytes : (n + m) * bytes ≤ 140737488355328) (hbase : base ≤ w.heap.size)
    (h : ∀ v' w', w'.ownsRow base e size v' (n + m) (xs ++ news) → w.grownBy w' v.ownBlock → (v'.ownBlock = v.ownBlock ∨ v'.ownBlock = some w.heap.size) → K (a.put o.dst v') w') :
    if Region.wanted o (yielded ops a.tmps) = true then Oper.wp P o a w K Q else E := by
  have hw : Region.wanted o (yielded ops a.tmps) = true := by simp [Region.wanted, hgd]
  rw [if_pos hw]
  exact wp_append_any w s x t ho base e i z size bytes ht hi hz hsize hby hzs hsz v n xs hs hown B A m c news hx hr h1 h63 hbytes hbase h
end

/-- a list of texts, as a slice that reads so -/
theorem Lst.reads {w : World} {B : Nat} {A : Option Addr} {l : List ByteArray} (h : Lst 1 StrR w B A l) : Reads w B 1 A l.length (l.map Value.string) := by
  refine ⟨by simp, fun hn => ?_⟩
  obtain ⟨b, off, e, hb, hc⟩ := h.str hn
  refine ⟨_, e, hb, fun j u hu => ?_⟩
  rw [add_lit]
  rw [List.getElem?_map] at hu
  have hj : j < l.length := by
    rcases Nat.lt_or_ge j l.length with h | h
    · exact h
    · rw [List.getElem?_eq_none h] at hu; cases hu
  rw [List.getElem?_eq_getElem hj] at hu
  injection hu with hu
  rw [← hu]
  exact hc j hj
theorem own_strs {w : World} {base : Nat} {v : Value} {n : Nat} {l : List ByteArray} (h : w.ownsRow base 9 1 v n (l.map Value.string)) (hm : l.length ≤ 1048576) : ∃ A c, v = .slice A n c ∧ n = l.length ∧ n ≤ c ∧ Lst 1 StrR w w.heap.size A l := by
  have hl : n = l.length := by have := h.1; simp at this; omega
  rcases h.2 with ⟨rfl, h0⟩ | ⟨g, cap, cur, rfl, hbase, hb, h1, h2, h3, h4⟩
  · subst h0
    have : l = [] := List.eq_nil_of_length_eq_zero hl.symm
    subst this
    exact ⟨none, 0, rfl, rfl, Nat.le_refl _, Lst.nil none⟩
  · refine ⟨_, cap, rfl, hl, h1, hm, fun hp => ⟨g, 0, rfl, lt_of_some hb, fun i hi => ⟨[.string l[i]], rfl, ?_, rfl⟩⟩⟩
    intro j u hj
    match j, hj with
    | 0, hj =>
      injection hj with hj
      subst hj
      have := h.cellAt i (by omega)
      rw [Nat.zero_add, Nat.mul_one, Nat.add_zero, this, List.getElem?_map, List.getElem?_eq_getElem hi]
      rfl
theorem own_cap {w : World} {base n c k : Nat} {e : TypeId} {size : Nat} {A : Option Addr} {xs : List Value} (h : w.ownsRow base e size (.slice A n c) k xs) : c ≤ maxLen := by
  rcases h.2 with ⟨h, _⟩ | ⟨g, cap, cur, h, _, _, _, h2, _⟩
  · injection h with _ _ h
    omega
  · injection h with _ _ h
    omega
theorem own_new0 (W : World) (base : Nat) (hb : base ≤ W.heap.size) : (W.alloc (.cells #[] 9)).ownsRow base 9 1 (.slice (some ⟨W.heap.size, 0, none⟩) 0 0) 0 [] :=
  ⟨rfl, .inr ⟨_, 0, #[], rfl, hb, Blk.new W 9 #[], Nat.le_refl _, by simp, rfl, rfl⟩⟩
theorem own_new1 (W : World) (o : Obj) (base : Nat) (hb : base ≤ W.heap.size) : ((W.alloc o).alloc (.cells #[] 9)).ownsRow base 9 1 (.slice (some ⟨W.heap.size + 1, 0, none⟩) 0 0) 0 [] := by
  have := own_new0 (W.alloc o) base (by simp; omega)
  simpa only [World.size_alloc] using this
theorem rd_one {W : World} {g : Nat} {u : Value} (h : W.cell? ⟨g, 0, none⟩ = some u) : Reads W (g + 1) 1 (some ⟨g, 0, none⟩) 1 [u] :=
  ⟨rfl, fun _ => ⟨_, rfl, Nat.lt_succ_self _, fun j v hv => by
    match j, hv with
    | 0, hv =>
      injection hv with hv
      subst hv
      exact h⟩⟩
/-- strictly rising -/
def Rise (l : List ByteArray) : Prop := (l.map bk).Pairwise (· < ·)
theorem bk_toList (s : ByteArray) : s.toList = bk s := by rw [ByteArray.toList_eq]; rfl
theorem less_bk (a b : ByteArray) : Op.bytesLess a.toList b.toList = decide (bk a < bk b) := by rw [bk_toList, bk_toList, Go.Proofs.bytesLess_eq]
end Go.Proofs.YtbjmakigdglghaaGreatDoor.Dd
namespace Go.Proofs.YtbjmakigdglghaaGreatDoor.Dd
set_option linter.unusedVariables false
open Go.RowKit
def Ins (l : List ByteArray) (s : ByteArray) (l' : List ByteArray) : Prop := Rise l' ∧ (∀ x, x ∈ l' ↔ x ∈ l ∨ x = s) ∧ l'.length ≤ l.length + 1
theorem ins_old {l : List ByteArray} {s : ByteArray} {k : Nat} (hr : Rise l) (hk : k < l.length) (h : l[k] = s) : Ins l s l :=
  ⟨hr, fun x => ⟨.inl, fun h' => h'.elim id fun e => by rw [e, ← h]; exact List.getElem_mem hk⟩, Nat.le_succ _⟩
theorem lt_of_not {a b : List UInt8} (h : ¬ a < b) (hn : a ≠ b) : b < a := by
  rcases Std.lt_trichotomy a b with h1 | h1 | h1
  · exact absurd h1 h
  · exact absurd h1 hn
  · exact h1
theorem ins_new {l : List ByteArray} {s : ByteArray} {p : Nat} (hr : Rise l) (hp : p ≤ l.length) (h1 : ∀ j (h : j < l.length), p ≤ j → ¬ bk l[j] < bk s) (h2 : 0 < p → ∃ h : p - 1 < l.length, bk l[p - 1] < bk s) (h3 : ∀ j (h : j < l.length), l[j] ≠ s) :
    Ins l s (l.take p ++ [s] ++ l.drop p) := by
  have hlt : ∀ x ∈ l.take p, bk x < bk s := by
    intro x hx
    obtain ⟨i, hi, rfl⟩ := List.getElem_of_mem hx
    rw [List.length_take] at hi
    rw [List.getElem_take]
    obtain ⟨hpl, hps⟩ := h2 (by omega)
    rcases Nat.lt_or_ge i (p - 1) with h | h
    · have hh := List.pairwise_iff_getElem.1 hr i (p - 1) (by simp; omega) (by simpa using hpl) h
      rw [List.getElem_map, List.getElem_map] at hh
      exact List.lt_trans hh hps
    · have : i = p - 1 := by omega
      subst this
      exact hps
  have hgt : ∀ x ∈ l.drop p, bk s < bk x := by
    intro x hx
    obtain ⟨i, hi, rfl⟩ := List.getElem_of_mem hx
    rw [List.length_drop] at hi
    rw [List.getElem_drop]
    exact lt_of_not (h1 (p + i) (by omega) (by omega)) fun e => h3 (p + i) (by omega) (bk_inj e)
  refine ⟨?_, fun x => ?_, by simp; omega⟩
  · unfold Rise at hr ⊢
    rw [List.map_append, List.map_append, List.append_assoc, List.pairwise_append]
    refine ⟨?_, ?_, ?_⟩
    · rw [List.map_take]; exact hr.sublist (List.take_sublist _ _)
    · rw [List.map_cons, List.map_nil, List.singleton_append, List.pairwise_cons]
      refine ⟨fun y hy => ?_, ?_⟩
      · obtain ⟨x, hx, rfl⟩ := List.mem_map.1 hy
        exact hgt x hx
      · rw [List.map_drop]; exact hr.sublist (List.drop_sublist _ _)
    · intro a ha b hb
      obtain ⟨x, hx, rfl⟩ := List.mem_map.1 ha
      rcases List.mem_append.1 hb with hb | hb
      · simp at hb
        subst hb
        exact hlt x hx
      · obtain ⟨y, hy, rfl⟩ := List.mem_map.1 hb
        exact List.lt_trans (hlt x hx) (hgt y hy)
  · rw [List.mem_append, List.mem_append, List.mem_singleton]
    have : x ∈ l ↔ x ∈ l.take p ∨ x ∈ l.drop p := by
      rw [← List.mem_append, List.take_append_drop]
    rw [this]
    constructor
    · rintro ((h | h) | h)
      · exact .inl (.inl h)
      · exact .inr h
      · exact .inl (.inr h)
    · rintro ((h | h) | h)
      · exact .inl (.inl h)
      · exact .inr h
      · exact .inl (.inr h)
set_option maxRecDepth 100000 in
set_option maxHeartbeats 8000000 in
theorem put_any (w : World) (A : Option Addr) (n c : Nat) (l : List ByteArray) (s : ByteArray) (hn : l.length = n) (hc : n ≤ c) (hcm : c ≤ maxLen) (hm : n + 1 ≤ 1048576) (h : Lst 1 StrR w w.heap.size A l) (hr : Rise l) :
    Calls Tryz.prog 35 #[.slice A n c, .string s] w fun e w' => ∃ A' n' c' l', e = .returned (.slice A' n' c') ∧ l'.length = n' ∧ n' ≤ c' ∧ c' ≤ maxLen ∧ Below w.heap.size w w' ∧ Lst 1 StrR w' w'.heap.size A' l' ∧ Ins l s l' := by
  have HN := Lib.hid hn
  have HR := Lib.hid hr
  have H := h
  have HC := Lib.hid hcm
  clear hn hr h hcm
  go_enter Tryz.func35, Tryz.ntmps35
  go_wp2
  go_loopw [5, 6] (fun at_ i wr => ∃ k p : Nat, k ≤ n ∧ p ≤ k ∧ i = .int .i64 k ∧ at_ = .int .i64 p ∧ wr = w ∧ (∀ j (h : j < l.length), j < k → l[j] ≠ s) ∧ (∀ j (h : j < l.length), p ≤ j → j < k → ¬ bk l[j] < bk s) ∧ (0 < p → ∃ h : p - 1 < l.length, bk l[p - 1] < bk s)) (fun _ i _ => n - (intOf i).toNat)
  case atStart => exact ⟨0, 0, Nat.zero_le _, Nat.le_refl _, rfl, rfl, rfl, fun j _ h => by omega, fun j _ _ h => by omega, fun h => by omega⟩
  case round =>
    obtain ⟨k, p, hk, hp, rfl, rfl, rfl, h1, h2, h3⟩ := hrel
    have H1 := Lib.hid h1
    have H2 := Lib.hid h2
    have H3 := Lib.hid h3
    clear h1 h2 h3
    by_cases hlt : k < n
    · have hkl : k < l.length := by have := HN.out; omega
      obtain ⟨b, off, rfl, hb, hcells⟩ := H.str hkl
      have p0 := hcells k hkl
      obtain ⟨x, hx⟩ : ∃ x, l[k] = x := ⟨_, rfl⟩
      rw [hx] at p0
      have HX := Lib.hid hx
      have HH := Lib.hid H
      clear hx hcells H
      by_cases hxs : x = s
      · subst hxs
        go_wp2
        go_ret
        exact ⟨_, _, c, l, rfl, HN.out, hc, HC.out, Below.refl _ _, HH.out, ins_old HR.out hkl HX.out⟩
      · have hne := toList_ne hxs
        by_cases hlx : bk x < bk s
        · have hb1 : Op.bytesLess x.toList s.toList = true := by rw [less_bk]; exact decide_eq_true hlx
          have HLX := Lib.hid hlx
          have HXS := Lib.hid hxs
          clear hlx hxs
          go_wp2
          go_roundw
          case rel => exact ⟨k + 1, k + 1, by omega, by omega, by go_num, by go_num, by first | trivial | rfl, fun j hj hjk => by
              rcases Nat.lt_or_ge j k with h | h
              · exact H1.out j hj h
              · have : j = k := by omega
                subst this
                rw [HX.out]; exact HXS.out, fun j hj h1 h2 => by omega, fun _ => ⟨hkl, by show bk l[k] < bk s; rw [HX.out]; exact HLX.out⟩⟩
          case measure => simp [intOf]; omega
        · have hb1 : Op.bytesLess x.toList s.toList = false := by rw [less_bk]; exact decide_eq_false hlx
          have HLX := Lib.hid hlx
          have HXS := Lib.hid hxs
          clear hlx hxs
          go_wp2
          go_roundw
          case rel => exact ⟨k + 1, p, by omega, by omega, by go_num, rfl, by first | trivial | rfl, fun j hj hjk => by
              rcases Nat.lt_or_ge j k with h | h
              · exact H1.out j hj h
              · have : j = k := by omega
                subst this
                rw [HX.out]; exact HXS.out, fun j hj h1 h2 => by
              rcases Nat.lt_or_ge j k with h | h
              · exact H2.out j hj h1 h
              · have : j = k := by omega
                subst this
                rw [HX.out]; exact HLX.out, H3.out⟩
          case measure => simp [intOf]; omega
    · obtain rfl : k = n := by omega
      have HI : Hid (Ins l s (l.take p ++ [s] ++ l.drop p)) := Lib.hid (ins_new HR.out (by have := HN.out; omega) (fun j h hp => H2.out j h hp (by have := HN.out; omega)) H3.out (fun j h => H1.out j h (by have := HN.out; omega)))
      have hrd := H.reads
      rw [HN.out] at hrd
      have hcut := hrd.cut (k := p) hp hc
      have HH := Lib.hid H
      go_upto_region 9 with fail
      have hcut2 := hcut
      clear hcut
      obtain ⟨i0, hi, hz0, hz1, hz2⟩ := info_parts info9
      have hpc : p ≤ c := by omega
      have hone : ∀ l : List ByteArray, ∀ u ∈ l.map Value.string, u.oneCell' = true := by
        intro l u hu
        obtain ⟨x, _, rfl⟩ := List.mem_map.1 hu
        rfl
      have HON := Lib.hid hone
      have hrt : Reads wr wr.heap.size 1 A p ((l.take p).map Value.string) := hrd.take hp
      have HRT := Lib.hid hrt
      have hcut' : Reads wr wr.heap.size 1 (if c = p then A else Option.map (fun x => x.add p) A) (k - p) ((l.drop p).map Value.string) := by
        rw [Nat.mul_one, ← List.map_drop] at hcut2
        exact hcut2
      have HCU := Lib.hid hcut'
      clear hone hrt hcut2 hcut' hrd
      have bA : Below wr.heap.size wr (wr.drew.alloc (.cells #[] 9)) := (bel_drewN (Below.refl _ _) 1).alloc (Nat.le_refl _) _
      have bB : Below wr.heap.size wr ((wr.drew.alloc (.cells #[] 9)).alloc (.cells #[.string s] 9)) := bA.alloc (by simp) _
      have bC : Below wr.heap.size wr ((wr.drew.alloc (.cells #[.string s] 9)).alloc (.cells #[] 9)) := ((bel_drewN (Below.refl _ _) 1).alloc (Nat.le_refl _) _).alloc (by simp) _
      have oA := own_new0 wr.drew wr.heap.size (Nat.le_refl _)
      have oB := oA.alloc (.cells #[.string s] 9)
      have oC := own_new1 wr.drew (.cells #[.string s] 9) wr.heap.size (Nat.le_refl _)
      have sB : Blk ((wr.drew.alloc (.cells #[] 9)).alloc (.cells #[.string s] 9)) (wr.heap.size + 1) 9 #[.string s] := by simpa [Blk] using Blk.new (wr.drew.alloc (.cells #[] 9)) 9 #[.string s]
      have sC : Blk ((wr.drew.alloc (.cells #[.string s] 9)).alloc (.cells #[] 9)) wr.heap.size 9 #[.string s] := (Blk.new wr.drew 9 #[.string s]).alloc _
      have BA := Lib.hid bA
      have BB := Lib.hid bB
      have BC := Lib.hid bC
      have OA := Lib.hid oA
      have OB := Lib.hid oB
      have OC := Lib.hid oC
      have SB := Lib.hid sB
      have SC := Lib.hid sC
      clear bA bB bC oA oB oC sB sC
      go_region_law (first
        | (refine step_append_any _ rfl (.tmp 28) (.tmp 31) 57 rfl wr.heap.size 9 i0 _ 1 16 Tryz.underlying57 hi hz0 hz1 hz2 rfl (by omega) _ 0 [] rfl (by first | exact OA.out | exact OB.out | exact OC.out) _ A p c ((l.take p).map Value.string) rfl (by first | exact HRT.out.below BA.out | exact HRT.out.below BB.out | exact HRT.out.below BC.out) (HON.out _) (by unfold maxLen; omega) (by omega) (by first | exact BA.out.size | exact BB.out.size | exact BC.out.size) ?_
           intro v1 w1 own1 hg1 hat1
           have hb1 : Below wr.heap.size wr w1 := by first
             | exact BA.out.grown hg1 BA.out.size (fun j hj => (OA.out.lt j hj).1)
             | exact BB.out.grown hg1 BB.out.size (fun j hj => (OB.out.lt j hj).1)
             | exact BC.out.grown hg1 BC.out.size (fun j hj => (OC.out.lt j hj).1)
           (first
             | have hS1 := (SC.out.grown hg1 (fun e => by have e' : (some wr.heap.size : Option Nat) = some (wr.heap.size + 1) := e; injection e' with e'; omega)).cell 0
             | have hS1 := (SB.out.grown hg1 (fun e => by have e' : (some (wr.heap.size + 1) : Option Nat) = some wr.heap.size := e; injection e' with e'; omega)).cell 0
             | skip))
        | (refine step_append_any _ rfl (.tmp 32) (.tmp 34) 57 rfl wr.heap.size 9 i0 _ 1 16 Tryz.underlying57 hi hz0 hz1 hz2 rfl (by omega) v1 (0 + p) ([] ++ (l.take p).map Value.string) rfl (own1.alloc _) (w1.heap.size + 1) (some ⟨w1.heap.size, 0, none⟩) 1 1 [.string s] rfl (rd_one (Blk.cell (Blk.new w1 9 #[.string s]) 0)) (HON.out [s]) (by unfold maxLen; omega) (by omega) ((hb1.alloc hb1.size _).size) ?_
           intro v2 w2 own2 hg2 hat2
           have hb2 : Below wr.heap.size wr w2 := (hb1.alloc hb1.size _).grown hg2 ((hb1.alloc hb1.size _).size) (fun j hj => (own1.lt j hj).1))
        | (refine step_append_any _ rfl (.tmp 32) (.tmp 34) 57 rfl wr.heap.size 9 i0 _ 1 16 Tryz.underlying57 hi hz0 hz1 hz2 rfl (by omega) v1 (0 + p) ([] ++ (l.take p).map Value.string) rfl (own1) (wr.heap.size + 1) (some ⟨wr.heap.size, 0, none⟩) 1 1 [.string s] rfl (rd_one hS1) (HON.out [s]) (by unfold maxLen; omega) (by omega) (hb1.size) ?_
           intro v2 w2 own2 hg2 hat2
           have hb2 : Below wr.heap.size wr w2 := (hb1).grown hg2 (hb1.size) (fun j hj => (own1.lt j hj).1))
        | (refine step_append_any _ rfl (.tmp 32) (.tmp 34) 57 rfl wr.heap.size 9 i0 _ 1 16 Tryz.underlying57 hi hz0 hz1 hz2 rfl (by omega) v1 (0 + p) ([] ++ (l.take p).map Value.string) rfl (own1) ((wr.heap.size + 1) + 1) (some ⟨(wr.heap.size + 1), 0, none⟩) 1 1 [.string s] rfl (rd_one hS1) (HON.out [s]) (by unfold maxLen; omega) (by omega) (hb1.size) ?_
           intro v2 w2 own2 hg2 hat2
           have hb2 : Below wr.heap.size wr w2 := (hb1).grown hg2 (hb1.size) (fun j hj => (own1.lt j hj).1))
        | (refine step_append_any _ rfl (.tmp 35) (.tmp 38) 57 rfl wr.heap.size 9 i0 _ 1 16 Tryz.underlying57 hi hz0 hz1 hz2 rfl (by omega) v2 (0 + p + 1) _ rfl own2 _ _ (k - p) (c - p) ((l.drop p).map Value.string) rfl (HCU.out.below hb2) (HON.out _) (by unfold maxLen; omega) (by omega) hb2.size ?_
           intro v3 w3 own3 hg3 hat3
           have hb3 : Below wr.heap.size wr w3 := hb2.grown hg3 hb2.size (fun j hj => (own2.lt j hj).1))
        | fail)
      all_goals
        have hlen : (l.take p ++ [s] ++ l.drop p).length = k + 1 := by
          have := HN.out
          simp
          omega
        obtain ⟨A9, c9, rfl, hl9, hc9, H9⟩ := own_strs (n := 0 + p + 1 + (k - p)) (l := l.take p ++ [s] ++ l.drop p) (by rw [List.map_append, List.map_append]; simpa using own3) (by omega)
        have HB := Lib.hid hb3
        have H9' := Lib.hid H9
        have HL9 := Lib.hid hl9
        have HC9 := Lib.hid (own_cap own3)
        clear hb3 H9 hl9 own3 hg3 own2 hg2 hb2 own1 hg1 hb1 hat1 hat2 hat3
        go_wp2
        all_goals
          go_ret
          first
            | exact ⟨_, _, _, rfl, _, by have := HL9.out; omega, by omega, HC9.out, HB.out, H9'.out, HI.out⟩
            | exact ⟨_, _, _, _, rfl, by have := HL9.out; omega, by omega, HC9.out, HB.out, H9'.out, HI.out⟩
end Go.Proofs.YtbjmakigdglghaaGreatDoor.Dd
namespace Go.Proofs.YtbjmakigdglghaaGreatDoor.Dd
set_option linter.unusedVariables false
open Go.RowKit
theorem fnd_none_of {α : Type} {key : α → ByteArray} {l : List α} {s : ByteArray} (h : ∀ j (h : j < l.length), key l[j] ≠ s) : fnd key l s = none := by
  unfold fnd
  rw [List.find?_eq_none]
  intro x hx
  obtain ⟨j, hj, rfl⟩ := List.getElem_of_mem hx
  simpa using h j hj
theorem fnd_at {α : Type} {key : α → ByteArray} {l : List α} {s : ByteArray} {k : Nat} (hk : k < l.length) (h : ∀ j (h : j < l.length), j < k → key l[j] ≠ s) (he : key l[k] = s) : fnd key l s = some l[k] := by
  unfold fnd
  rw [List.find?_eq_some_iff_getElem]
  exact ⟨by simpa using he, k, hk, rfl, fun j hj => by simpa using h j (by omega) hj⟩

def FndC (w0 : World) (B0 : Nat) (l : List C) (s : ByteArray) (v : Value) : Prop := match fnd (fun x : C => x.n) l s with
  | none => v = zC
  | some x => ∃ cs, v = .agg cs.toArray ∧ CR w0 B0 x cs
set_option maxRecDepth 100000 in
set_option maxHeartbeats 4000000 in
theorem find_C (w w0 : World) (B0 : Nat) (A : Option Addr) (n c : Nat) (l : List C) (s : ByteArray) (hn : l.length = n) (h : Lst 11 (CR w0 B0) w w.heap.size A l) :
    Calls Tryz.prog 36 #[.slice A n c, .string s] w fun e w' => ∃ v, e = .returned (.tuple #[v, .bool (fnd (fun x : C => x.n) l s).isSome]) ∧ FndC w0 B0 l s v ∧ Below w.heap.size w w' := by
  have hmax : n ≤ 1048576 := by rw [← hn]; exact h.1
  have HN := Lib.hid hn
  have HH := Lib.hid h
  clear hn h
  go_enter Tryz.func36, Tryz.ntmps36
  go_wp2
  go_loopw [6] (fun i wr => ∃ k : Nat, k ≤ n ∧ i = .int .i64 k ∧ wr = w.alloc (.cells #[.string ⟨#[]⟩, .int .i64 0, .int .i64 0, .int .i64 0, .int .i64 0, .string ⟨#[]⟩, .slice none 0 0, .slice none 0 0, .int .i64 0, .int .i64 0, .slice none 0 0] 70) ∧ ∀ j (h : j < l.length), j < k → (fun x : C => x.n) l[j] ≠ s) (fun i _ => n - (intOf i).toNat)
  case atStart => exact ⟨0, Nat.zero_le _, rfl, rfl, fun j _ h => by omega⟩
  case round =>
    obtain ⟨k, hk, rfl, rfl, hne⟩ := hrel
    have HNE := Lib.hid hne
    clear hne
    by_cases hlt : k < n
    · have hkl : k < l.length := by have := HN.out; omega
      obtain ⟨b, off, e1, e2, e3, e4, e5, a6, n6, m6, a7, n7, m7, e8, e9, a10, n10, m10, rfl, hb, hR, q0, q1, q2, q3, q4, q5, q6, q7, q8, q9, q10⟩ := HH.out.cat hkl
      have HR := Lib.hid hR
      obtain ⟨x, hx⟩ : ∃ x, l[k] = x := ⟨_, rfl⟩
      rw [hx] at q0 HR
      obtain ⟨sx, hs⟩ : ∃ sx, x.n = sx := ⟨_, rfl⟩
      rw [hs] at q0 HR
      have HX := Lib.hid hx
      have HS := Lib.hid hs
      have hbn : b ≠ w.heap.size := by omega
      clear hx hs hR HH
      by_cases hxs : sx = s
      · subst hxs
        have HF : Hid (fnd (fun x : C => x.n) l sx = some x) := Lib.hid (by rw [← HX.out]; exact fnd_at hkl HNE.out (by rw [HX.out]; exact HS.out))
        go_wp2
        (try simp only [Exit.inBlock, Exit.then])
        refine bodyPost_ret (v := .tuple #[.agg #[.string sx, .int .i64 e1, .int .i64 e2, .int .i64 e3, .int .i64 e4, .string e5, .slice a6 n6 m6, .slice a7 n7 m7, .int .i64 e8, .int .i64 e9, .slice a10 n10 m10], .bool true]) (by rw [results_cell_tmp rfl]; go_simp) rfl ?_
        refine ⟨_, by rw [HF.out]; rfl, ?_, (Below.refl _ _).alloc (Nat.le_refl _) _⟩
        unfold FndC
        rw [HF.out]
        exact ⟨_, rfl, HR.out⟩
      · have hne := toList_ne hxs
        have HXS := Lib.hid hxs
        clear hxs
        go_wp2
        go_roundw
        case rel => exact ⟨k + 1, by omega, by go_num, by first | trivial | rfl, fun j hj hjk => by
              rcases Nat.lt_or_ge j k with h | h
              · exact HNE.out j hj h
              · have : j = k := by omega
                subst this
                show (l[j]).n ≠ s
                rw [HX.out, HS.out]; exact HXS.out⟩
        case measure => simp [intOf]; omega
    · obtain rfl : k = n := by omega
      have HF : Hid (fnd (fun x : C => x.n) l s = none) := Lib.hid (fnd_none_of fun j h => HNE.out j h (by have := HN.out; omega))
      go_wp2
      (try simp only [Exit.inBlock, Exit.then])
      refine bodyPost_ret (v := .tuple #[.agg #[.string ⟨#[]⟩, .int .i64 0, .int .i64 0, .int .i64 0, .int .i64 0, .string ⟨#[]⟩, .slice none 0 0, .slice none 0 0, .int .i64 0, .int .i64 0, .slice none 0 0], .bool false]) (by rw [results_cell_tmp rfl]; go_simp) rfl ?_
      refine ⟨_, by rw [HF.out]; rfl, ?_, (Below.refl _ _).alloc (Nat.le_refl _) _⟩
      unfold FndC
      rw [HF.out]
      rfl

def FndI (w0 : World) (B0 : Nat) (l : List I) (s : ByteArray) (v : Value) : Prop := match fnd (fun x : I => x.k) l s with
  | none => v = zI
  | some x => ∃ cs, v = .agg cs.toArray ∧ IR w0 B0 x cs
set_option maxRecDepth 100000 in
set_option maxHeartbeats 4000000 in
theorem find_I (w w0 : World) (B0 : Nat) (A : Option Addr) (n c : Nat) (l : List I) (s : ByteArray) (hn : l.length = n) (h : Lst 7 (IR w0 B0) w w.heap.size A l) :
    Calls Tryz.prog 37 #[.slice A n c, .string s] w fun e w' => ∃ v, e = .returned (.tuple #[v, .bool (fnd (fun x : I => x.k) l s).isSome]) ∧ FndI w0 B0 l s v ∧ Below w.heap.size w w' := by
  have hmax : n ≤ 1048576 := by rw [← hn]; exact h.1
  have HN := Lib.hid hn
  have HH := Lib.hid h
  clear hn h
  go_enter Tryz.func37, Tryz.ntmps37
  go_wp2
  go_loopw [6] (fun i wr => ∃ k : Nat, k ≤ n ∧ i = .int .i64 k ∧ wr = w.alloc (.cells #[.string ⟨#[]⟩, .int .i64 0, .int .i64 0, .int .i64 0, .string ⟨#[]⟩, .slice none 0 0, .slice none 0 0] 75) ∧ ∀ j (h : j < l.length), j < k → (fun x : I => x.k) l[j] ≠ s) (fun i _ => n - (intOf i).toNat)
  case atStart => exact ⟨0, Nat.zero_le _, rfl, rfl, fun j _ h => by omega⟩
  case round =>
    obtain ⟨k, hk, rfl, rfl, hne⟩ := hrel
    have HNE := Lib.hid hne
    clear hne
    by_cases hlt : k < n
    · have hkl : k < l.length := by have := HN.out; omega
      obtain ⟨b, off, e1, e3, e4, e5, a6, n6, m6, a7, n7, m7, rfl, hb, hR, q0, q1, q2, q3, q4, q5, q6⟩ := HH.out.iat hkl
      have HR := Lib.hid hR
      obtain ⟨x, hx⟩ : ∃ x, l[k] = x := ⟨_, rfl⟩
      rw [hx] at q0 HR
      obtain ⟨sx, hs⟩ : ∃ sx, x.k = sx := ⟨_, rfl⟩
      rw [hs] at q0 HR
      have HX := Lib.hid hx
      have HS := Lib.hid hs
      have hbn : b ≠ w.heap.size := by omega
      clear hx hs hR HH
      by_cases hxs : sx = s
      · subst hxs
        have HF : Hid (fnd (fun x : I => x.k) l sx = some x) := Lib.hid (by rw [← HX.out]; exact fnd_at hkl HNE.out (by rw [HX.out]; exact HS.out))
        go_wp2
        (try simp only [Exit.inBlock, Exit.then])
        refine bodyPost_ret (v := .tuple #[.agg #[.string sx, .int .i64 e1, .int .i64 e3, .int .i64 e4, .string e5, .slice a6 n6 m6, .slice a7 n7 m7], .bool true]) (by rw [results_cell_tmp rfl]; go_simp) rfl ?_
        refine ⟨_, by rw [HF.out]; rfl, ?_, (Below.refl _ _).alloc (Nat.le_refl _) _⟩
        unfold FndI
        rw [HF.out]
        exact ⟨_, rfl, HR.out⟩
      · have hne := toList_ne hxs
        have HXS := Lib.hid hxs
        clear hxs
        go_wp2
        go_roundw
        case rel => exact ⟨k + 1, by omega, by go_num, by first | trivial | rfl, fun j hj hjk => by
              rcases Nat.lt_or_ge j k with h | h
              · exact HNE.out j hj h
              · have : j = k := by omega
                subst this
                show (l[j]).k ≠ s
                rw [HX.out, HS.out]; exact HXS.out⟩
        case measure => simp [intOf]; omega
    · obtain rfl : k = n := by omega
      have HF : Hid (fnd (fun x : I => x.k) l s = none) := Lib.hid (fnd_none_of fun j h => HNE.out j h (by have := HN.out; omega))
      go_wp2
      (try simp only [Exit.inBlock, Exit.then])
      refine bodyPost_ret (v := .tuple #[.agg #[.string ⟨#[]⟩, .int .i64 0, .int .i64 0, .int .i64 0, .string ⟨#[]⟩, .slice none 0 0, .slice none 0 0], .bool false]) (by rw [results_cell_tmp rfl]; go_simp) rfl ?_
      refine ⟨_, by rw [HF.out]; rfl, ?_, (Below.refl _ _).alloc (Nat.le_refl _) _⟩
      unfold FndI
      rw [HF.out]
      rfl
end Go.Proofs.YtbjmakigdglghaaGreatDoor.Dd
namespace Go.Proofs.YtbjmakigdglghaaGreatDoor.Dd
set_option linter.unusedVariables false
open Go.RowKit
theorem pairwise_le {l : List (List UInt8)} (h : l.Pairwise (· < ·)) : l.Pairwise (fun a b => leB a b = true) :=
  h.imp fun {a b} hab => by
    unfold leB
    simp only [decide_eq_true_eq]
    exact List.le_of_lt hab
theorem pairwise_nodup {l : List (List UInt8)} (h : l.Pairwise (· < ·)) : l.Nodup :=
  h.imp fun {a b} hab => by
    rintro rfl
    exact List.lt_irrefl a hab
theorem rise_uni {l S : List ByteArray} (hr : Rise l) (hm : ∀ x, x ∈ l ↔ x ∈ S) : l.map bk = uni S := by
  have hp : (l.map bk).Perm (S.map bk).eraseDups := by
    rw [List.perm_ext_iff_of_nodup (pairwise_nodup hr) (nodup_eraseDups _)]
    intro k
    rw [List.mem_eraseDups, List.mem_map, List.mem_map]
    constructor <;> rintro ⟨x, hx, rfl⟩
    · exact ⟨x, (hm x).1 hx, rfl⟩
    · exact ⟨x, (hm x).2 hx, rfl⟩
  unfold uni
  rw [← sort_of_perm hp, List.mergeSort_of_pairwise (pairwise_le hr)]
theorem rise_eq {l S : List ByteArray} (hr : Rise l) (hm : ∀ x, x ∈ l ↔ x ∈ S) : l = (uni S).map ub := by
  rw [← rise_uni hr hm, List.map_map]
  have : (ub ∘ bk) = id := by funext x; exact ub_bk x
  rw [this, List.map_id]
/-- a rising list of these names -/
def Nm (wr : World) (v : Value) (S : List ByteArray) : Prop := ∃ A n c l, v = .slice A n c ∧ l.length = n ∧ n ≤ c ∧ c ≤ maxLen ∧ Lst 1 StrR wr wr.heap.size A l ∧ Rise l ∧ (∀ x, x ∈ l ↔ x ∈ S) ∧ n ≤ S.length
theorem Nm.nil (w : World) : Nm w (.slice none 0 0) [] := ⟨none, 0, 0, [], rfl, rfl, Nat.le_refl _, Nat.zero_le _, Lst.nil none, by simp [Rise], by simp, Nat.le_refl _⟩
theorem Nm.next {wr w' : World} {v : Value} {S : List ByteArray} (h : Nm wr v S) (hb : Below wr.heap.size wr w') : Nm w' v S := by
  obtain ⟨A, n, c, l, h1, h2, h3, h4, h5, h6⟩ := h
  exact ⟨A, n, c, l, h1, h2, h3, h4, h5.at_ hb, h6⟩
theorem Nm.put {w' : World} {A' : Option Addr} {n' c' : Nat} {l l' : List ByteArray} {s : ByteArray} {S : List ByteArray} (hm : ∀ x, x ∈ l ↔ x ∈ S) (hl : l.length ≤ S.length) (h1 : l'.length = n') (h2 : n' ≤ c') (h3 : c' ≤ maxLen) (h4 : Lst 1 StrR w' w'.heap.size A' l') (h5 : Ins l s l') : Nm w' (.slice A' n' c') (S ++ [s]) := by
  obtain ⟨r, m, le⟩ := h5
  refine ⟨A', n', c', l', rfl, h1, h2, h3, h4, r, fun x => ?_, by simp; omega⟩
  rw [m, hm, List.mem_append, List.mem_singleton]
/-- the boxes of the arguments -/
structure Bx (w wr : World) (oa ob : Obj) : Prop where
  bel : Below w.heap.size w wr
  one : wr.heap[w.heap.size]? = some oa
  two : wr.heap[w.heap.size + 1]? = some ob
theorem Bx.next {w wr w' : World} {oa ob : Obj} (h : Bx w wr oa ob) (hb : Below wr.heap.size wr w') : Bx w w' oa ob :=
  ⟨bel_next h.bel hb, (hb.block _ (lt_of_some h.one)).trans h.one, (hb.block _ (lt_of_some h.two)).trans h.two⟩
/-- the row of differences, over what was there -/
structure Ro (w wr : World) (v : Value) (ds : List D) : Prop where
  bel : Below w.heap.size w wr
  own : wr.ownsRow w.heap.size 41 2 v ds.length (dcells ds)
section
variable {w wr w' : World} {v v' : Value} {ds : List D} {d : D}
theorem Ro.alloc (h : Ro w wr v ds) (o : Obj) : Ro w (wr.alloc o) v ds := ⟨h.bel.alloc h.bel.size o, h.own.alloc o⟩
theorem Ro.drewN (h : Ro w wr v ds) (n : Nat) : Ro w (wr.drewN n) v ds := ⟨bel_drewN h.bel n, h.own⟩
theorem Ro.next (h : Ro w wr v ds) (hb : Below wr.heap.size wr w') : Ro w w' v ds :=
  ⟨bel_next h.bel hb, h.own.kept ⟨hb.os, hb.tape, hb.output, hb.size, fun k hk _ => hb.block k hk⟩ (row := none) (by cases v.ownBlock with | none => exact .inl rfl | some g => exact .inr (by simp))⟩
theorem Ro.put (h : Ro w wr v ds) (hown' : w'.ownsRow w.heap.size 41 2 v' (ds.length + 1) (dcells ds ++ [.int .i64 d.k, .string d.s])) (hgrow : wr.grownBy w' v.ownBlock) : Ro w w' v' (ds ++ [d]) := by
  refine ⟨h.bel.grown hgrow h.bel.size (fun j hj => (h.own.lt j hj).1), ?_⟩
  rw [dcells_app, List.length_append]
  exact hown'
end
/-- a variable's block beside them, being written -/
structure St (w5 wr w : World) (v : Value) (ds : List D) (g : Nat) (ty : TypeId) (cs : Array Value) : Prop where
  ro : Ro w5 w v ds
  blk : Blk w g ty cs
  bel : Below wr.heap.size wr w
  low : wr.heap.size ≤ g
  lim : w5.heap.size ≤ wr.heap.size
theorem St.set {w5 wr w : World} {v : Value} {ds : List D} {g : Nat} {ty : TypeId} {cs : Array Value} (h : St w5 wr w v ds g ty cs) (ht : (41 : TypeId) ≠ ty) (i : Nat) (u : Value) : St w5 wr (w.setCell ⟨g, i, none⟩ u) v ds g ty (cs.setIfInBounds i u) := by
  have hne : v.ownBlock ≠ some g := own_blk_ne h.ro.own h.blk ht
  refine ⟨⟨h.ro.bel.setCell (p := ⟨g, i, none⟩) (Nat.le_trans h.lim h.low) u, ?_⟩, h.blk.set_ i u, h.bel.setCell (p := ⟨g, i, none⟩) h.low u, h.low, h.lim⟩
  refine ⟨h.ro.own.1, ?_⟩
  rcases h.ro.own.2 with h0 | ⟨g', cap, cur, h1, h2, h3, h4⟩
  · exact .inl h0
  · refine .inr ⟨g', cap, cur, h1, h2, (Below.heap_setCell w ⟨g, i, none⟩ u g' ?_).trans h3, h4⟩
    rintro rfl
    exact hne (by rw [h1]; rfl)
theorem st_all70 {w5 wr w : World} {v : Value} {ds : List D} {g : Nat} (u0 u1 u2 u3 u4 u5 u6 u7 u8 u9 u10 : Value) (h0 : St w5 wr w v ds g 70 #[.string ⟨#[]⟩, .int .i64 0, .int .i64 0, .int .i64 0, .int .i64 0, .string ⟨#[]⟩, .slice none 0 0, .slice none 0 0, .int .i64 0, .int .i64 0, .slice none 0 0]) : St w5 wr (((((((((((w.setCell ⟨g, 0, none⟩ u0).setCell ⟨g, 1, none⟩ u1).setCell ⟨g, 2, none⟩ u2).setCell ⟨g, 3, none⟩ u3).setCell ⟨g, 4, none⟩ u4).setCell ⟨g, 5, none⟩ u5).setCell ⟨g, 6, none⟩ u6).setCell ⟨g, 7, none⟩ u7).setCell ⟨g, 8, none⟩ u8).setCell ⟨g, 9, none⟩ u9).setCell ⟨g, 10, none⟩ u10) v ds g 70 #[u0, u1, u2, u3, u4, u5, u6, u7, u8, u9, u10] := by
  have h1 : St w5 wr (w.setCell ⟨g, 0, none⟩ u0) v ds g 70 #[u0, .int .i64 0, .int .i64 0, .int .i64 0, .int .i64 0, .string ⟨#[]⟩, .slice none 0 0, .slice none 0 0, .int .i64 0, .int .i64 0, .slice none 0 0] := h0.set (by decide) 0 u0
  have h2 : St w5 wr ((w.setCell ⟨g, 0, none⟩ u0).setCell ⟨g, 1, none⟩ u1) v ds g 70 #[u0, u1, .int .i64 0, .int .i64 0, .int .i64 0, .string ⟨#[]⟩, .slice none 0 0, .slice none 0 0, .int .i64 0, .int .i64 0, .slice none 0 0] := h1.set (by decide) 1 u1
  have h3 : St w5 wr (((w.setCell ⟨g, 0, none⟩ u0).setCell ⟨g, 1, none⟩ u1).setCell ⟨g, 2, none⟩ u2) v ds g 70 #[u0, u1, u2, .int .i64 0, .int .i64 0, .string ⟨#[]⟩, .slice none 0 0, .slice none 0 0, .int .i64 0, .int .i64 0, .slice none 0 0] := h2.set (by decide) 2 u2
  have h4 : St w5 wr ((((w.setCell ⟨g, 0, none⟩ u0).setCell ⟨g, 1, none⟩ u1).setCell ⟨g, 2, none⟩ u2).setCell ⟨g, 3, none⟩ u3) v ds g 70 #[u0, u1, u2, u3, .int .i64 0, .string ⟨#[]⟩, .slice none 0 0, .slice none 0 0, .int .i64 0, .int .i64 0, .slice none 0 0] := h3.set (by decide) 3 u3
  have h5 : St w5 wr (((((w.setCell ⟨g, 0, none⟩ u0).setCell ⟨g, 1, none⟩ u1).setCell ⟨g, 2, none⟩ u2).setCell ⟨g, 3, none⟩ u3).setCell ⟨g, 4, none⟩ u4) v ds g 70 #[u0, u1, u2, u3, u4, .string ⟨#[]⟩, .slice none 0 0, .slice none 0 0, .int .i64 0, .int .i64 0, .slice none 0 0] := h4.set (by decide) 4 u4
  have h6 : St w5 wr ((((((w.setCell ⟨g, 0, none⟩ u0).setCell ⟨g, 1, none⟩ u1).setCell ⟨g, 2, none⟩ u2).setCell ⟨g, 3, none⟩ u3).setCell ⟨g, 4, none⟩ u4).setCell ⟨g, 5, none⟩ u5) v ds g 70 #[u0, u1, u2, u3, u4, u5, .slice none 0 0, .slice none 0 0, .int .i64 0, .int .i64 0, .slice none 0 0] := h5.set (by decide) 5 u5
  have h7 : St w5 wr (((((((w.setCell ⟨g, 0, none⟩ u0).setCell ⟨g, 1, none⟩ u1).setCell ⟨g, 2, none⟩ u2).setCell ⟨g, 3, none⟩ u3).setCell ⟨g, 4, none⟩ u4).setCell ⟨g, 5, none⟩ u5).setCell ⟨g, 6, none⟩ u6) v ds g 70 #[u0, u1, u2, u3, u4, u5, u6, .slice none 0 0, .int .i64 0, .int .i64 0, .slice none 0 0] := h6.set (by decide) 6 u6
  have h8 : St w5 wr ((((((((w.setCell ⟨g, 0, none⟩ u0).setCell ⟨g, 1, none⟩ u1).setCell ⟨g, 2, none⟩ u2).setCell ⟨g, 3, none⟩ u3).setCell ⟨g, 4, none⟩ u4).setCell ⟨g, 5, none⟩ u5).setCell ⟨g, 6, none⟩ u6).setCell ⟨g, 7, none⟩ u7) v ds g 70 #[u0, u1, u2, u3, u4, u5, u6, u7, .int .i64 0, .int .i64 0, .slice none 0 0] := h7.set (by decide) 7 u7
  have h9 : St w5 wr (((((((((w.setCell ⟨g, 0, none⟩ u0).setCell ⟨g, 1, none⟩ u1).setCell ⟨g, 2, none⟩ u2).setCell ⟨g, 3, none⟩ u3).setCell ⟨g, 4, none⟩ u4).setCell ⟨g, 5, none⟩ u5).setCell ⟨g, 6, none⟩ u6).setCell ⟨g, 7, none⟩ u7).setCell ⟨g, 8, none⟩ u8) v ds g 70 #[u0, u1, u2, u3, u4, u5, u6, u7, u8, .int .i64 0, .slice none 0 0] := h8.set (by decide) 8 u8
  have h10 : St w5 wr ((((((((((w.setCell ⟨g, 0, none⟩ u0).setCell ⟨g, 1, none⟩ u1).setCell ⟨g, 2, none⟩ u2).setCell ⟨g, 3, none⟩ u3).setCell ⟨g, 4, none⟩ u4).setCell ⟨g, 5, none⟩ u5).setCell ⟨g, 6, none⟩ u6).setCell ⟨g, 7, none⟩ u7).setCell ⟨g, 8, none⟩ u8).setCell ⟨g, 9, none⟩ u9) v ds g 70 #[u0, u1, u2, u3, u4, u5, u6, u7, u8, u9, .slice none 0 0] := h9.set (by decide) 9 u9
  have h11 : St w5 wr (((((((((((w.setCell ⟨g, 0, none⟩ u0).setCell ⟨g, 1, none⟩ u1).setCell ⟨g, 2, none⟩ u2).setCell ⟨g, 3, none⟩ u3).setCell ⟨g, 4, none⟩ u4).setCell ⟨g, 5, none⟩ u5).setCell ⟨g, 6, none⟩ u6).setCell ⟨g, 7, none⟩ u7).setCell ⟨g, 8, none⟩ u8).setCell ⟨g, 9, none⟩ u9).setCell ⟨g, 10, none⟩ u10) v ds g 70 #[u0, u1, u2, u3, u4, u5, u6, u7, u8, u9, u10] := h10.set (by decide) 10 u10
  exact h11
theorem st_all75 {w5 wr w : World} {v : Value} {ds : List D} {g : Nat} (u0 u1 u2 u3 u4 u5 u6 : Value) (h0 : St w5 wr w v ds g 75 #[.string ⟨#[]⟩, .int .i64 0, .int .i64 0, .int .i64 0, .string ⟨#[]⟩, .slice none 0 0, .slice none 0 0]) : St w5 wr (((((((w.setCell ⟨g, 0, none⟩ u0).setCell ⟨g, 1, none⟩ u1).setCell ⟨g, 2, none⟩ u2).setCell ⟨g, 3, none⟩ u3).setCell ⟨g, 4, none⟩ u4).setCell ⟨g, 5, none⟩ u5).setCell ⟨g, 6, none⟩ u6) v ds g 75 #[u0, u1, u2, u3, u4, u5, u6] := by
  have h1 : St w5 wr (w.setCell ⟨g, 0, none⟩ u0) v ds g 75 #[u0, .int .i64 0, .int .i64 0, .int .i64 0, .string ⟨#[]⟩, .slice none 0 0, .slice none 0 0] := h0.set (by decide) 0 u0
  have h2 : St w5 wr ((w.setCell ⟨g, 0, none⟩ u0).setCell ⟨g, 1, none⟩ u1) v ds g 75 #[u0, u1, .int .i64 0, .int .i64 0, .string ⟨#[]⟩, .slice none 0 0, .slice none 0 0] := h1.set (by decide) 1 u1
  have h3 : St w5 wr (((w.setCell ⟨g, 0, none⟩ u0).setCell ⟨g, 1, none⟩ u1).setCell ⟨g, 2, none⟩ u2) v ds g 75 #[u0, u1, u2, .int .i64 0, .string ⟨#[]⟩, .slice none 0 0, .slice none 0 0] := h2.set (by decide) 2 u2
  have h4 : St w5 wr ((((w.setCell ⟨g, 0, none⟩ u0).setCell ⟨g, 1, none⟩ u1).setCell ⟨g, 2, none⟩ u2).setCell ⟨g, 3, none⟩ u3) v ds g 75 #[u0, u1, u2, u3, .string ⟨#[]⟩, .slice none 0 0, .slice none 0 0] := h3.set (by decide) 3 u3
  have h5 : St w5 wr (((((w.setCell ⟨g, 0, none⟩ u0).setCell ⟨g, 1, none⟩ u1).setCell ⟨g, 2, none⟩ u2).setCell ⟨g, 3, none⟩ u3).setCell ⟨g, 4, none⟩ u4) v ds g 75 #[u0, u1, u2, u3, u4, .slice none 0 0, .slice none 0 0] := h4.set (by decide) 4 u4
  have h6 : St w5 wr ((((((w.setCell ⟨g, 0, none⟩ u0).setCell ⟨g, 1, none⟩ u1).setCell ⟨g, 2, none⟩ u2).setCell ⟨g, 3, none⟩ u3).setCell ⟨g, 4, none⟩ u4).setCell ⟨g, 5, none⟩ u5) v ds g 75 #[u0, u1, u2, u3, u4, u5, .slice none 0 0] := h5.set (by decide) 5 u5
  have h7 : St w5 wr (((((((w.setCell ⟨g, 0, none⟩ u0).setCell ⟨g, 1, none⟩ u1).setCell ⟨g, 2, none⟩ u2).setCell ⟨g, 3, none⟩ u3).setCell ⟨g, 4, none⟩ u4).setCell ⟨g, 5, none⟩ u5).setCell ⟨g, 6, none⟩ u6) v ds g 75 #[u0, u1, u2, u3, u4, u5, u6] := h6.set (by decide) 6 u6
  exact h7
theorem not_named {α : Type} {key : α → ByteArray} {la lb : List α} {q : ByteArray} (ha : fnd key la q = none) (hb : fnd key lb q = none) : ¬ q ∈ la.map key ++ lb.map key := by
  unfold fnd at ha hb
  rw [List.find?_eq_none] at ha hb
  intro h
  rcases List.mem_append.1 h with h | h
  · obtain ⟨x, hx, rfl⟩ := List.mem_map.1 h
    have := ha x hx
    simp at this
  · obtain ⟨x, hx, rfl⟩ := List.mem_map.1 h
    have := hb x hx
    simp at this
def GotC (w0 : World) (l : List C) (s : ByteArray) (p b : Value) (wr : World) : Prop :=
  ∃ g cs, p = .pointer (some ⟨g, 0, none⟩) ∧ b = .bool (fnd (fun x : C => x.n) l s).isSome ∧ Blk wr g 70 cs ∧ FndC w0 w0.heap.size l s (.agg cs)
def GotI (w0 : World) (l : List I) (s : ByteArray) (p b : Value) (wr : World) : Prop :=
  ∃ g cs, p = .pointer (some ⟨g, 0, none⟩) ∧ b = .bool (fnd (fun x : I => x.k) l s).isSome ∧ Blk wr g 75 cs ∧ FndI w0 w0.heap.size l s (.agg cs)
theorem fndC_form {w0 : World} {B : Nat} {l : List C} {s : ByteArray} {v : Value} (h : FndC w0 B l s v) : ∃ s0 c1 m1 e1 e2 t An nn cn Ai ni ci a g A n c, v = .agg #[.string s0, .int .i64 c1, .int .i64 m1, .int .i64 e1, .int .i64 e2, .string t, .slice An nn cn, .slice Ai ni ci, .int .i64 a, .int .i64 g, .slice A n c] := by
  unfold FndC at h
  split at h
  · subst h
    exact ⟨_, _, _, _, _, _, _, _, _, _, _, _, _, _, _, _, _, rfl⟩
  · obtain ⟨cs, rfl, hR⟩ := h
    obtain ⟨c1, e1, e2, t, An, nn, cn, Ai, ni, ci, a, g, A, c, rfl, _, _⟩ := hR.parts
    exact ⟨_, _, _, _, _, _, _, _, _, _, _, _, _, _, _, _, _, rfl⟩
theorem fndI_form {w0 : World} {B : Nat} {l : List I} {s : ByteArray} {v : Value} (h : FndI w0 B l s v) : ∃ s0 c1 e1 e2 t An nn cn Ai ni ci, v = .agg #[.string s0, .int .i64 c1, .int .i64 e1, .int .i64 e2, .string t, .slice An nn cn, .slice Ai ni ci] := by
  unfold FndI at h
  split at h
  · subst h
    exact ⟨_, _, _, _, _, _, _, _, _, _, _, rfl⟩
  · obtain ⟨cs, rfl, hR⟩ := h
    obtain ⟨v0, e1, e2, t, An, nn, cn, Ai, ni, ci, rfl, _⟩ := hR.parts
    exact ⟨_, _, _, _, _, _, _, _, _, _, _, rfl⟩
end Go.Proofs.YtbjmakigdglghaaGreatDoor.Dd
