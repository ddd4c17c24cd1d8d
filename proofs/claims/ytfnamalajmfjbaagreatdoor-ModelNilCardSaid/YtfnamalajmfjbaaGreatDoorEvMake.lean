/- New blocks, parts of values, places: abstract, and what they say of the real run. -/
import Derived.Test.YtfnamalajmfjbaaGreatDoorEvMem
set_option linter.unusedVariables false
set_option linter.unusedSimpArgs false
namespace Go.Proofs.YtfnamalajmfjbaaGreatDoor.Ev
noncomputable section
section
variable {P : Program} {X : Tab} {σ : Ren} {S : Ids} {H : AH} {W : World} {B : Nat}
/-- what one operation's run is to show: the abstract result stands for the real one -/
def Shows (P : Program) (σ : Ren) (S : Ids) (H : AH) (W : World) (B : Nat) (s : Sem Value) (r : Value) (H' : AH) : Prop :=
  ∃ (σ' : Ren) (S' : Ids) (W' : World) (r' : Value), s.run P W = .ok r' W' ∧ Rep σ' S' H' W' B ∧ Evo σ S W σ' S' W' ∧ VR σ' S' r r' ∧ Taken S H.next S' H'.next
def ShowsU (P : Program) (σ : Ren) (S : Ids) (H : AH) (W : World) (B : Nat) (s : Sem Unit) (H' : AH) : Prop :=
  ∃ (σ' : Ren) (S' : Ids) (W' : World), s.run P W = .ok () W' ∧ Rep σ' S' H' W' B ∧ Evo σ S W σ' S' W' ∧ Taken S H.next S' H'.next
theorem Shows.pure_ (h : Rep σ S H W B) {s : Sem Value} {r r' : Value} (hs : s.run P W = .ok r' W) (hr : VR σ S r r') : Shows P σ S H W B s r H := ⟨σ, S, W, r', hs, h, h.refl, hr, Taken.refl _ _⟩
/-- a new row of cells -/
theorem Rep.newCells (h : Rep σ S H W B) (hfree : ¬ S H.next) (hB : B ≤ W.heap.size) {vs vs' : List Value} {e : TypeId} {id : Nat} {H' : AH} (hn : H.new (.cells vs e none) = some (id, H')) (hv : VRs σ S vs vs') :
    ∃ (σ' : Ren) (S' : Ids), σ' id = some ⟨W.heap.size, 0, none⟩ ∧ Rep σ' S' H' (W.alloc (.cells vs'.toArray e)) B ∧ Evo σ S W σ' S' (W.alloc (.cells vs'.toArray e)) ∧ S' id ∧ Taken S H.next S' H'.next := by
  obtain ⟨σ', h1, h2, h3, rfl, h5⟩ := h.new_ hfree hn (ob := .cells vs'.toArray e) (k := 0) hB fun σ' hσ =>
    ⟨vs'.toArray, 0, 0, Go.heap_alloc_new W _, fun j v hj => by
      obtain ⟨v', a, b⟩ := hv.get hj
      exact ⟨v', by simpa using a, b.ext hσ⟩, fun j _ => by omega, rfl, by simp [hv.length], fun _ => ⟨rfl, by simp [hv.length]⟩, fun s tot h => by cases h⟩
  exact ⟨σ', _, h1, h2, h3, .inr rfl, by rw [h5]; exact taken_more _ _⟩
def abox (H : AH) (e : TypeId) (v : Value) : Option (Value × AH) := do
  let (id, H') ← H.new (.cells v.cells.toList e none)
  some (.pointer (some ⟨id, 0, none⟩), H')
theorem box_sound (h : Rep σ S H W B) (hfree : ¬ S H.next) (hB : B ≤ W.heap.size) {e : TypeId} {v v' r : Value} {H' : AH} (hv : VR σ S v v') (ha : abox H e v = some (r, H')) : Shows P σ S H W B (Instr.box e v') r H' := by
  unfold abox at ha
  simp only [Option.bind_eq_bind, Option.bind_eq_some_iff] at ha
  obtain ⟨⟨id, H1⟩, h1, h2⟩ := ha
  injection h2 with h2
  injection h2 with h2 h3
  subst h2 h3
  obtain ⟨σ', S', k1, k2, k3, k4, k5⟩ := h.newCells hfree hB h1 hv.cells
  refine ⟨σ', S', W.alloc (.cells v'.cells e), .pointer (some ⟨W.heap.size, 0, none⟩), ?_, by simpa using k2, by simpa using k3, .ptr _ _ _ k4 fun i hi => (by rw [k1] at hi; injection hi with hi; subst hi; rfl), k5⟩
  simp [Instr.box, newVar, newRow]
def aalloc (X : Tab) (H : AH) (e : TypeId) : Option (Value × AH) := do
  let i ← X.inf e
  let z ← i.zero
  cond (flatF 8 z) (abox H e z) none
theorem alloc_sound (hX : TabOk P X) (h : Rep σ S H W B) (hfree : ¬ S H.next) (hB : B ≤ W.heap.size) {e : TypeId} {r : Value} {H' : AH} (ha : aalloc X H e = some (r, H')) : Shows P σ S H W B (Instr.alloc e true (.tuple #[])) r H' := by
  unfold aalloc at ha
  simp only [Option.bind_eq_bind, Option.bind_eq_some_iff] at ha
  obtain ⟨i, h1, z, h2, h3⟩ := ha
  cases hf : flatF 8 z with
  | false => rw [hf] at h3; cases h3
  | true =>
    rw [hf] at h3
    obtain ⟨σ', S', W', r', k1, k2, k3, k4⟩ := box_sound (P := P) h hfree hB (VR.flat 8 z hf) h3
    refine ⟨σ', S', W', r', ?_, k2, k3, k4⟩
    have hz : (zeroValue e).run P W = .ok z W := by simp [zeroValue, typeInfo, hX.inf e i h1, h2]
    unfold Instr.alloc
    rw [Sem.run_bind, hz]
    simp only [Result.andThen_ok]
    rw [← k1]
    rfl
/-- setting cells of an array -/
theorem foldl_vr {σ : Ren} {n : Ids} (off : Nat) : ∀ (l l' : List Value) (k : Nat) (cs cs' : Array Value), VRs σ n l l' → VRs σ n cs.toList cs'.toList →
    VRs σ n ((l.zipIdx k).foldl (fun cs x => cs.setIfInBounds (off + x.2) x.1) cs).toList ((l'.zipIdx k).foldl (fun cs x => cs.setIfInBounds (off + x.2) x.1) cs').toList
  | [], _, _, _, _, h, hc => by cases h; exact hc
  | v :: l, _, k, cs, cs', h, hc => by
    cases h with
    | cons _ v' _ l' h t =>
      simp only [List.zipIdx_cons, List.foldl_cons]
      exact foldl_vr off l l' (k + 1) _ _ t (by simpa using hc.set h (off + k))
theorem size_vr {σ : Ren} {n : Ids} {a b : Array Value} (h : VRs σ n a.toList b.toList) : b.size = a.size := by
  have := h.length
  simpa using this.symm
inductive PRs (σ : Ren) (n : Ids) : List (Nat × Value) → List (Nat × Value) → Prop
  | nil : PRs σ n [] []
  | cons (i : Nat) (v v' : Value) (l l' : List (Nat × Value)) (h : VR σ n v v') (t : PRs σ n l l') : PRs σ n ((i, v) :: l) ((i, v') :: l')
theorem fill_vr {σ : Ren} {n : Ids} (place : Nat → Option (Nat × Nat)) : ∀ (l l' : List (Nat × Value)) (cs cs' r : Array Value), PRs σ n l l' → VRs σ n cs.toList cs'.toList → Instr.fill place cs l = some r →
    ∃ r', Instr.fill place cs' l' = some r' ∧ VRs σ n r.toList r'.toList
  | [], _, cs, cs', r, h, hc, hf => by
    cases h
    simp only [Instr.fill] at hf
    injection hf with hf
    subst hf
    exact ⟨cs', rfl, hc⟩
  | (i, v) :: l, _, cs, cs', r, h, hc, hf => by
    cases h with
    | cons _ _ v' _ l' h t =>
      simp only [Instr.fill] at hf ⊢
      cases hp : place i with
      | none => rw [hp] at hf; cases hf
      | some q =>
        obtain ⟨off, size⟩ := q
        rw [hp] at hf
        simp only at hf ⊢
        have h1 := size_vr h.cells
        have h2 := size_vr hc
        rw [h1, h2]
        split at hf
        · cases hf
        · rename_i hcond
          rw [if_neg hcond]
          refine fill_vr place l l' _ _ r t ?_ hf
          rw [← Array.foldl_toList, ← Array.foldl_toList, Array.toList_zipIdx, Array.toList_zipIdx]
          exact foldl_vr off v.cells.toList v'.cells.toList 0 cs cs' h.cells hc
/-- a struct's or an array's cells, built of parts -/
def abuilt (X : Tab) (t : TypeId) (parts : List (Nat × Value)) : Option Value := do
  let it ← X.inf t
  let z ← it.zero
  let d ← X.und t
  cond (flatF 8 z) (match d with
    | .struct fields => do
      let places ← fields.toList.mapM (fun f => (X.inf f.type).map fun i => (f.offset, i.size))
      let c ← Instr.fill (places.toArray[·]?) z.cells parts
      some (.agg c)
    | .array _ e => do
      let ie ← X.inf e
      let c ← Instr.fill (fun i => some (i * ie.size, ie.size)) z.cells parts
      some (.agg c)
    | _ => none) none
theorem mapM_inf (hX : TabOk P X) : ∀ (fs : List Field) (ps : List (Nat × Nat)), fs.mapM (fun f => (X.inf f.type).map fun i => (f.offset, i.size)) = some ps → fs.mapM (fun f => (P.info? f.type).map fun i => (f.offset, i.size)) = some ps
  | [], ps, h => h
  | f :: fs, ps, h => by
    simp only [List.mapM_cons, Option.bind_eq_bind, Option.bind_eq_some_iff, Option.map_eq_some_iff] at h ⊢
    obtain ⟨q, ⟨i, h1, h2⟩, qs, h3, h4⟩ := h
    exact ⟨q, ⟨i, hX.inf _ _ h1, h2⟩, qs, mapM_inf hX fs qs h3, h4⟩
theorem cells_flat {σ : Ren} {n : Ids} {z : Value} (h : flatF 8 z = true) : VRs σ n z.cells.toList z.cells.toList := (VR.flat 8 z h).cells
theorem build_sound (hX : TabOk P X) (h : Rep σ S H W B) {t : TypeId} {parts parts' : Array (Nat × Value)} {r : Value} (hp : PRs σ S parts.toList parts'.toList) (ha : abuilt X t parts.toList = some r) : Shows P σ S H W B (Instr.build t parts') r H := by
  unfold abuilt at ha
  simp only [Option.bind_eq_bind, Option.bind_eq_some_iff] at ha
  obtain ⟨it, h1, z, h2, d, h3, h4⟩ := ha
  cases hf : flatF 8 z with
  | false => rw [hf] at h4; cases h4
  | true =>
    rw [hf] at h4
    simp only [cond_true] at h4
    have e1 := hX.inf t it h1
    have e2 := hX.und t d h3
    split at h4
    · rename_i fields
      simp only [Option.bind_eq_bind, Option.bind_eq_some_iff] at h4
      obtain ⟨ps, h5, c, h6, h7⟩ := h4
      injection h7 with h7
      subst h7
      obtain ⟨c', k1, k2⟩ := fill_vr _ _ _ _ _ _ hp (cells_flat hf) h6
      have e3 := mapM_inf hX _ _ h5
      exact Shows.pure_ h (run_build W t parts' c' (by unfold Program.built; rw [e1, e2]; dsimp only; rw [h2, e3]; exact k1)) (.agg _ _ k2)
    · rename_i m e
      simp only [Option.bind_eq_bind, Option.bind_eq_some_iff] at h4
      obtain ⟨ie, h5, c, h6, h7⟩ := h4
      injection h7 with h7
      subst h7
      obtain ⟨c', k1, k2⟩ := fill_vr _ _ _ _ _ _ hp (cells_flat hf) h6
      have e3 := hX.inf e ie h5
      exact Shows.pure_ h (run_build W t parts' c' (by unfold Program.built; simp [e1, e2, h2, e3, k1])) (.agg _ _ k2)
    · cases h4
/-- a slice's cells, built of parts -/
def abuildSlice (X : Tab) (H : AH) (t : TypeId) (len : Nat) (parts : List (Nat × Value)) : Option (Value × AH) := do
  let d ← X.und t
  match d with
  | .slice e => do
    let ie ← X.inf e
    let z ← ie.zero
    cond (flatF 8 z && Nat.ble (len * ie.size) 16777216 && Nat.ble len 16777216) (do
      let c ← Instr.fill (fun i => some (i * ie.size, ie.size)) ((Array.range (len * ie.size)).map ((cond (Nat.beq (len * ie.size) 0) #[] z.cells)[· % (cond (Nat.beq (len * ie.size) 0) #[] z.cells).size]!)) parts
      let (id, H') ← H.new (.cells c.toList e none)
      some (.slice (some ⟨id, 0, none⟩) len len, H')) none
  | _ => none
theorem getElem!_vr {z : Value} (hf : flatF 8 z = true) {c : Array Value} (hc : c = #[] ∨ c = z.cells) {σ : Ren} {n : Ids} (i : Nat) : VR σ n (c[i]!) (c[i]!) ∨ c[i]! = default := by
  by_cases hi : i < c.size
  · left
    rcases hc with rfl | rfl
    · simp at hi
    · have h5 := cells_flat (σ := σ) (n := n) hf
      have h6 : z.cells.toList[i]? = some (z.cells[i]!) := by
        rw [Array.getElem?_toList, Array.getElem?_eq_getElem hi, getElem!_pos z.cells i hi]
      obtain ⟨v', h7, h8⟩ := h5.get h6
      rw [h6] at h7
      injection h7 with h7
      rw [← h7] at h8
      exact h8
  · right
    simp [hi]
theorem default_vr {σ : Ren} {n : Ids} : VR σ n (default : Value) default := by
  have h : ∀ v : Value, v = default → VR σ n v v := by
    intro v hv
    have : flatF 8 (default : Value) = true := by decide
    rw [hv]
    exact VR.flat 8 _ this
  exact h _ rfl
theorem zeros_vr {z : Value} (hf : flatF 8 z = true) {c : Array Value} (hc : c = #[] ∨ c = z.cells) {σ : Ren} {n : Ids} (m : Nat) : VRs σ n ((Array.range m).map (c[· % c.size]!)).toList ((Array.range m).map (c[· % c.size]!)).toList := by
  refine VRs.of_get rfl fun i v v' hv hv' => ?_
  rw [hv] at hv'
  injection hv' with hv'
  subst hv'
  have hi : i < m := by
    have := (List.getElem?_eq_some_iff.1 hv).1
    simpa using this
  simp only [Array.toList_map, List.getElem?_map, Array.toList_range] at hv
  rw [List.getElem?_range hi] at hv
  injection hv with hv
  subst hv
  show VR σ n (c[i % c.size]!) (c[i % c.size]!)
  rcases getElem!_vr hf hc (σ := σ) (n := n) (i % c.size) with h | h
  · exact h
  · rw [h]; exact default_vr
theorem buildSlice_sound (hX : TabOk P X) (h : Rep σ S H W B) (hfree : ¬ S H.next) (hB : B ≤ W.heap.size) {t : TypeId} {len : Nat} {parts parts' : Array (Nat × Value)} {r : Value} {H' : AH} (hp : PRs σ S parts.toList parts'.toList) (ha : abuildSlice X H t len parts.toList = some (r, H')) :
    Shows P σ S H W B (Instr.buildSlice t len parts') r H' := by
  unfold abuildSlice at ha
  simp only [Option.bind_eq_bind, Option.bind_eq_some_iff] at ha
  obtain ⟨d, h1, h2⟩ := ha
  split at h2
  case h_2 => cases h2
  rename_i e
  simp only [Option.bind_eq_some_iff] at h2
  obtain ⟨ie, h3, z, h4, h5⟩ := h2
  cases hf : (flatF 8 z && Nat.ble (len * ie.size) 16777216 && Nat.ble len 16777216) with
  | false => rw [hf] at h5; cases h5
  | true =>
    rw [hf] at h5
    simp only [cond_true, Option.bind_eq_some_iff] at h5
    simp only [Bool.and_eq_true, Nat.ble_eq] at hf
    obtain ⟨⟨hf1, hf2⟩, hf3⟩ := hf
    obtain ⟨c, h6, ⟨id, H1⟩, h7, h8⟩ := h5
    injection h8 with h8
    injection h8 with h8 h9
    subst h8 h9
    have hzc : (cond (Nat.beq (len * ie.size) 0) #[] z.cells) = #[] ∨ (cond (Nat.beq (len * ie.size) 0) #[] z.cells) = z.cells := by cases Nat.beq (len * ie.size) 0 <;> simp
    obtain ⟨c', k1, k2⟩ := fill_vr _ _ _ _ _ _ hp (zeros_vr hf1 hzc (len * ie.size)) h6
    obtain ⟨σ', S', g1, g2, g3, g4, g5⟩ := h.newCells hfree hB h7 k2
    refine ⟨σ', S', W.alloc (.cells c' e), .slice (some ⟨W.heap.size, 0, none⟩) len len, ?_, by simpa using g2, by simpa using g3, .slice _ _ _ _ _ _ g4 (Nat.le_refl _) (by simp [maxLen]; omega) fun i hi => (by rw [g1] at hi; injection hi with hi; subst hi; exact ⟨rfl, rfl⟩), g5⟩
    have e1 := hX.und t _ h1
    have e2 := hX.inf e ie h3
    have hle : ¬ (len * ie.size > 2 ^ 24) := by omega
    cases h0 : Nat.beq (len * ie.size) 0 with
    | true =>
      rw [h0] at k1
      have h0' : len * ie.size = 0 := by simpa using h0
      simp only [cond_true, h0'] at k1
      simp at k1
      simp [Instr.buildSlice, run_underlying e1, sizeOf, typeInfo, e2, h0', newRow, k1]
    | false =>
      rw [h0] at k1
      have h0' : ¬ (len * ie.size = 0) := by intro h; rw [h] at h0; simp at h0
      simp only [cond_false] at k1
      have h0'' : ¬ (len = 0 ∨ ie.size = 0) := by intro h; apply h0'; rcases h with h | h <;> simp [h]
      have hle' : ¬ (16777216 < len * ie.size) := by omega
      simp [Instr.buildSlice, run_underlying e1, sizeOf, typeInfo, e2, hle', h0'', newRow, zeroValue, h4, k1]
      exact fun h => absurd h h0'
end
end
end Go.Proofs.YtfnamalajmfjbaaGreatDoor.Ev
