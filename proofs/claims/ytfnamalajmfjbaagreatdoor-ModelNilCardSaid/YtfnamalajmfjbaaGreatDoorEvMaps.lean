/- Maps and iterators: abstract, and what they say of the real run. -/
import Derived.Test.YtfnamalajmfjbaaGreatDoorEvApp
import Derived.MapKept
set_option linter.unusedVariables false
set_option linter.unusedSimpArgs false
namespace Go.Proofs.YtfnamalajmfjbaaGreatDoor.Ev
noncomputable section
open Go.MapKept
section
variable {P : Program} {X : Tab} {σ : Ren} {S : Ids} {H : AH} {W : World} {B : Nat}
def ERs (σ : Ren) (n : Ids) (es : List MapEntry) (es' : List MapEntry) : Prop := es.length = es'.length ∧ ∀ (j : Nat) (e : MapEntry), es[j]? = some e → ∃ e', es'[j]? = some e' ∧ ERel σ n e e'
theorem sameNow_true {d : TypeDesc} {a b : Value} (h : Instr.sameNow d a b = some true) : a = b := by
  unfold Instr.sameNow at h
  split at h
  · split at h
    · rename_i e
      injection h with h
      rw [beq_iff_eq] at h
      rw [e, h]
    · cases h
  · injection h with h
    rw [(bytes_beq _ _).1 h]
  · injection h with h
    rw [beq_iff_eq] at h
    rw [h]
  · cases h
theorem findNow_rel {σ : Ren} {n : Ids} {d : TypeDesc} {k : Value} : ∀ (l l' : List MapEntry) (i : Nat) (r : Option (Nat × Value)), ERs σ n l l' → Instr.findNow d k l i = some r →
    (r = none ∧ Instr.findNow d k l' i = some none) ∨ ∃ j e e', r = some (i + j, e.val) ∧ l[j]? = some e ∧ l'[j]? = some e' ∧ ERel σ n e e' ∧ e.key = k ∧ Instr.findNow d k l' i = some (some (i + j, e'.val))
  | [], l', i, r, h, hf => by
    have : l' = [] := List.eq_nil_of_length_eq_zero h.1.symm
    subst this
    simp only [Instr.findNow] at hf
    injection hf with hf
    exact .inl ⟨hf.symm, rfl⟩
  | e :: l, l', i, r, h, hf => by
    cases l' with
    | nil => have := h.1; simp at this
    | cons e' l' =>
      obtain ⟨e2, h1, hr⟩ := h.2 0 e rfl
      simp at h1
      subst h1
      simp only [Instr.findNow] at hf ⊢
      rw [hr.1]
      cases hs : Instr.sameNow d k e.key with
      | none => rw [hs] at hf; cases hf
      | some q =>
        rw [hs] at hf
        cases q with
        | true =>
          simp only at hf
          injection hf with hf
          exact .inr ⟨0, e, e', hf.symm, rfl, rfl, hr, (sameNow_true hs).symm, rfl⟩
        | false =>
          simp only at hf ⊢
          have ht : ERs σ n l l' := ⟨by have := h.1; simpa using this, fun j x hx => by
            have := h.2 (j + 1) x (by simpa using hx)
            simpa using this⟩
          rcases findNow_rel l l' (i + 1) r ht hf with ⟨h2, h3⟩ | ⟨j, x, x', h2, h3, h4, h5, h6, h7⟩
          · exact .inl ⟨h2, h3⟩
          · exact .inr ⟨j + 1, x, x', by rw [h2]; simp; omega, by simpa using h3, by simpa using h4, h5, h6, by rw [h7]; simp; omega⟩
def keyB (d : TypeDesc) (k : Value) : Bool := match d, k with
  | .int _, .int _ _ => true
  | .string, .string _ => true
  | .bool, .bool _ => true
  | _, _ => false
/-- entries of a map; nil: none -/
def mapAt (H : AH) (m : Value) : Option (List MapEntry) := match m with
  | .map none => some []
  | .map (some r) => match H.get r with
    | some (.map es _) => some es
    | _ => none
  | _ => none
def alookup (X : Tab) (H : AH) (t : TypeId) (m k : Value) (ok : Bool) : Option Value := do
  let d ← X.und t
  match d with
  | .map kt et => do
    let kd ← X.und kt
    let es ← mapAt H m
    let it ← X.inf et
    let z ← it.zero
    let f ← Instr.findNow kd k es 0
    cond (keyB kd k && flatF 8 k && flatF 8 z) (match f with
      | some (_, v) => some (cond ok (.tuple #[v, .bool true]) v)
      | none => some (cond ok (.tuple #[z, .bool false]) z)) none
  | _ => none
theorem checkKey_run (hX : TabOk P X) {kt : TypeId} {kd : TypeDesc} {k : Value} (h : X.und kt = some kd) (hk : keyB kd k = true) (e : Bool) (w : World) : (Instr.checkKey e 10000 kt k).run P w = .ok () w := by
  rw [show (10000 : Nat) = 9999 + 1 from rfl]
  unfold Instr.checkKey
  rw [Sem.run_bind, run_underlying (hX.und kt kd h)]
  simp only [Result.andThen_ok]
  cases kd <;> cases k <;> simp_all [keyB]
theorem flat_same {σ : Ren} {n : Ids} {v v' : Value} (h : VR σ n v v') (hf : flatF 8 v = true) : v' = v := VR.flat_eq 8 v v' h hf
theorem lookup_sound (hX : TabOk P X) (h : Rep σ S H W B) {t : TypeId} {m m' k k' r : Value} {ok : Bool} (hm : VR σ S m m') (hk : VR σ S k k') (ha : alookup X H t m k ok = some r) : Shows P σ S H W B (Instr.lookup t m' k' ok) r H := by
  unfold alookup at ha
  simp only [Option.bind_eq_bind, Option.bind_eq_some_iff] at ha
  obtain ⟨d, h1, h2⟩ := ha
  split at h2
  case h_2 => cases h2
  rename_i kt et
  simp only [Option.bind_eq_some_iff] at h2
  obtain ⟨kd, h3, es, h4, it, h5, z, h6, f, h7, h8⟩ := h2
  cases hc : (keyB kd k && flatF 8 k && flatF 8 z) with
  | false => rw [hc] at h8; cases h8
  | true =>
    rw [hc] at h8
    simp only [cond_true] at h8
    simp only [Bool.and_eq_true] at hc
    obtain ⟨⟨c1, c2⟩, c3⟩ := hc
    have hkk := flat_same hk c2
    subst hkk
    have e1 := hX.und t _ h1
    have e2 := hX.inf et it h5
    have hes : ∃ es' : Array MapEntry, ERs σ S es es'.toList ∧ ((m' = .map none ∧ es' = #[]) ∨ ∃ r' clock, m' = .map (some r') ∧ W.heap[r']? = some (.map es' clock)) := by
      unfold mapAt at h4
      split at h4
      · injection h4 with h4
        subst h4
        cases hm
        exact ⟨#[], ⟨rfl, fun j e he => by simp at he⟩, .inl ⟨rfl, rfl⟩⟩
      · split at h4
        · rename_i b es2 clock hg
          injection h4 with h4
          subst h4
          cases hm with
          | map _ b' hb hi =>
            obtain ⟨_, i, hs, ⟨es', g1, g2, g3⟩, _⟩ := h.live _ _ hg
            rw [hi i hs]
            exact ⟨es', ⟨by simpa using g2, fun j e he => by obtain ⟨e', a, b⟩ := g3 j e he; exact ⟨e', by simpa using a, b⟩⟩, .inr ⟨_, _, rfl, g1⟩⟩
        · cases h4
      · cases h4
    obtain ⟨es', hrel, hm2⟩ := hes
    have hz : (zeroValue et).run P W = .ok z W := by simp [zeroValue, typeInfo, e2, h6]
    have hfind : ∃ f', Instr.findNow kd k' es'.toList 0 = some f' ∧ ((f = none ∧ f' = none) ∨ ∃ j v v', f = some (j, v) ∧ f' = some (j, v') ∧ VR σ S v v') := by
      rcases findNow_rel es es'.toList 0 f hrel h7 with ⟨g1, g2⟩ | ⟨j, e, e', g1, _, _, g4, _, g6⟩
      · exact ⟨none, g2, .inl ⟨g1, rfl⟩⟩
      · exact ⟨_, g6, .inr ⟨_, _, _, g1, rfl, g4.2.2.2⟩⟩
    obtain ⟨f', hf1, hf2⟩ := hfind
    have hfk := run_findKey (P := P) (w := W) (hX.und kt kd h3) hf1
    have hck := fun e => checkKey_run (P := P) hX h3 c1 e W
    have hall : ∀ (rv : Value × Bool), (do
        let (v, ok') ← match f' with
          | some (_, v) => pure (v, true)
          | none => pure (← zeroValue et, false)
        pure (if ok then .tuple #[v, .bool ok'] else v) : Sem Value).run P W = .ok (if ok then .tuple #[rv.1, .bool rv.2] else rv.1) W →
        (Instr.lookup t m' k' ok).run P W = .ok (if ok then .tuple #[rv.1, .bool rv.2] else rv.1) W := by
      intro rv hrv
      unfold Instr.lookup
      rw [Sem.run_bind, run_underlying e1]
      simp only [Result.andThen_ok]
      rcases hm2 with ⟨rfl, rfl⟩ | ⟨r', clock, rfl, hb⟩
      · simp only [Sem.run_bind, Sem.run_pure, Result.andThen_ok, hck, hfk] at hrv ⊢
        exact hrv
      · simp only [Sem.run_bind, MapKept.run_getObj_map hb, Sem.run_pure, Result.andThen_ok, hck, hfk] at hrv ⊢
        exact hrv
    rcases hf2 with ⟨rfl, rfl⟩ | ⟨j, v, v', rfl, rfl, hv⟩
    · simp only at h8
      injection h8 with h8
      subst h8
      refine Shows.pure_ h (hall (z, false) (by simp [hz])) ?_
      cases ok
      · exact VR.flat 8 z c3
      · exact .tuple _ _ (.cons _ _ _ _ (VR.flat 8 z c3) (.cons _ _ _ _ (.bool _) .nil))
    · simp only at h8
      injection h8 with h8
      subst h8
      refine Shows.pure_ h (hall (v', true) (by simp)) ?_
      cases ok
      · exact hv
      · exact .tuple _ _ (.cons _ _ _ _ hv (.cons _ _ _ _ (.bool _) .nil))
theorem keyStays_run {kd : TypeDesc} {k : Value} (hk : keyB kd k = true) (w : World) : (Instr.keyThatStays k k).run P w = .ok k w := by
  have : Instr.sameBits 10000 k k = true := by
    cases kd <;> cases k <;> simp_all [keyB, Instr.sameBits, bytes_beq]
  simp [Instr.keyThatStays, this]
/-- entries with one changed, or one more -/
def updated (es : List MapEntry) (clock : Nat) (k v : Value) : Option (Nat × Value) → List MapEntry × Nat
  | some (i, _) => (es.modify i fun e => { e with key := k, val := v }, clock)
  | none => (es ++ [{ key := k, val := v, born := clock }], clock + 1)
def amapUpdate (X : Tab) (H : AH) (t : TypeId) (m k v : Value) : Option AH := do
  let d ← X.und t
  match d, m with
  | .map kt _, .map (some r) => do
    let kd ← X.und kt
    match H.get r with
    | some (.map es clock) => do
      let f ← Instr.findNow kd k es 0
      cond (keyB kd k && flatF 8 k && Nat.blt r 16777215) (some (H.put r (.map (updated es clock k v f).1 (updated es clock k v f).2))) none
    | _ => none
  | _, _ => none
theorem put_map (h : Rep σ S H W B) {r : Nat} {i : Inf} {es es2 : List MapEntry} {es2' : Array MapEntry} {clock clock2 : Nat} {ob : Obj} (hg : H.get r = some (.map es clock)) (hs : σ r = some i) (hr : r < 16777215) (hob : W.heap[i.blk]? = some ob) (hrel : ERs σ S es2 es2'.toList) :
    Rep σ S (H.put r (.map es2 clock2)) { W with heap := W.heap.setIfInBounds i.blk (.map es2' clock2) } B ∧ Evo σ S W σ S { W with heap := W.heap.setIfInBounds i.blk (.map es2' clock2) } := by
  have hh := heap_set (o' := .map es2' clock2) hob
  exact h.put_ (W' := { W with heap := W.heap.setIfInBounds i.blk (.map es2' clock2) }) hg hs hr (by simp) hh.2 rfl rfl rfl ⟨es2', hh.1, by simpa using hrel.1, fun j e he => by obtain ⟨e', a, b⟩ := hrel.2 j e he; exact ⟨e', by simpa using a, b⟩⟩
theorem mapUpdate_sound (hX : TabOk P X) (h : Rep σ S H W B) {t : TypeId} {m m' k k' v v' : Value} {H' : AH} (hm : VR σ S m m') (hk : VR σ S k k') (hv : VR σ S v v') (ha : amapUpdate X H t m k v = some H') :
    ShowsU P σ S H W B (Instr.mapUpdate t m' k' v') H' := by
  unfold amapUpdate at ha
  simp only [Option.bind_eq_bind, Option.bind_eq_some_iff] at ha
  obtain ⟨d, h1, h2⟩ := ha
  split at h2
  case h_2 => cases h2
  rename_i kt et r
  simp only [Option.bind_eq_some_iff] at h2
  obtain ⟨kd, h3, h4⟩ := h2
  split at h4
  case h_2 => cases h4
  rename_i es clock hg
  simp only [Option.bind_eq_some_iff] at h4
  obtain ⟨f, h5, h6⟩ := h4
  cases hc : (keyB kd k && flatF 8 k && Nat.blt r 16777215) with
  | false => rw [hc] at h6; cases h6
  | true =>
    rw [hc] at h6
    injection h6 with h6
    subst h6
    simp only [Bool.and_eq_true, Nat.blt_eq] at hc
    obtain ⟨⟨c1, c2⟩, c3⟩ := hc
    have hkk := flat_same hk c2
    subst hkk
    cases hm with
    | map _ b' hb hi =>
      obtain ⟨_, i, hs, ⟨es', g1, g2, g3⟩, _⟩ := h.live _ _ hg
      rw [hi i hs]
      have e1 := hX.und t _ h1
      have hrel : ERs σ S es es'.toList := ⟨by simpa using g2, fun j e he => by obtain ⟨e', a, b⟩ := g3 j e he; exact ⟨e', by simpa using a, b⟩⟩
      have hck := checkKey_run (P := P) hX h3 c1 false W
      rcases findNow_rel es es'.toList 0 f hrel h5 with ⟨rfl, q2⟩ | ⟨j, e, e', rfl, q3, q4, q5, q6, q7⟩
      · have hfk := run_findKey (P := P) (w := W) (hX.und kt kd h3) q2
        have hp := put_map (es2 := es ++ [{ key := k', val := v, born := clock }]) (es2' := es'.push { key := k', val := v', born := clock }) (clock2 := clock + 1) h hg hs c3 g1 ⟨by simp [hrel.1], fun j e he => by
          rcases Nat.lt_or_ge j es.length with hj | hj
          · rw [List.getElem?_append_left hj] at he
            obtain ⟨e', a, b⟩ := hrel.2 j e he
            refine ⟨e', ?_, b⟩
            rw [Array.toList_push, List.getElem?_append_left (by rw [← hrel.1]; exact hj)]
            exact a
          · rw [List.getElem?_append_right hj] at he
            have hj0 : j - es.length = 0 := by
              have := (List.getElem?_eq_some_iff.1 he).1
              simpa using this
            rw [hj0] at he
            simp at he
            subst he
            refine ⟨{ key := k', val := v', born := clock }, ?_, rfl, c2, rfl, hv⟩
            rw [Array.toList_push, List.getElem?_append_right (by rw [← hrel.1]; exact hj), ← hrel.1, hj0]
            rfl⟩
        exact ⟨σ, S, _, by simp [Instr.mapUpdate, run_underlying e1, MapKept.run_getObj_map g1, hck, hfk, run_setObj_map _ g1], hp.1, hp.2, Taken.refl _ _⟩
      · have hfk := run_findKey (P := P) (w := W) (hX.und kt kd h3) q7
        simp only [Nat.zero_add] at hfk
        have q4' : es'[j]? = some e' := by rw [← Array.getElem?_toList]; exact q4
        have hkey : e'.key = k' := by rw [q5.1, q6]
        have hst := keyStays_run (P := P) c1 W
        have hp := put_map (es2 := es.modify j fun e => { e with key := k', val := v }) (es2' := es'.modify j fun e => { e with key := k', val := v' }) (clock2 := clock) h hg hs c3 g1 ⟨by simp [hrel.1], fun j2 e2 he => by
          rw [List.getElem?_modify] at he
          rw [Array.toList_modify, List.getElem?_modify]
          cases hx : es[j2]? with
          | none => rw [hx] at he; simp at he
          | some x =>
            obtain ⟨x', a, b⟩ := hrel.2 j2 x hx
            rw [hx] at he
            rw [a]
            simp only [Option.map_eq_map, Option.map_some, Option.some.injEq] at he ⊢
            refine ⟨_, rfl, ?_⟩
            split at he
            · rename_i e9
              rw [if_pos e9]
              subst he
              exact ⟨rfl, c2, b.2.2.1, hv⟩
            · rename_i e9
              rw [if_neg e9]
              subst he
              exact b⟩
        refine ⟨σ, S, { W with heap := W.heap.setIfInBounds i.blk (.map (es'.modify j fun e => { e with key := k', val := v' }) clock) }, ?_, ?_, ?_, Taken.refl _ _⟩
        · simp [Instr.mapUpdate, run_underlying e1, MapKept.run_getObj_map g1, hck, hfk, q4', hkey, hst, run_setObj_map _ g1]
        · simpa [updated] using hp.1
        · exact hp.2
def amakeMap (H : AH) : Option (Value × AH) := do
  let (id, H') ← H.new (.map [] 0)
  some (.map (some id), H')
theorem makeMap_sound (h : Rep σ S H W B) (hfree : ¬ S H.next) (hB : B ≤ W.heap.size) {t : TypeId} {r : Value} {H' : AH} (ha : amakeMap H = some (r, H')) : Shows P σ S H W B (Instr.makeMap t none) r H' := by
  unfold amakeMap at ha
  simp only [Option.bind_eq_bind, Option.bind_eq_some_iff] at ha
  obtain ⟨⟨id, H1⟩, h1, h2⟩ := ha
  injection h2 with h2
  injection h2 with h2 h3
  subst h2 h3
  obtain ⟨σ', k1, k2, k3, rfl, k6⟩ := h.new_ hfree h1 (ob := .map #[] 0) (k := 0) hB fun σ' hσ => ⟨#[], Go.heap_alloc_new W _, rfl, fun j e he => by simp at he⟩
  have k5 : Taken S H.next (more S H.next) H1.next := by rw [k6]; exact taken_more _ _
  exact ⟨σ', _, W.alloc (.map #[] 0), .map (some W.heap.size), rfl, k2, k3, .map _ _ (.inr rfl) fun i hi => (by rw [k1] at hi; injection hi with hi; subst hi; rfl), k5⟩
def arange (X : Tab) (H : AH) (t : TypeId) (x : Value) : Option (Value × AH) := do
  let d ← X.und t
  let o ← (match d, x with
    | .string, .string s => some (.sit s 0)
    | .map _ _, .map none => some (.mit none 0 [] 0)
    | .map _ _, .map (some m) => match H.get m with
      | some (.map _ clock) => some (.mit (some m) clock [] clock)
      | _ => none
    | _, _ => none)
  let (id, H') ← H.new o
  some (.pointer (some ⟨id, 0, none⟩), H')
theorem range_sound (hX : TabOk P X) (h : Rep σ S H W B) (hfree : ¬ S H.next) (hB : B ≤ W.heap.size) {t : TypeId} {x x' r : Value} {H' : AH} (hx : VR σ S x x') (ha : arange X H t x = some (r, H')) : Shows P σ S H W B (Instr.range t x') r H' := by
  unfold arange at ha
  simp only [Option.bind_eq_bind, Option.bind_eq_some_iff] at ha
  obtain ⟨d, h1, o, h2, ⟨id, H1⟩, h3, h4⟩ := ha
  injection h4 with h4
  injection h4 with h4 h5
  subst h4 h5
  have e1 := hX.und t _ h1
  have key : ∀ (ob : Obj), (Instr.range t x').run P W = .ok (.pointer (some ⟨W.heap.size, 0, none⟩)) (W.alloc ob) → (∀ σ', Ext σ S σ' (more S H.next) → ORel σ' (more S H.next) ((W.alloc ob).drewN 0) ⟨W.heap.size, 0, none⟩ o) →
      Shows P σ S H W B (Instr.range t x') (.pointer (some ⟨id, 0, none⟩)) H1 := by
    intro ob hrun ho
    obtain ⟨σ', k1, k2, k3, rfl, k6⟩ := h.new_ hfree h3 (ob := ob) (k := 0) hB ho
    have k5 : Taken S H.next (more S H.next) H1.next := by rw [k6]; exact taken_more _ _
    exact ⟨σ', _, W.alloc ob, _, hrun, k2, k3, .ptr _ _ _ (.inr rfl) fun i hi => (by rw [k1] at hi; injection hi with hi; subst hi; rfl), k5⟩
  split at h2
  · rename_i s
    injection h2 with h2
    subst h2
    cases hx
    refine key (.stringIter s 0) ?_ fun σ' hσ => ⟨Go.heap_alloc_new W _, rfl⟩
    simp [Instr.range, run_underlying e1]
  · injection h2 with h2
    subst h2
    cases hx
    refine key (.mapIter none 0 #[] 0) ?_ fun σ' hσ => ⟨none, Go.heap_alloc_new W _, .mapNil, rfl⟩
    simp [Instr.range, run_underlying e1]
  · rename_i m
    split at h2
    · rename_i es clock hg
      injection h2 with h2
      subst h2
      cases hx with
      | map _ b' hb hi =>
        obtain ⟨_, i, hs, ⟨es', g1, _⟩, _⟩ := h.live _ _ hg
        refine key (.mapIter (some b') clock #[] clock) ?_ fun σ' hσ => ⟨some b', Go.heap_alloc_new W _, .map _ _ (.inl hb) (fun i2 hi2 => hi i2 (hσ.old _ _ hb hi2)), rfl⟩
        rw [hi i hs]
        simp [Instr.range, run_underlying e1, MapKept.run_getObj_map g1]
    · cases h2
  · cases h2
end
end
end Go.Proofs.YtfnamalajmfjbaaGreatDoor.Ev
