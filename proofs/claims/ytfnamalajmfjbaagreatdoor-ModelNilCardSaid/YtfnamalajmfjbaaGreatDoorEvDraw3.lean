/- Regions whose order is drawn: what the one pass over the text shows. -/
import Derived.Test.YtfnamalajmfjbaaGreatDoorEvDraw2
set_option linter.unusedVariables false
set_option linter.unusedSimpArgs false
namespace Go.Proofs.YtfnamalajmfjbaaGreatDoor.Ev
noncomputable section
def below (R : Nat → Option Rec) (i : Nat) : Nat → Option Rec := fun j => if j < i then R j else none
theorem below_some {R : Nat → Option Rec} {i j : Nat} {r : Rec} : below R i j = some r ↔ j < i ∧ R j = some r := by
  unfold below
  by_cases h : j < i <;> simp [h]
def isChn (r : Rec) : Prop := ∃ tab, r.kd = .chn tab
def Al (f : Nat → Option Rec) (n0 anc : Nat) : Ids := fun b => b < n0 ∨ ∃ j r, f j = some r ∧ Nat.testBit anc j = true ∧ r.lo ≤ b ∧ b < r.hi
/-- the memory's last state, and what it holds of the fresh blocks -/
def CurF (f : Nat → Option Rec) (H : AH) (cur : T AObj) (mg : Nat) : Prop :=
  ((∀ j r, f j = some r → ¬ isChn r) ∧ cur = H.tab ∧ mg = 0) ∨ ∃ c r, f c = some r ∧ r.kd = .chn cur ∧ mg = r.anc ∧ ∀ j r', f j = some r' → isChn r' → j ≤ c
structure EnvF (ops : Array Oper) (A : AAct) (f : Nat → Option Rec) (anc : Nat) (ρ : Env) : Prop where
  tmp : ∀ t v, ρ (.tmp t) = some v → (∃ (j : Nat) (o : Oper) (r : Rec), ops[j]? = some o ∧ o.dst = some t ∧ f j = some r ∧ Nat.testBit anc j = true ∧ v = r.v) ∨ ((∀ (j : Nat) (o : Oper), ops[j]? = some o → o.dst ≠ some t) ∧ v = A.at_ t)
  const : ∀ u v, ρ (.const u) = some v → flatF 8 u = true ∧ v = u
  glob : ∀ g, ρ (.global g) = none
  func : ∀ g v, ρ (.func g) = some v → v = .func (.func g) #[] #[]
def GuardF (ops : Array Oper) (f : Nat → Option Rec) (anc : Nat) (o : Oper) (w : Bool) : Prop := match o.guard with
  | none => w = true
  | some (g, want) => Nat.testBit anc g = true ∧ ∃ og d rg, ops[g]? = some og ∧ og.dst = some d ∧ f g = some rg ∧ ((∃ b, rg.v = .bool b ∧ w = (b == want)) ∨ (∃ cs, rg.v = .tuple cs ∧ w = false))
def InF (f : Nat → Option Rec) (n0 : Nat) (r : Rec) (q : (Nat → Bool) → Bool) : Prop := ∃ p : Nat → Bool, q p = true ∧ ∀ b, p b = true → Al f n0 r.anc b ∨ (r.lo ≤ b ∧ b < r.hi)
def WorkF (P : Program) (X : Tab) (call : ACall) (H : AH) (f : Nat → Option Rec) (i : Nat) (o : Oper) (r : Rec) (ρ : Env) : Prop :=
    ((r.kd = .loc ∧ r.hi = r.lo ∧ (∀ G, aop P X G ρ o = some (.value r.v, G)) ∧ InF f H.next r (fun p => allIn p 8 r.v)) ∨
     (∃ q, r.kd = .read q ∧ r.hi = r.lo ∧ ReadF X ρ o q ∧ (∃ cur mg, CurF f H cur mg ∧ q cur = some r.v) ∧ InF f H.next r (fun p => allIn p 8 r.v)) ∨
     (∃ ob, r.kd = .fresh ob ∧ r.hi = r.lo + 1 ∧ r.lo ≤ 16000000 ∧ (∀ G : AH, G.next = r.lo → aop P X G ρ o = some (.value r.v, ⟨r.lo + 1, G.tab.set r.lo (some ob)⟩)) ∧ InF f H.next r (fun p => allIn p 8 r.v && kdIn p (.fresh ob))) ∨
     (∃ tab cur mg, r.kd = .chn tab ∧ CurF f H cur mg ∧ (∀ j rj, f j = some rj → isChn rj → Nat.testBit r.anc j = true) ∧ evRes P X call ρ o ⟨r.lo, addFresh f (fun j => Nat.testBit r.anc j && !Nat.testBit mg j) i cur⟩ = some (r.v, ⟨r.hi, tab⟩)))
structure Fact (P : Program) (X : Tab) (call : ACall) (ops : Array Oper) (A : AAct) (H : AH) (f : Nat → Option Rec) (i : Nat) (o : Oper) (r : Rec) : Prop where
  edges : ∀ e ∈ o.after.toList, Region.binds .any e = true → Nat.testBit r.anc e.on = true ∧ ∃ re, f e.on = some re ∧ ∀ m, Nat.testBit re.anc m = true → Nat.testBit r.anc m = true
  anc : ∀ j, Nat.testBit r.anc j = true → ∃ e ∈ o.after.toList, Region.binds .any e = true ∧ ∃ re, f e.on = some re ∧ (j = e.on ∨ Nat.testBit re.anc j = true)
  lo : H.next ≤ r.lo
  le : r.lo ≤ r.hi
  before : ∀ j rj, f j = some rj → rj.hi ≤ r.lo
  dst : ∀ d, o.dst = some d → d < A.n
  work : (GuardF ops f r.anc o false ∧ r.kd = .loc ∧ r.v = undef ∧ r.hi = r.lo) ∨ ∃ ρ, EnvF ops A f r.anc ρ ∧ GuardF ops f r.anc o true ∧
    WorkF P X call H f i o r ρ
theorem ancOf_spec {f : Nat → Option Rec} : ∀ (l : List Edge) (m anc : Nat), ancOf f l m = some anc → (∀ j, Nat.testBit m j = true → Nat.testBit anc j = true) ∧ (∀ e ∈ l, Region.binds .any e = true → Nat.testBit anc e.on = true ∧ ∃ re, f e.on = some re ∧ ∀ m, Nat.testBit re.anc m = true → Nat.testBit anc m = true) ∧
    ∀ j, Nat.testBit anc j = true → Nat.testBit m j = true ∨ ∃ e ∈ l, Region.binds .any e = true ∧ ∃ re, f e.on = some re ∧ (j = e.on ∨ Nat.testBit re.anc j = true)
  | [], m, anc, h => by
    simp only [ancOf] at h
    injection h with h
    subst h
    exact ⟨fun _ h => h, fun e he _ => (by cases he), fun j hj => .inl hj⟩
  | e :: l, m, anc, h => by
    simp only [ancOf] at h
    cases hb : Region.binds .any e with
    | false =>
      rw [hb] at h
      obtain ⟨h1, h2, h3⟩ := ancOf_spec l m anc h
      refine ⟨h1, fun e' he' hb' => ?_, fun j hj => ?_⟩
      · rcases List.mem_cons.1 he' with rfl | he'
        · rw [hb] at hb'; cases hb'
        · exact h2 e' he' hb'
      · rcases h3 j hj with h4 | ⟨e', h4, h5⟩
        · exact .inl h4
        · exact .inr ⟨e', List.mem_cons_of_mem _ h4, h5⟩
    | true =>
      rw [hb] at h
      simp only [cond_true] at h
      split at h
      case h_2 => cases h
      rename_i r hr
      obtain ⟨h1, h2, h3⟩ := ancOf_spec l _ anc h
      have hbit : ∀ j, Nat.testBit (m ||| r.anc ||| (1 <<< e.on)) j = (Nat.testBit m j || Nat.testBit r.anc j || decide (e.on = j)) := by
        intro j
        rw [Nat.testBit_or, Nat.testBit_or, Nat.one_shiftLeft, Nat.testBit_two_pow]
      refine ⟨fun j hj => h1 j (by rw [hbit, hj]; rfl), fun e' he' hb' => ?_, fun j hj => ?_⟩
      · rcases List.mem_cons.1 he' with rfl | he'
        · exact ⟨h1 _ (by rw [hbit]; simp), r, hr, fun m hm => h1 _ (by rw [hbit, hm]; simp)⟩
        · exact h2 e' he' hb'
      · rcases h3 j hj with h4 | ⟨e', h4, h5⟩
        · rw [hbit] at h4
          simp only [Bool.or_eq_true, decide_eq_true_eq] at h4
          rcases h4 with (h4 | h4) | h4
          · exact .inl h4
          · exact .inr ⟨e, List.mem_cons_self, hb, r, hr, .inr h4⟩
          · exact .inr ⟨e, List.mem_cons_self, hb, r, hr, .inl h4.symm⟩
        · exact .inr ⟨e', List.mem_cons_of_mem _ h4, h5⟩
theorem inAlR_spec {f : Nat → Option Rec} {n0 anc lo hi b : Nat} : ∀ m, inAlR f n0 anc lo hi b m = true → Al f n0 anc b ∨ (lo ≤ b ∧ b < hi)
  | 0, h => by
    simp only [inAlR, Bool.and_eq_true, Nat.blt_eq, Nat.ble_eq] at h
    exact .inr h
  | m + 1, h => by
    simp only [inAlR, Bool.or_eq_true, Bool.and_eq_true] at h
    rcases h with ⟨h1, h2⟩ | h
    · split at h2
      · rename_i r hr
        simp only [Bool.and_eq_true, Nat.blt_eq, Nat.ble_eq] at h2
        exact .inl (.inr ⟨m, r, hr, h1, h2⟩)
      · cases h2
    · exact inAlR_spec m h
theorem inAl_spec {f : Nat → Option Rec} {n0 anc lo hi b : Nat} (m : Nat) (h : inAl f n0 anc lo hi b m = true) : Al f n0 anc b ∨ (lo ≤ b ∧ b < hi) := by
  unfold inAl at h
  split at h
  · rename_i h1
    exact .inl (.inl (by simpa using h1))
  · exact inAlR_spec m h
section
variable {P : Program} {X : Tab} {call : ACall} {ops : Array Oper} {A : AAct} {H : AH} {slots : T Nat}
theorem dstOk_spec {i d : Nat} (h : dstOk slots i (some d) = true) : slots.get d = some i := by
  unfold dstOk at h
  simp only at h
  split at h
  · rename_i j hj
    rw [hj, beqN h]
  · cases h
theorem dpass_dst : ∀ (l : List Oper) (k : Nat) (s s' : DS), dpass P X call ops.toList slots H.next l k s = some s' → ∀ j o, l[j]? = some o → dstOk slots (k + j) o.dst = true
  | [], _, _, _, _, j, o, h => by simp at h
  | o :: l, k, s, s', h, j, o', hj => by
    simp only [dpass] at h
    split at h
    case h_2 => cases h
    rename_i s1 h1
    cases j with
    | zero =>
      simp only [List.getElem?_cons_zero, Option.some.injEq] at hj
      subst hj
      unfold dstep at h1
      rw [Option.bind_eq_some_iff] at h1
      obtain ⟨anc, _, h2⟩ := h1
      cases hd : dstOk slots k o.dst with
      | true => simp
      | false => rw [hd] at h2; cases h2
    | succ j =>
      have := dpass_dst l (k + 1) s1 s' h j o' (by simpa using hj)
      rwa [show k + (j + 1) = k + 1 + j by omega]
/-- what holds when k operations were gone through -/
structure Good (P : Program) (X : Tab) (call : ACall) (ops : Array Oper) (A : AAct) (H : AH) (k : Nat) (s : DS) : Prop where
  none_ : ∀ j, k ≤ j → s.recs.get j = none
  facts : ∀ j, j < k → ∃ (o : Oper) (r : Rec), ops[j]? = some o ∧ s.recs.get j = some r ∧ Fact P X call ops A H (below s.recs.get j) j o r
  at1 : ∀ (j : Nat) (o : Oper) (r : Rec) (t : Nat), ops[j]? = some o → o.dst = some t → s.recs.get j = some r → s.A.at_ t = r.v
  at2 : ∀ t, (∀ (j : Nat) (o : Oper), j < k → ops[j]? = some o → o.dst ≠ some t) → s.A.at_ t = A.at_ t
  n : s.A.n = A.n
  defers : s.A.defers = A.defers
  lo : H.next ≤ s.next
  next : ∀ j r, s.recs.get j = some r → r.hi ≤ s.next
  ch : ∀ j, Nat.testBit s.ch j = true ↔ ∃ r, s.recs.get j = some r ∧ isChn r
  cur : CurF s.recs.get H s.cur s.mg
theorem denv_fact (hs : ∀ (j : Nat) (o : Oper) (t : Nat), ops[j]? = some o → o.dst = some t → slots.get t = some j) {k : Nat} {s : DS} (g : Good P X call ops A H k s) {anc : Nat} (hanc : ∀ j, Nat.testBit anc j = true → j < k) : EnvF ops A s.recs.get anc (denv s.A slots anc) := by
  refine ⟨fun t v h => ?_, fun u v h => ?_, fun _ => rfl, fun q v h => ?_⟩
  · simp only [denv] at h
    by_cases hd : ∃ (j : Nat) (o : Oper), ops[j]? = some o ∧ o.dst = some t
    · obtain ⟨j, o, h1, h2⟩ := hd
      rw [hs j o t h1 h2] at h
      simp only at h
      cases hb : Nat.testBit anc j with
      | false => rw [hb] at h; cases h
      | true =>
        rw [hb] at h
        injection h with h
        obtain ⟨o', r, h3, h4, _⟩ := g.facts j (hanc j hb)
        exact .inl ⟨j, o, r, h1, h2, h4, hb, by rw [← h, g.at1 j o r t h1 h2 h4]⟩
    · have hd' : ∀ (j : Nat) (o : Oper), ops[j]? = some o → o.dst ≠ some t := fun j o h1 h2 => hd ⟨j, o, h1, h2⟩
      have hat := g.at2 t fun j o _ h1 => hd' j o h1
      refine .inr ⟨hd', ?_⟩
      split at h
      · injection h with h
        rw [← h, hat]
      · rename_i j _
        cases hb : Nat.testBit anc j with
        | false => rw [hb] at h; cases h
        | true =>
          rw [hb] at h
          injection h with h
          rw [← h, hat]
  · simp only [denv, AAct.env] at h
    cases hf : flatF 8 u with
    | false => rw [hf] at h; cases h
    | true => rw [hf] at h; injection h with h; exact ⟨rfl, h.symm⟩
  · simp only [denv, AAct.env] at h
    injection h with h
    exact h.symm
theorem dwanted_fact {f : Nat → Option Rec} {anc : Nat} {o : Oper} {w : Bool} (h : dwanted ops.toList f anc o = some w) : GuardF ops f anc o w := by
  unfold dwanted at h
  unfold GuardF
  split at h
  · rename_i hg
    injection h with h
    rw [hg]
    exact h.symm
  · rename_i g want hg
    rw [hg]
    simp only
    cases hb : Nat.testBit anc g with
    | false => rw [hb] at h; cases h
    | true =>
      rw [hb] at h
      simp only [cond_true] at h
      refine ⟨rfl, ?_⟩
      split at h
      · rename_i d r h1 h2
        split at h
        · rename_i b hb
          injection h with h
          rw [Option.bind_eq_some_iff] at h1
          obtain ⟨og, h3, h4⟩ := h1
          exact ⟨og, d, r, by simpa using h3, h4, h2, .inl ⟨b, hb, h.symm⟩⟩
        · rename_i cs hb
          injection h with h
          rw [Option.bind_eq_some_iff] at h1
          obtain ⟨og, h3, h4⟩ := h1
          exact ⟨og, d, r, by simpa using h3, h4, h2, .inr ⟨cs, hb, h.symm⟩⟩
        · cases h
      · cases h
/-- forerunners come first, and theirs are its own -/
theorem anc_lt {R : Nat → Option Rec} (hF : ∀ i r, R i = some r → ∃ o, Fact P X call ops A H (below R i) i o r) : ∀ (i : Nat) (r : Rec) (j : Nat), R i = some r → Nat.testBit r.anc j = true → j < i ∧ ∃ rj, R j = some rj := by
  intro i
  induction i using Nat.strongRecOn with
  | ind i ih =>
    intro r j h hj
    obtain ⟨o, F⟩ := hF i r h
    obtain ⟨e, _, _, re, h1, h2⟩ := F.anc j hj
    obtain ⟨h3, h4⟩ := below_some.1 h1
    rcases h2 with rfl | h2
    · exact ⟨h3, re, h4⟩
    · obtain ⟨h5, h6⟩ := ih e.on h3 re j h4 h2
      exact ⟨by omega, h6⟩
theorem anc_trans {R : Nat → Option Rec} (hF : ∀ i r, R i = some r → ∃ o, Fact P X call ops A H (below R i) i o r) : ∀ (i : Nat) (r : Rec) (j : Nat) (rj : Rec) (m : Nat), R i = some r → Nat.testBit r.anc j = true → R j = some rj → Nat.testBit rj.anc m = true → Nat.testBit r.anc m = true := by
  intro i
  induction i using Nat.strongRecOn with
  | ind i ih =>
    intro r j rj m h hj hrj hm
    obtain ⟨o, F⟩ := hF i r h
    obtain ⟨e, h0, hb, re, h1, h2⟩ := F.anc j hj
    obtain ⟨h3, h4⟩ := below_some.1 h1
    obtain ⟨_, re', h5, h6⟩ := F.edges e h0 hb
    rw [h1] at h5
    injection h5 with h5
    subst h5
    rcases h2 with rfl | h2
    · rw [h4] at hrj
      injection hrj with hrj
      subst hrj
      exact h6 m hm
    · exact h6 m (ih e.on h3 re j rj m h4 h2 hrj hm)
theorem Good.hF {k : Nat} {s : DS} (g : Good P X call ops A H k s) : ∀ i r, s.recs.get i = some r → ∃ o, Fact P X call ops A H (below s.recs.get i) i o r := by
  intro i r e
  rcases Nat.lt_or_ge i k with hi | hi
  · obtain ⟨o, r', _, h1, h2⟩ := g.facts i hi
    rw [e] at h1
    injection h1 with h1
    subst h1
    exact ⟨o, h2⟩
  · rw [g.none_ i hi] at e; cases e
theorem inF_of {f : Nat → Option Rec} {r : Rec} {i : Nat} {n0 : Nat} {q : (Nat → Bool) → Bool} (h : q (fun b => inAl f n0 r.anc r.lo r.hi b i) = true) : InF f n0 r q := ⟨_, h, fun _ hb => inAl_spec i hb⟩
theorem drec_fact {k : Nat} {s : DS} (g : Good P X call ops A H k s) {anc : Nat} {ρ : Env} {o : Oper} {r : Rec} (h : drec P X call H.next s ρ o k anc = some r) : r.anc = anc ∧ r.lo = s.next ∧ r.lo ≤ r.hi ∧
    WorkF P X call H s.recs.get k o r ρ := by
  unfold drec at h
  split at h
  · rename_i kd v hl
    generalize hin : (allIn (fun b => inAl s.recs.get H.next anc s.next (kdHi s.next kd) b k) 8 v && kdIn (fun b => inAl s.recs.get H.next anc s.next (kdHi s.next kd) b k) kd) = c at h
    cases c with
    | false => cases h
    | true =>
      injection h with h
      subst h
      unfold dloc at hl
      split at hl
      · rename_i hc
        split at hl
        · rename_i u G hu
          injection hl with hl
          injection hl with h1 h2
          subst h1 h2
          simp only [Bool.and_eq_true] at hin
          exact ⟨rfl, rfl, Nat.le_refl _, .inl ⟨rfl, rfl, aop_quiet rfl hc hu, inF_of (r := ⟨.loc, u, anc, s.next, s.next⟩) hin.1⟩⟩
        · cases hl
      · split at hl
        · rename_i t x ho
          rw [Option.bind_eq_some_iff] at hl
          obtain ⟨p, h1, h2⟩ := hl
          rw [Option.bind_eq_some_iff] at h2
          obtain ⟨u, h3, h4⟩ := h2
          injection h4 with h4
          injection h4 with h4 h5
          subst h4 h5
          simp only [Bool.and_eq_true] at hin
          exact ⟨rfl, rfl, Nat.le_refl _, .inr (.inl ⟨_, rfl, rfl, .inl ⟨t, x, p, ho, h1, rfl⟩, ⟨s.cur, s.mg, g.cur, h3⟩, inF_of (r := ⟨.loc, u, anc, s.next, s.next⟩) hin.1⟩)⟩
        · cases hl
      · rename_i hc
        split at hl
        · rename_i u G hu
          rw [Option.bind_eq_some_iff] at hl
          obtain ⟨ob, h1, h2⟩ := hl
          injection h2 with h2
          injection h2 with h2 h3
          subst h2 h3
          obtain ⟨ob', k1, k2, k3⟩ := aop_new hc hu
          rw [k1] at h1
          injection h1 with h1
          subst h1
          exact ⟨rfl, rfl, by simp [kdHi], .inr (.inr (.inl ⟨ob', rfl, rfl, k2, k3, inF_of (r := ⟨.fresh ob', u, anc, s.next, s.next + 1⟩) (q := fun p => allIn p 8 u && kdIn p (.fresh ob')) hin⟩))⟩
        · cases hl
      · rename_i hc
        split at hl
        · rename_i u hu
          injection hl with hl
          injection hl with h1 h2
          subst h1 h2
          simp only [Bool.and_eq_true] at hin
          exact ⟨rfl, rfl, Nat.le_refl _, .inl ⟨rfl, rfl, aop_flat (.inl hc) hu, inF_of (r := ⟨.loc, u, anc, s.next, s.next⟩) hin.1⟩⟩
        · cases hl
      · rename_i hc
        split at hl
        · rename_i u hu
          injection hl with hl
          injection hl with h1 h2
          subst h1 h2
          simp only [Bool.and_eq_true] at hin
          exact ⟨rfl, rfl, Nat.le_refl _, .inl ⟨rfl, rfl, aop_flat (.inr hc) hu, inF_of (r := ⟨.loc, u, anc, s.next, s.next⟩) hin.1⟩⟩
        · cases hl
        · split at hl
          · rename_i t x a b m ho
            simp only [Option.bind_eq_some_iff] at hl
            obtain ⟨w, h1, l, h2, hh, h3, m', h4, u, h5, h6⟩ := hl
            injection h6 with h6
            injection h6 with h6 h7
            subst h6 h7
            simp only [Bool.and_eq_true] at hin
            exact ⟨rfl, rfl, Nat.le_refl _, .inr (.inl ⟨_, rfl, rfl, .inr ⟨t, x, a, b, m, w, l, hh, m', ho, h1, h2, h3, h4, rfl⟩, ⟨s.cur, s.mg, g.cur, h5⟩, inF_of (r := ⟨.loc, u, anc, s.next, s.next⟩) hin.1⟩)⟩
          · cases hl
      · cases hl
  · cases hb : Nat.beq (s.ch &&& anc) s.ch with
    | false => rw [hb] at h; cases h
    | true =>
      rw [hb] at h
      simp only [cond_true] at h
      split at h
      · rename_i v H2 he
        cases hle : Nat.ble s.next H2.next with
        | false => rw [hle] at h; cases h
        | true =>
          rw [hle] at h
          injection h with h
          subst h
          refine ⟨rfl, rfl, by simpa using hle, .inr (.inr (.inr ⟨H2.tab, s.cur, s.mg, rfl, g.cur, fun j rj h1 h2 => ?_, he⟩))⟩
          have h3 := (g.ch j).2 ⟨rj, h1, h2⟩
          have h4 : (s.ch &&& anc) = s.ch := beqN hb
          rw [← h4, Nat.testBit_and] at h3
          simp only [Bool.and_eq_true] at h3
          exact h3.2
      · cases h
theorem dstep_good (hsz : ops.size < 100000) (hs : ∀ (j : Nat) (o : Oper) (t : Nat), ops[j]? = some o → o.dst = some t → slots.get t = some j) {k : Nat} {o : Oper} {s s' : DS} (ho : ops[k]? = some o) (g : Good P X call ops A H k s)
    (h : dstep P X call ops.toList slots H.next k o s = some s') : Good P X call ops A H (k + 1) s' := by
  have hk : k < ops.size := (Array.getElem?_eq_some_iff.1 ho).1
  unfold dstep at h
  rw [Option.bind_eq_some_iff] at h
  obtain ⟨anc, h1, h2⟩ := h
  cases hd : dstOk slots k o.dst with
  | false => rw [hd] at h2; cases h2
  | true =>
    rw [hd] at h2
    simp only [cond_true, Option.bind_eq_some_iff] at h2
    obtain ⟨w, h3, r, h4, A', h5, h6⟩ := h2
    injection h6 with h6
    obtain ⟨_, a2, a3⟩ := ancOf_spec _ _ _ h1
    have hlt : ∀ j r, s.recs.get j = some r → j < k := fun j r e => by
      rcases Nat.lt_or_ge j k with hj | hj
      · exact hj
      · rw [g.none_ j hj] at e; cases e
    have hanc : ∀ j, Nat.testBit anc j = true → j < k := fun j hj => by
      rcases a3 j hj with h7 | ⟨e, _, _, re, h7, h8⟩
      · simp at h7
      · rcases h8 with rfl | h8
        · exact hlt _ _ h7
        · have := hlt _ _ h7
          have := (anc_lt g.hF e.on re j h7 h8).1
          omega
    have hw := dwanted_fact (ops := ops) h3
    have hE := denv_fact hs g hanc
    obtain ⟨hd1, hd2, hd3⟩ : (∀ d, o.dst = some d → d < s.A.n ∧ d < 16777215 ∧ A' = ⟨s.A.tmps.set d (some r.v), s.A.n, s.A.defers⟩) ∧ (o.dst = none → A' = s.A) ∧ True := by
      unfold AAct.put at h5
      refine ⟨fun d e => ?_, fun e => ?_, trivial⟩
      · rw [e] at h5
        simp only at h5
        cases hc : (Nat.blt d s.A.n && Nat.blt d 16777215) with
        | false => rw [hc] at h5; cases h5
        | true =>
          rw [hc] at h5
          injection h5 with h5
          simp only [Bool.and_eq_true, Nat.blt_eq] at hc
          exact ⟨hc.1, hc.2, h5.symm⟩
      · rw [e] at h5
        simp only at h5
        injection h5 with h5
        exact h5.symm
    have hr : r.anc = anc ∧ r.lo = s.next ∧ r.lo ≤ r.hi ∧ (GuardF ops s.recs.get r.anc o false ∧ r.kd = .loc ∧ r.v = undef ∧ r.hi = r.lo ∨ ∃ ρ, EnvF ops A s.recs.get r.anc ρ ∧ GuardF ops s.recs.get r.anc o true ∧ WorkF P X call H s.recs.get k o r ρ) := by
      cases w with
      | false =>
        simp only [cond_false] at h4
        injection h4 with h4
        subst h4
        exact ⟨rfl, rfl, Nat.le_refl _, .inl ⟨hw, rfl, rfl, rfl⟩⟩
      | true =>
        simp only [cond_true] at h4
        obtain ⟨b1, b2, b3, b4⟩ := drec_fact g h4
        subst b1
        exact ⟨rfl, b2, b3, .inr ⟨_, hE, hw, b4⟩⟩
    obtain ⟨b1, b2, b3, b4⟩ := hr
    subst b1
    have hrec : s'.recs = s.recs.set k (some r) := by rw [← h6]; unfold dnext; split <;> rfl
    have hA : s'.A = A' := by rw [← h6]; unfold dnext; split <;> rfl
    have hnx : s'.next = r.hi := by rw [← h6]; unfold dnext; split <;> rfl
    have hget : ∀ j, s'.recs.get j = if j = k then some r else s.recs.get j := fun j => by rw [hrec]; exact T.get_set _ _ _ _ (by omega)
    have hgk : s'.recs.get k = some r := by rw [hget, if_pos rfl]
    have hgn : ∀ j, j ≠ k → s'.recs.get j = s.recs.get j := fun j hj => by rw [hget, if_neg hj]
    have hbk : below s'.recs.get k = s.recs.get := by
      funext j
      unfold below
      by_cases hj : j < k
      · rw [if_pos hj, hgn j (by omega)]
      · rw [if_neg hj, g.none_ j (by omega)]
    have hbj : ∀ j, j ≤ k → below s'.recs.get j = below s.recs.get j := fun j hj => by
      funext m
      unfold below
      by_cases hm : m < j
      · rw [if_pos hm, if_pos hm, hgn m (by omega)]
      · rw [if_neg hm, if_neg hm]
    have hchn : ∀ tab, r.kd = .chn tab → s'.cur = tab ∧ s'.mg = r.anc ∧ s'.ch = s.ch ||| (1 <<< k) := fun tab e => by rw [← h6]; unfold dnext; rw [e]; exact ⟨rfl, rfl, rfl⟩
    have hnchn : ¬ isChn r → s'.cur = s.cur ∧ s'.mg = s.mg ∧ s'.ch = s.ch := fun e => by
      rw [← h6]
      unfold dnext
      split
      · rename_i t ht; exact absurd ⟨t, ht⟩ e
      · exact ⟨rfl, rfl, rfl⟩
    refine ⟨fun j hj => by rw [hgn j (by omega)]; exact g.none_ j (by omega), fun j hj => ?_, fun j o' r' t q1 q2 q3 => ?_, fun t q => ?_, ?_, ?_, ?_, fun j r' q => ?_, fun j => ?_, ?_⟩
    · by_cases e : j = k
      · subst e
        refine ⟨o, r, ho, hgk, ?_⟩
        rw [hbk]
        exact ⟨a2, fun j hj => (a3 j hj).resolve_left (by simp), by rw [b2]; exact g.lo, b3, fun j rj q => by rw [b2]; exact g.next j rj q, fun d e => by rw [← g.n]; exact (hd1 d e).1, b4⟩
      · obtain ⟨o', r', q1, q2, q3⟩ := g.facts j (by omega)
        exact ⟨o', r', q1, by rw [hgn j e]; exact q2, by rw [hbj j (by omega)]; exact q3⟩
    · rw [hA]
      by_cases e : j = k
      · subst e
        rw [ho] at q1
        injection q1 with q1
        subst q1
        rw [hgk] at q3
        injection q3 with q3
        subst q3
        obtain ⟨_, m1, m2⟩ := hd1 t q2
        rw [m2]
        simp only [AAct.at_]
        rw [T.get_set _ _ _ _ m1, if_pos rfl]
      · rw [hgn j e] at q3
        have hne : ∀ d, o.dst = some d → t ≠ d := fun d q4 q5 => by
          subst q5
          have n1 := hs j o' t q1 q2
          have n2 := hs k o t ho q4
          rw [n1] at n2
          injection n2 with n2
          exact e n2
        cases hdo : o.dst with
        | none => rw [hd2 hdo]; exact g.at1 j o' r' t q1 q2 q3
        | some d =>
          obtain ⟨_, m1, m2⟩ := hd1 d hdo
          rw [m2, ← g.at1 j o' r' t q1 q2 q3]
          simp only [AAct.at_]
          rw [T.get_set_ne _ _ _ _ (hne d hdo)]
    · rw [hA, ← g.at2 t fun j o' q1 q2 => q j o' (by omega) q2]
      cases hdo : o.dst with
      | none => rw [hd2 hdo]
      | some d =>
        obtain ⟨_, m1, m2⟩ := hd1 d hdo
        rw [m2]
        simp only [AAct.at_]
        rw [T.get_set_ne _ _ _ _ (fun e => by subst e; exact q k o (by omega) ho hdo)]
    · rw [hA, ← g.n]
      cases hdo : o.dst with
      | none => rw [hd2 hdo]
      | some d => rw [(hd1 d hdo).2.2]
    · rw [hA, ← g.defers]
      cases hdo : o.dst with
      | none => rw [hd2 hdo]
      | some d => rw [(hd1 d hdo).2.2]
    · rw [hnx]
      have := g.lo
      omega
    · rw [hnx]
      by_cases e : j = k
      · subst e
        rw [hgk] at q
        injection q with q
        subst q
        exact Nat.le_refl _
      · rw [hgn j e] at q
        have := g.next j r' q
        omega
    · by_cases hc : isChn r
      · obtain ⟨tab, hc⟩ := hc
        rw [(hchn tab hc).2.2, Nat.testBit_or, Nat.one_shiftLeft, Nat.testBit_two_pow]
        simp only [Bool.or_eq_true, decide_eq_true_eq]
        by_cases e : j = k
        · subst e
          exact ⟨fun _ => ⟨r, hgk, tab, hc⟩, fun _ => .inr rfl⟩
        · rw [hgn j e, ← g.ch j]
          exact ⟨fun q => q.resolve_right (fun q => e q.symm), .inl⟩
      · rw [(hnchn hc).2.2, g.ch j]
        by_cases e : j = k
        · subst e
          rw [hgk, g.none_ j (Nat.le_refl _)]
          exact ⟨fun ⟨r', q, _⟩ => (by cases q), fun ⟨r', q, q'⟩ => (by injection q with q; subst q; exact absurd q' hc)⟩
        · rw [hgn j e]
    · by_cases hc : isChn r
      · obtain ⟨tab, hc⟩ := hc
        refine .inr ⟨k, r, hgk, by rw [(hchn tab hc).1]; exact hc, (hchn tab hc).2.1, fun j r' q _ => ?_⟩
        by_cases e : j = k
        · omega
        · rw [hgn j e] at q
          exact Nat.le_of_lt (hlt j r' q)
      · obtain ⟨c1, c2, _⟩ := hnchn hc
        rw [c1, c2]
        rcases g.cur with ⟨q1, q2, q3⟩ | ⟨c, rc, q1, q2, q3, q4⟩
        · refine .inl ⟨fun j r' q => ?_, q2, q3⟩
          by_cases e : j = k
          · subst e
            rw [hgk] at q
            injection q with q
            subst q
            exact hc
          · rw [hgn j e] at q
            exact q1 j r' q
        · refine .inr ⟨c, rc, by rw [hgn c (by have := hlt _ _ q1; omega)]; exact q1, q2, q3, fun j r' q q' => ?_⟩
          by_cases e : j = k
          · subst e
            rw [hgk] at q
            injection q with q
            subst q
            exact absurd q' hc
          · rw [hgn j e] at q
            exact q4 j r' q q'
theorem dpass_good (hsz : ops.size < 100000) (hs : ∀ (j : Nat) (o : Oper) (t : Nat), ops[j]? = some o → o.dst = some t → slots.get t = some j) : ∀ (l : List Oper) (k : Nat) (s s' : DS), (∀ j, l[j]? = ops[k + j]?) → Good P X call ops A H k s →
    dpass P X call ops.toList slots H.next l k s = some s' → Good P X call ops A H (k + l.length) s'
  | [], k, s, s', _, g, h => by
    simp only [dpass] at h
    injection h with h
    subst h
    exact g
  | o :: l, k, s, s', hl, g, h => by
    simp only [dpass] at h
    split at h
    case h_2 => cases h
    rename_i s1 h1
    have h0 : ops[k]? = some o := by simpa using (hl 0).symm
    have := dpass_good hsz hs l (k + 1) s1 s' (fun j => by have := hl (j + 1); simpa [Nat.add_assoc, Nat.add_comm 1 j] using this) (dstep_good hsz hs h0 g h1) h
    simpa [Nat.add_assoc, Nat.add_comm 1] using this
theorem good_nil : Good P X call ops A H 0 ⟨A, .lf, H.tab, 0, 0, H.next⟩ :=
  ⟨fun _ _ => rfl, fun j h => (by omega), fun j o r t _ _ h => (by cases h), fun t _ => rfl, rfl, rfl, Nat.le_refl _, fun j r h => (by cases h), fun j => ⟨fun h => (by simp at h), fun ⟨r, h, _⟩ => (by cases h)⟩, .inl ⟨fun j r h => (by cases h), rfl, rfl⟩⟩
end
end
end Go.Proofs.YtfnamalajmfjbaaGreatDoor.Ev
