/- The evaluator: operations, regions, code, calls, over the abstract heap. -/
import Derived.Test.YtnckhmfajjcgpaaGreatDoorEvC
import GoSem.Extern.BytealgIndexByte
import Derived.RangeFuncIn
import Derived.Recover
import Derived.Laws.Sem
set_option linter.unusedVariables false
set_option linter.unusedSimpArgs false
set_option linter.unusedSectionVars false
namespace Go.Proofs.YtnckhmfajjcgpaaGreatDoor.Ev
noncomputable section
structure ADef where
  f : FuncId
  cap : Array Value
  args : Array Value
structure AAct where
  tmps : T Value
  n : Nat
  defers : List ADef
def AAct.at_ (a : AAct) (t : Nat) : Value := match a.tmps.get t with
  | some v => v
  | none => undef
def AAct.env (a : AAct) : Env
  | .tmp t => some (a.at_ t)
  | .const v => cond (flatF 8 v) (some v) none
  | .global _ => none
  | .func f => some (.func (.func f) #[] #[])
def val (v : Option Value) (H : AH) : Option (ANext × AH) := v.bind fun v => some (.value v, H)
def vals (r : Option (Value × AH)) : Option (ANext × AH) := r.bind fun (v, H) => some (.value v, H)
def unit_ (r : Option AH) : Option (ANext × AH) := r.bind fun H => some (.skip, H)
def optM (ρ : Env) : Option Operand → Option (Option Value)
  | none => some none
  | some x => (ρ x).map some
def partsM (ρ : Env) : List (Nat × Operand) → Option (List (Nat × Value))
  | [] => some []
  | (i, x) :: l => do
    let v ← ρ x
    let r ← partsM ρ l
    some ((i, v) :: r)
def argsM (ρ : Env) : List Operand → Option (List Value)
  | [] => some []
  | x :: l => do
    let v ← ρ x
    let r ← argsM ρ l
    some (v :: r)
def okNil : Value → Bool
  | .pointer (some _) => true
  | .slice _ _ _ => true
  | .map _ => true
  | .iface _ _ => true
  | .func (.func _) _ _ => true
  | .string _ => true
  | .int _ _ => true
  | .bool _ => true
  | _ => false
def abuiltin (X : Tab) (H : AH) (b : Builtin) (ts : List TypeId) (vs : List Value) : Option (ANext × AH) := match b, ts, vs with
  | .append, [t, tx], [s, x] => vals (aappend X H t tx s x)
  | .len, [t], [v] => val (alen X H t v) H
  | .copy, [t, _], [d, s] => match acopy0 X H t d s with
    | some r => vals (some r)
    | none => vals (acopy X H t d s)
  | .delete, [t, _], [m, k] => vals (adelete X H t m k)
  | _, _, _ => none
/-- a call of a function by its number -/
def acallFn (P : Program) (X : Tab) (H : AH) (g : FuncId) (vs : Array Value) : Option (ANext × AH) := match X.fn g with
  | some _ => some (.enter g vs, H)
  | none => match X.ext g with
    | some .clone => vals (aclone H vs.toList)
    | some (.plain q) => cond (vs.toList.all (flatF 8)) (match pureRun P (q vs) with
      | some r => cond (flatF 8 r) (some (.value r, H)) none
      | none => none) none
    | none => none
def acall (P : Program) (X : Tab) (H : AH) (ρ : Env) (c : Call) : Option (ANext × AH) := (argsM ρ c.args.toList).bind fun vs => match c.callee with
  | .builtin b => abuiltin X H b c.argTypes.toList vs
  | .value f => (ρ f).bind fun fv => match fv with
    | .func (.func g) first cap => acallFn P X H g (first ++ vs.toArray ++ cap)
    | _ => none
  | _ => none
def aop0 (P : Program) (X : Tab) (H : AH) (ρ : Env) (o : Oper) : Option (ANext × AH) := match o.op with
  | .move x => val (ρ x) H
  | .assign x => val (ρ x) H
  | .pick c a b => (ρ c).bind fun cv => match cv with
    | .bool true => val (ρ a) H
    | .bool false => val (ρ b) H
    | _ => none
  | .alloc e => vals (aalloc X H e)
  | .box e x => (ρ x).bind fun v => vals (abox H e v)
  | .build t parts => (partsM ρ parts.toList).bind fun ps => val (abuilt X t ps) H
  | .buildSlice t len parts => (partsM ρ parts.toList).bind fun ps => vals (abuildSlice X H t len ps)
  | .load t x => (ρ x).bind fun v => val (aload X H t v) H
  | .store t p x => (ρ p).bind fun pv => (ρ x).bind fun v => unit_ (astore X H t pv v)
  | .nilCheck x => (ρ x).bind fun v => cond (okNil v) (some (.value v, H)) none
  | .binOp op t x y _ => match aflat P ρ o with
    | some r => some (r, H)
    | none => (ρ x).bind fun a => (ρ y).bind fun b => val (anilcmp X op t a b) H
  | .makeInterface t x => (ρ x).bind fun v => val (amakeIface X t v) H
  | .makeFunc (.func f) first cap => (argsM ρ first.toList).bind fun fs => (argsM ρ cap.toList).bind fun cs => some (.value (.func (.func f) fs.toArray cs.toArray), H)
  | .makeMap _ none => vals (amakeMap H)
  | .slice t x lo hi mx => match aflat P ρ o with
    | some r => some (r, H)
    | none => (ρ x).bind fun v => (optM ρ lo).bind fun l => (optM ρ hi).bind fun h => (optM ρ mx).bind fun m => val (aslice X H t v l h m) H
  | .fieldAddr t x f => (ρ x).bind fun v => val (afieldAddr X t v f) H
  | .field t x f => (ρ x).bind fun v => val (afield X t v f) H
  | .indexAddr t x i => (ρ x).bind fun v => (ρ i).bind fun ix => val (aindexAddr X t v ix) H
  | .index t x i => match aflat P ρ o with
    | some r => some (r, H)
    | none => (ρ x).bind fun v => (ρ i).bind fun ix => val (aindex X t v ix) H
  | .lookup t m k ok => (ρ m).bind fun mv => (ρ k).bind fun kv => val (alookup X H t mv kv ok) H
  | .mapUpdate t m k v => (ρ m).bind fun mv => (ρ k).bind fun kv => (ρ v).bind fun vv => unit_ (amapUpdate X H t mv kv vv)
  | .insert t m k v => (ρ m).bind fun mv => (ρ k).bind fun kv => (ρ v).bind fun vv => unit_ (amapUpdate X H t mv kv vv)
  | .range t x => (ρ x).bind fun v => vals (arange X H t v)
  | .typeAssert x _ t ok => (ρ x).bind fun v => val (atypeAssert X v t ok) H
  | .extract x i => (ρ x).bind fun v => val (aextract v i) H
  | .call c => match aflat P ρ o with
    | some r => some (r, H)
    | none => acall P X H ρ c
  | .defer c => match c.callee with
    | .value f => (argsM ρ c.args.toList).bind fun vs => (ρ f).bind fun fv => match fv with
      | .func (.func g) first cap => (X.fn g).bind fun _ => some (.defer g cap (first ++ vs.toArray), H)
      | _ => none
    | _ => none
  | .unOp .. => match aflat P ρ o with
    | some r => some (r, H)
    | none => none
  | .convert s d x => match aflat P ρ o with
    | some r => some (r, H)
    | none => (ρ x).bind fun v => vals (aconvert X H s d v)
  | .next it isS => (ρ it).bind fun v => vals (anext H v isS)
  | .entry it => (ρ it).bind fun v => val (aentry H v) H
  | .makeSlice t l c => (ρ l).bind fun lv => (ρ c).bind fun cv => vals (amakeSlice X H t lv cv)
  | _ => none
def opMove (P : Program) (X : Tab) (H : AH) (ρ : Env) (o : Oper) (x : Operand) : Option (ANext × AH) := val (ρ x) H
def opAssign (P : Program) (X : Tab) (H : AH) (ρ : Env) (o : Oper) (x : Operand) : Option (ANext × AH) := val (ρ x) H
def opPick (P : Program) (X : Tab) (H : AH) (ρ : Env) (o : Oper) (c a b : Operand) : Option (ANext × AH) := (ρ c).bind fun cv => match cv with
    | .bool true => val (ρ a) H
    | .bool false => val (ρ b) H
    | _ => none
def opAlloc (P : Program) (X : Tab) (H : AH) (ρ : Env) (o : Oper) (e : TypeId) : Option (ANext × AH) := vals (aalloc X H e)
def opBox (P : Program) (X : Tab) (H : AH) (ρ : Env) (o : Oper) (e : TypeId) (x : Operand) : Option (ANext × AH) := (ρ x).bind fun v => vals (abox H e v)
def opBuild (P : Program) (X : Tab) (H : AH) (ρ : Env) (o : Oper) (t : TypeId) (parts : Array (Nat × Operand)) : Option (ANext × AH) := (partsM ρ parts.toList).bind fun ps => val (abuilt X t ps) H
def opBuildSlice (P : Program) (X : Tab) (H : AH) (ρ : Env) (o : Oper) (t : TypeId) (len : Nat) (parts : Array (Nat × Operand)) : Option (ANext × AH) := (partsM ρ parts.toList).bind fun ps => vals (abuildSlice X H t len ps)
def opLoad (P : Program) (X : Tab) (H : AH) (ρ : Env) (o : Oper) (t : TypeId) (x : Operand) : Option (ANext × AH) := (ρ x).bind fun v => val (aload X H t v) H
def opStore (P : Program) (X : Tab) (H : AH) (ρ : Env) (o : Oper) (t : TypeId) (p x : Operand) : Option (ANext × AH) := (ρ p).bind fun pv => (ρ x).bind fun v => unit_ (astore X H t pv v)
def opNilCheck (P : Program) (X : Tab) (H : AH) (ρ : Env) (o : Oper) (x : Operand) : Option (ANext × AH) := (ρ x).bind fun v => cond (okNil v) (some (.value v, H)) none
def opBinOp (P : Program) (X : Tab) (H : AH) (ρ : Env) (o : Oper) (op : BinOp) (t : TypeId) (x y : Operand) : Option (ANext × AH) := match aflat P ρ o with
    | some r => some (r, H)
    | none => (ρ x).bind fun a => (ρ y).bind fun b => val (anilcmp X op t a b) H
def opMakeInterface (P : Program) (X : Tab) (H : AH) (ρ : Env) (o : Oper) (t : TypeId) (x : Operand) : Option (ANext × AH) := (ρ x).bind fun v => val (amakeIface X t v) H
def opMakeFunc (P : Program) (X : Tab) (H : AH) (ρ : Env) (o : Oper) (f : FuncId) (first cap : Array Operand) : Option (ANext × AH) := (argsM ρ first.toList).bind fun fs => (argsM ρ cap.toList).bind fun cs => some (.value (.func (.func f) fs.toArray cs.toArray), H)
def opSlice (P : Program) (X : Tab) (H : AH) (ρ : Env) (o : Oper) (t : TypeId) (x : Operand) (lo hi mx : Option Operand) : Option (ANext × AH) := match aflat P ρ o with
    | some r => some (r, H)
    | none => (ρ x).bind fun v => (optM ρ lo).bind fun l => (optM ρ hi).bind fun h => (optM ρ mx).bind fun m => val (aslice X H t v l h m) H
def opFieldAddr (P : Program) (X : Tab) (H : AH) (ρ : Env) (o : Oper) (t : TypeId) (x : Operand) (f : Nat) : Option (ANext × AH) := (ρ x).bind fun v => val (afieldAddr X t v f) H
def opField (P : Program) (X : Tab) (H : AH) (ρ : Env) (o : Oper) (t : TypeId) (x : Operand) (f : Nat) : Option (ANext × AH) := (ρ x).bind fun v => val (afield X t v f) H
def opIndexAddr (P : Program) (X : Tab) (H : AH) (ρ : Env) (o : Oper) (t : TypeId) (x i : Operand) : Option (ANext × AH) := (ρ x).bind fun v => (ρ i).bind fun ix => val (aindexAddr X t v ix) H
def opIndex (P : Program) (X : Tab) (H : AH) (ρ : Env) (o : Oper) (t : TypeId) (x i : Operand) : Option (ANext × AH) := match aflat P ρ o with
    | some r => some (r, H)
    | none => (ρ x).bind fun v => (ρ i).bind fun ix => val (aindex X t v ix) H
def opLookup (P : Program) (X : Tab) (H : AH) (ρ : Env) (o : Oper) (t : TypeId) (m k : Operand) (ok : Bool) : Option (ANext × AH) := (ρ m).bind fun mv => (ρ k).bind fun kv => val (alookup X H t mv kv ok) H
def opMapUpdate (P : Program) (X : Tab) (H : AH) (ρ : Env) (o : Oper) (t : TypeId) (m k v : Operand) : Option (ANext × AH) := (ρ m).bind fun mv => (ρ k).bind fun kv => (ρ v).bind fun vv => unit_ (amapUpdate X H t mv kv vv)
def opInsert (P : Program) (X : Tab) (H : AH) (ρ : Env) (o : Oper) (t : TypeId) (m k v : Operand) : Option (ANext × AH) := (ρ m).bind fun mv => (ρ k).bind fun kv => (ρ v).bind fun vv => unit_ (amapUpdate X H t mv kv vv)
def opRange (P : Program) (X : Tab) (H : AH) (ρ : Env) (o : Oper) (t : TypeId) (x : Operand) : Option (ANext × AH) := (ρ x).bind fun v => vals (arange X H t v)
def opTypeAssert (P : Program) (X : Tab) (H : AH) (ρ : Env) (o : Oper) (x : Operand) (t : TypeId) (ok : Bool) : Option (ANext × AH) := (ρ x).bind fun v => val (atypeAssert X v t ok) H
def opExtract (P : Program) (X : Tab) (H : AH) (ρ : Env) (o : Oper) (x : Operand) (i : Nat) : Option (ANext × AH) := (ρ x).bind fun v => val (aextract v i) H
def opCall (P : Program) (X : Tab) (H : AH) (ρ : Env) (o : Oper) (c : Call) : Option (ANext × AH) := match aflat P ρ o with
    | some r => some (r, H)
    | none => acall P X H ρ c
def opDefer (P : Program) (X : Tab) (H : AH) (ρ : Env) (o : Oper) (c : Call) : Option (ANext × AH) := match c.callee with
    | .value f => (argsM ρ c.args.toList).bind fun vs => (ρ f).bind fun fv => match fv with
      | .func (.func g) first cap => (X.fn g).bind fun _ => some (.defer g cap (first ++ vs.toArray), H)
      | _ => none
    | _ => none
def opUnOp (P : Program) (X : Tab) (H : AH) (ρ : Env) (o : Oper) : Option (ANext × AH) := match aflat P ρ o with
    | some r => some (r, H)
    | none => none
def opConvert (P : Program) (X : Tab) (H : AH) (ρ : Env) (o : Oper) (s d : TypeId) (x : Operand) : Option (ANext × AH) := match aflat P ρ o with
    | some r => some (r, H)
    | none => (ρ x).bind fun v => vals (aconvert X H s d v)
def opNext (P : Program) (X : Tab) (H : AH) (ρ : Env) (o : Oper) (it : Operand) (isS : Bool) : Option (ANext × AH) := (ρ it).bind fun v => vals (anext H v isS)
def opEntry (P : Program) (X : Tab) (H : AH) (ρ : Env) (o : Oper) (it : Operand) : Option (ANext × AH) := (ρ it).bind fun v => val (aentry H v) H
def opMakeSlice (P : Program) (X : Tab) (H : AH) (ρ : Env) (o : Oper) (t : TypeId) (l c : Operand) : Option (ANext × AH) := (ρ l).bind fun lv => (ρ c).bind fun cv => vals (amakeSlice X H t lv cv)
def opMakeFuncF (P : Program) (X : Tab) (H : AH) (ρ : Env) (o : Oper) (fn : Fn) (first cap : Array Operand) : Option (ANext × AH) := match fn with
  | .func f => opMakeFunc P X H ρ o f first cap
  | _ => none
def opMakeMap (H : AH) (r : Option Operand) : Option (ANext × AH) := match r with
  | none => vals (amakeMap H)
  | some _ => none
def aop (P : Program) (X : Tab) (H : AH) (ρ : Env) (o : Oper) : Option (ANext × AH) := Op.casesOn (motive := fun _ => Option (ANext × AH)) o.op
  (fun x => opMove P X H ρ o x)
  (fun x => opAssign P X H ρ o x)
  (fun c a b => opPick P X H ρ o c a b)
  (fun e => opAlloc P X H ρ o e)
  (fun e x => opBox P X H ρ o e x)
  (fun t parts => opBuild P X H ρ o t parts)
  (fun t len parts => opBuildSlice P X H ρ o t len parts)
  (fun t m k v => opInsert P X H ρ o t m k v)
  (fun t x => opLoad P X H ρ o t x)
  (fun t p x => opStore P X H ρ o t p x)
  (fun _ => none)
  (fun _ => none)
  (fun x => opNilCheck P X H ρ o x)
  (fun op t x y _ => opBinOp P X H ρ o op t x y)
  (fun _ _ _ => opUnOp P X H ρ o )
  (fun s d x => opConvert P X H ρ o s d x)
  (fun _ _ => none)
  (fun t x => opMakeInterface P X H ρ o t x)
  (fun fn first cap => opMakeFuncF P X H ρ o fn first cap)
  (fun _ r => opMakeMap H r)
  (fun _ _ => none)
  (fun t l c => opMakeSlice P X H ρ o t l c)
  (fun t x lo hi mx => opSlice P X H ρ o t x lo hi mx)
  (fun t x f => opFieldAddr P X H ρ o t x f)
  (fun t x f => opField P X H ρ o t x f)
  (fun t x i => opIndexAddr P X H ρ o t x i)
  (fun t x i => opIndex P X H ρ o t x i)
  (fun t m k ok => opLookup P X H ρ o t m k ok)
  (fun t m k v => opMapUpdate P X H ρ o t m k v)
  (fun _ _ _ => none)
  (fun _ _ _ _ => none)
  (fun t x => opRange P X H ρ o t x)
  (fun it isS => opNext P X H ρ o it isS)
  (fun it => opEntry P X H ρ o it)
  (fun x _ t ok => opTypeAssert P X H ρ o x t ok)
  (fun x i => opExtract P X H ρ o x i)
  (fun c => opCall P X H ρ o c)
  (fun _ => none)
  (fun c => opDefer P X H ρ o c)
  (fun _ => none)
  (fun _ _ => none)
  (fun _ _ _ => none)
  (fun _ _ => none)
theorem aop_eq (P : Program) (X : Tab) (H : AH) (ρ : Env) (o : Oper) : aop P X H ρ o = aop0 P X H ρ o := by
  obtain ⟨dst, op, type, pos, after, guard⟩ := o
  cases op <;> first
    | rfl
    | (rename_i fn first cap; cases fn <;> rfl)
    | (rename_i t r; cases r <;> rfl)
def AAct.put (a : AAct) (d : Option Nat) (v : Value) : Option AAct := match d with
  | none => some a
  | some d => cond (Nat.blt d a.n && Nat.blt d 16777215) (some ⟨a.tmps.set d (some v), a.n, a.defers⟩) none
def ayielded (ops : List Oper) (a : AAct) (j : Nat) : Option Bool := match (ops[j]?).bind (·.dst) with
  | some d => match a.at_ d with
    | .bool b => some b
    | _ => none
  | none => none
def awanted (ops : List Oper) (a : AAct) (o : Oper) : Bool := match o.guard with
  | none => true
  | some (j, want) => match ayielded ops a j with
    | some b => b == want
    | none => false
abbrev ACall := FuncId → Array Value → AH → Option (Value × AH)
def evOp (P : Program) (X : Tab) (call : ACall) (ops : List Oper) (o : Oper) (a : AAct) (H : AH) : Option (AAct × AH) :=
  cond (awanted ops a o) ((aop P X H a.env o).bind fun (r, H1) => match r with
    | .value v => (a.put o.dst v).bind fun a' => some (a', H1)
    | .skip => (a.put o.dst undef).bind fun a' => some (a', H1)
    | .enter f args => (call f args H1).bind fun (v, H2) => (a.put o.dst v).bind fun a' => some (a', H2)
    | .defer f cap args => (AAct.put ⟨a.tmps, a.n, ⟨f, cap, args⟩ :: a.defers⟩ o.dst undef).bind fun a' => some (a', H1))
    ((a.put o.dst undef).bind fun a' => some (a', H))
def evOps (P : Program) (X : Tab) (call : ACall) (ops : List Oper) : List Oper → AAct → AH → Option (AAct × AH)
  | [], a, H => some (a, H)
  | o :: rest, a, H => match evOp P X call ops o a H with
    | some (a', H') => evOps P X call ops rest a' H'
    | none => none
/-- what one operation's work gives, a call's too -/
def evRes (P : Program) (X : Tab) (call : ACall) (ρ : Env) (o : Oper) (H : AH) : Option (Value × AH) := (aop P X H ρ o).bind fun (r, H1) => match r with
  | .value v => some (v, H1)
  | .skip => some (undef, H1)
  | .enter f args => call f args H1
  | .defer .. => none
/- A region whose order is drawn. Each operation is worked out once, in the order of the text, from what its own forerunners gave. -/
inductive Kd where
  | loc
  | read (q : T AObj → Option Value)
  | fresh (ob : AObj)
  | chn (tab : T AObj)
structure Rec where
  kd : Kd
  v : Value
  anc : Nat
  lo : Nat
  hi : Nat
def ancOf (f : Nat → Option Rec) : List Edge → Nat → Option Nat
  | [], m => some m
  | e :: l, m => cond (Region.binds .any e) (match f e.on with
    | some r => ancOf f l (m ||| r.anc ||| (1 <<< e.on))
    | none => none) (ancOf f l m)
def inAlR (f : Nat → Option Rec) (n0 anc lo hi b : Nat) : Nat → Bool
  | 0 => Nat.ble lo b && Nat.blt b hi
  | m + 1 => (Nat.testBit anc m && (match f m with
    | some r => Nat.ble r.lo b && Nat.blt b r.hi
    | none => false)) || inAlR f n0 anc lo hi b m
def inAl (f : Nat → Option Rec) (n0 anc lo hi b m : Nat) : Bool := match Nat.blt b n0 with
  | true => true
  | false => inAlR f n0 anc lo hi b m
/-- every number in it (to a depth) is one of these -/
def allIn (p : Nat → Bool) : Nat → Value → Bool
  | 0, _ => false
  | f + 1, v => match v with
    | .bool _ | .int .. | .float .. | .complex .. | .string _ | .pointer none | .slice none _ _ | .map none | .nilFunc | .nilIface => true
    | .pointer (some a) => p a.block
    | .slice (some a) _ _ => p a.block
    | .map (some b) => p b
    | .func (.func _) first cap => first.toList.all (allIn p f) && cap.toList.all (allIn p f)
    | .iface _ v => allIn p f v
    | .agg cs => cs.toList.all (allIn p f)
    | .tuple cs => cs.toList.all (allIn p f)
    | _ => false
def bytesEq (a b : ByteArray) : Bool := Nat.beq a.size b.size && (a.data.toList.zip b.data.toList).all fun (x, y) => Nat.beq x.toNat y.toNat
def addrEq (a b : Addr) : Bool := Nat.beq a.block b.block && Nat.beq a.off b.off && (match a.spot, b.spot with
  | none, none => true
  | _, _ => false)
def veqs (q : Value → Value → Bool) : List Value → List Value → Bool
  | [], [] => true
  | a :: l, b :: r => q a b && veqs q l r
  | _, _ => false
/-- the same value (to a depth) -/
def veq : Nat → Value → Value → Bool
  | 0, _, _ => false
  | f + 1, a, b => match a, b with
    | .bool x, .bool y => x == y
    | .int k x, .int k' y => decide (k = k') && decide (x = y)
    | .string x, .string y => bytesEq x y
    | .pointer none, .pointer none => true
    | .pointer (some x), .pointer (some y) => addrEq x y
    | .slice none n c, .slice none n' c' => Nat.beq n n' && Nat.beq c c'
    | .slice (some x) n c, .slice (some y) n' c' => addrEq x y && Nat.beq n n' && Nat.beq c c'
    | .map none, .map none => true
    | .map (some x), .map (some y) => Nat.beq x y
    | .nilFunc, .nilFunc => true
    | .nilIface, .nilIface => true
    | .func (.func g) x c, .func (.func g') y c' => Nat.beq g g' && veqs (veq f) x.toList y.toList && veqs (veq f) c.toList c'.toList
    | .iface t x, .iface t' y => Nat.beq t t' && veq f x y
    | .agg x, .agg y => veqs (veq f) x.toList y.toList
    | .tuple x, .tuple y => veqs (veq f) x.toList y.toList
    | _, _ => false
/-- what is fresh and not yet part of the heap -/
def addFresh (f : Nat → Option Rec) (p : Nat → Bool) : Nat → T AObj → T AObj
  | 0, t => t
  | m + 1, t => match p m with
    | false => addFresh f p m t
    | true => match f m with
      | some r => match r.kd with
        | .fresh ob => (addFresh f p m t).set r.lo (some ob)
        | _ => addFresh f p m t
      | none => addFresh f p m t
structure DS where
  A : AAct
  recs : T Rec
  cur : T AObj
  mg : Nat
  ch : Nat
  next : Nat
def lateOf (late : T Nat) (j : Nat) : Nat := match late.get j with
  | some m => m
  | none => 0
/-- the forerunners of each, by the text alone -/
def lateEdges (late : T Nat) : List Edge → Nat → Nat
  | [], m => m
  | e :: l, m => lateEdges late l (cond (Region.binds .any e) (m ||| lateOf late e.on ||| (1 <<< e.on)) m)
def lateTab : List Oper → Nat → T Nat → T Nat
  | [], _, t => t
  | o :: l, i, t => lateTab l (i + 1) (t.set i (some (lateEdges t o.after.toList 0)))
/-- a slot that a forerunner has written, or that is written behind this alone -/
def denv (A : AAct) (slots : T Nat) (late : T Nat) (i : Nat) (anc : Nat) : Env
  | .tmp t => match slots.get t with
    | none => some (A.at_ t)
    | some j => cond (Nat.testBit anc j || (Nat.blt i j && Nat.testBit (lateOf late j) i)) (some (A.at_ t)) none
  | .const v => A.env (.const v)
  | .global _ => none
  | .func f => A.env (.func f)
def dwanted (ops : List Oper) (f : Nat → Option Rec) (anc : Nat) (o : Oper) : Option Bool := match o.guard with
  | none => some true
  | some (g, want) => cond (Nat.testBit anc g) (match (ops[g]?).bind (·.dst), f g with
    | some _, some r => (match r.v with
      | .bool b => some (b == want)
      | .tuple _ => some false
      | _ => none)
    | _, _ => none) none
/-- 0: no memory; 1: a load; 2: a new block; 3: no memory, where all is flat; 5: the same, or a look at the memory; 4: the rest -/
def cls : Op → Nat
  | .move _ => 0
  | .assign _ => 0
  | .pick .. => 0
  | .build .. => 0
  | .nilCheck _ => 0
  | .binOp .. => 0
  | .makeInterface .. => 0
  | .makeFunc .. => 0
  | .fieldAddr .. => 0
  | .field .. => 0
  | .indexAddr .. => 0
  | .index .. => 0
  | .typeAssert .. => 0
  | .extract .. => 0
  | .unOp .. => 0
  | .load .. => 1
  | .alloc _ => 2
  | .box .. => 2
  | .buildSlice .. => 2
  | .convert .. => 3
  | .slice .. => 5
  | .call c => match c.callee with
    | .builtin .len => 0
    | _ => 3
  | _ => 4
def dloc (P : Program) (X : Tab) (ρ : Env) (o : Oper) (lo : Nat) (cur : T AObj) : Option (Kd × Value) := match cls o.op with
  | 0 => match aop P X ⟨lo, .lf⟩ ρ o with
    | some (.value v, _) => some (.loc, v)
    | _ => none
  | 1 => match o.op with
    | .load t x => (ρ x).bind fun p => (aload X ⟨0, cur⟩ t p).bind fun v => some (.read (fun tab => aload X ⟨0, tab⟩ t p), v)
    | _ => none
  | 2 => match aop P X ⟨lo, .lf⟩ ρ o with
    | some (.value v, H1) => (H1.tab.get lo).bind fun ob => some (.fresh ob, v)
    | _ => none
  | 3 => match aflat P ρ o with
    | some (.value v) => some (.loc, v)
    | _ => none
  | 5 => match aflat P ρ o with
    | some (.value v) => some (.loc, v)
    | some _ => none
    | none => match o.op with
      | .slice t x a b m => (ρ x).bind fun v => (optM ρ a).bind fun l => (optM ρ b).bind fun h => (optM ρ m).bind fun m => (aslice X ⟨0, cur⟩ t v l h m).bind fun r => some (.read (fun tab => aslice X ⟨0, tab⟩ t v l h m), r)
      | _ => none
  | _ => none
def kdHi (lo : Nat) : Kd → Nat
  | .fresh _ => lo + 1
  | _ => lo
def kdIn (p : Nat → Bool) : Kd → Bool
  | .fresh (.cells cs _ _) => cs.all (allIn p 8)
  | .fresh _ => false
  | _ => true
def drec (P : Program) (X : Tab) (call : ACall) (n0 : Nat) (s : DS) (ρ : Env) (o : Oper) (i anc : Nat) : Option Rec :=
  match dloc P X ρ o s.next s.cur with
  | some (kd, v) => cond (allIn (fun b => inAl s.recs.get n0 anc s.next (kdHi s.next kd) b i) 8 v && kdIn (fun b => inAl s.recs.get n0 anc s.next (kdHi s.next kd) b i) kd)
      (some ⟨kd, v, anc, s.next, kdHi s.next kd⟩) none
  | none => cond (Nat.beq (s.ch &&& anc) s.ch) (match evRes P X call ρ o ⟨s.next, addFresh s.recs.get (fun j => Nat.testBit anc j && !Nat.testBit s.mg j) i s.cur⟩ with
    | some (v, H2) => cond (Nat.ble s.next H2.next) (some ⟨.chn H2.tab, v, anc, s.next, H2.next⟩) none
    | none => none) none
def dnext (i : Nat) (r : Rec) (A' : AAct) (s : DS) : DS := match r.kd with
  | .chn t => ⟨A', s.recs.set i (some r), t, r.anc, s.ch ||| (1 <<< i), r.hi⟩
  | _ => ⟨A', s.recs.set i (some r), s.cur, s.mg, s.ch, r.hi⟩
def dstOk (slots : T Nat) (i : Nat) : Option Nat → Bool
  | none => true
  | some d => match slots.get d with
    | some j => Nat.beq j i
    | none => false
def dstep (P : Program) (X : Tab) (call : ACall) (ops : List Oper) (slots late : T Nat) (n0 : Nat) (i : Nat) (o : Oper) (s : DS) : Option DS :=
  (ancOf s.recs.get o.after.toList 0).bind fun anc => cond (dstOk slots i o.dst && Nat.beq anc (lateOf late i)) ((dwanted ops s.recs.get anc o).bind fun w =>
    (cond w (drec P X call n0 s (denv s.A slots late i anc) o i anc) (some ⟨.loc, undef, anc, s.next, s.next⟩)).bind fun r => (s.A.put o.dst r.v).bind fun A' => some (dnext i r A' s)) none
def dpass (P : Program) (X : Tab) (call : ACall) (ops : List Oper) (slots late : T Nat) (n0 : Nat) : List Oper → Nat → DS → Option DS
  | [], _, s => some s
  | o :: l, i, s => match dstep P X call ops slots late n0 i o s with
    | some s' => dpass P X call ops slots late n0 l (i + 1) s'
    | none => none
def sameAs (v : Value) : Option Value → Bool
  | some u => veq 8 u v
  | none => false
/-- a load that may stand behind a call, or ahead of it -/
def pairOk (ch i : Nat) (q : T AObj → Option Value) (v : Value) (anc : Nat) (f : Nat → Option Rec) : Nat → Bool
  | 0 => true
  | j + 1 => pairOk ch i q v anc f j && (match Nat.testBit ch j with
    | false => true
    | true => match f j with
      | some r => match r.kd with
        | .chn tab => Nat.testBit r.anc i || !(Nat.beq ((anc &&& ch) &&& (r.anc ||| (1 <<< j))) (anc &&& ch)) || sameAs v (q tab)
        | _ => true
      | none => true)
def pairsOk (H : AH) (ch n : Nat) (f : Nat → Option Rec) : Nat → Bool
  | 0 => true
  | i + 1 => pairsOk H ch n f i && (match f i with
    | some r => match r.kd with
      | .read q => (!(Nat.beq (r.anc &&& ch) 0) || sameAs r.v (q H.tab)) && pairOk ch i q r.v r.anc f n
      | _ => true
    | none => true)
def slotTab : List Oper → Nat → T Nat → T Nat
  | [], _, t => t
  | o :: l, i, t => match o.dst with
    | some d => slotTab l (i + 1) (t.set d (some i))
    | none => slotTab l (i + 1) t
/-- a region whose order is drawn -/
def evDraw (P : Program) (X : Tab) (call : ACall) (ops : Array Oper) (a : AAct) (H : AH) : Option (AAct × AH) :=
  match Nat.blt ops.size 100000 with
  | false => none
  | true => match dpass P X call ops.toList (slotTab ops.toList 0 .lf) (lateTab ops.toList 0 .lf) H.next ops.toList 0 ⟨a, .lf, H.tab, 0, 0, H.next⟩ with
    | some s => match Nat.beq s.ch 0 || pairsOk H s.ch ops.size s.recs.get ops.size with
      | true => some (s.A, ⟨s.next, addFresh s.recs.get (fun j => !Nat.testBit s.mg j) ops.size s.cur⟩)
      | false => none
    | none => none
inductive AExit where
  | normal
  | exit (id : Nat)
  | ret
def evCode (P : Program) (X : Tab) (call : ACall) : Nat → Code → AAct → AH → Option (AExit × AAct × AH)
  | 0, _, _, _ => none
  | n + 1, c, a, H => match c with
    | .skip => some (.normal, a, H)
    | .label _ => some (.normal, a, H)
    | .exit id => some (.exit id, a, H)
    | .ret => some (.ret, a, H)
    | .region _ ops draw => match cond draw (evDraw P X call ops a H) (evOps P X call ops.toList ops.toList a H) with
      | some (a', H') => some (.normal, a', H')
      | none => none
    | .seq x y => match evCode P X call n x a H with
      | some (.normal, a', H') => evCode P X call n y a' H'
      | r => r
    | .cond b x y => match a.env b with
      | some (.bool true) => evCode P X call n x a H
      | some (.bool false) => evCode P X call n y a H
      | _ => none
    | .block id x => match evCode P X call n x a H with
      | some (.exit id', a', H') => cond (Nat.beq id' id) (some (.normal, a', H')) (some (.exit id', a', H'))
      | r => r
    | .loop x => match evCode P X call n x a H with
      | some (.normal, a', H') => evCode P X call n (.loop x) a' H'
      | r => r
    | _ => none
def aresults (X : Tab) (H : AH) (a : AAct) : List ResultVar → Option (List Value)
  | [] => some []
  | .tmp t :: l => (aresults X H a l).bind fun r => some (a.at_ t :: r)
  | .cell p t :: l => (aload X H t (a.at_ p)).bind fun v => (aresults X H a l).bind fun r => some (v :: r)
def result (vs : List Value) : Value := match vs with
  | [v] => v
  | vs => .tuple vs.toArray
def layArgs : List Value → Nat → T Value → T Value
  | [], _, t => t
  | v :: l, i, t => layArgs l (i + 1) (t.set i (some v))
/-- a deferred function's operations, where nothing panics: recover gives nil -/
def evOpsD (P : Program) (X : Tab) (call : ACall) (ops : List Oper) : List Oper → AAct → AH → Option (AAct × AH)
  | [], a, H => some (a, H)
  | o :: rest, a, H => match o.op with
    | .call c => match c.callee with
      | .builtin .recover => cond (awanted ops a o && Nat.beq c.args.size 0) ((a.put o.dst .nilIface).bind fun a' => evOpsD P X call ops rest a' H) none
      | _ => match evOp P X call ops o a H with
        | some (a', H') => evOpsD P X call ops rest a' H'
        | none => none
    | _ => match evOp P X call ops o a H with
      | some (a', H') => evOpsD P X call ops rest a' H'
      | none => none
def evCodeD (P : Program) (X : Tab) (call : ACall) : Nat → Code → AAct → AH → Option (AExit × AAct × AH)
  | 0, _, _, _ => none
  | n + 1, c, a, H => match c with
    | .region _ ops false => match evOpsD P X call ops.toList ops.toList a H with
      | some (a', H') => some (.normal, a', H')
      | none => none
    | .seq x y => match evCodeD P X call n x a H with
      | some (.normal, a', H') => evCodeD P X call n y a' H'
      | r => r
    | .cond b x y => match a.env b with
      | some (.bool true) => evCodeD P X call n x a H
      | some (.bool false) => evCodeD P X call n y a H
      | _ => none
    | c => evCode P X call n c a H
def enter (fn : Func) (args : Array Value) : AAct := ⟨layArgs args.toList 0 .lf, Nat.max fn.ntmps args.size, []⟩
def leaveD (X : Tab) (fn : Func) : Option (AExit × AAct × AH) → Option (Value × AH)
  | some (.normal, a, H') => match a.defers with
    | [] => (aresults X H' a fn.results.toList).bind fun vs => some (result vs, H')
    | _ => none
  | some (.ret, a, H') => match a.defers with
    | [] => (aresults X H' a fn.results.toList).bind fun vs => some (result vs, H')
    | _ => none
  | _ => none
def evDefs (P : Program) (X : Tab) (call : ACall) (lf : Nat) : List ADef → AH → Option AH
  | [], H => some H
  | d :: ds, H => (X.fn d.f).bind fun fn => match fn.body with
    | none => none
    | some body => cond (Nat.blt (d.args ++ d.cap).size 1000000) (match leaveD X fn (evCodeD P X call lf body (enter fn (d.args ++ d.cap)) H) with
      | some (_, H') => evDefs P X call lf ds H'
      | none => none) none
def leave (P : Program) (X : Tab) (call : ACall) (lf : Nat) (fn : Func) (a : AAct) (H : AH) : Option (Value × AH) :=
  (evDefs P X call lf a.defers H).bind fun H' => (aresults X H' a fn.results.toList).bind fun vs => some (result vs, H')
def evCall (P : Program) (X : Tab) (lf : Nat) : Nat → ACall
  | 0 => fun _ _ _ => none
  | d + 1 => fun f args H => (X.fn f).bind fun fn => match fn.body with
    | none => none
    | some body => cond (Nat.blt args.size 1000000) (match evCode P X (evCall P X lf d) lf body (enter fn args) H with
      | some (.normal, a, H') => leave P X (evCall P X lf d) lf fn a H'
      | some (.ret, a, H') => leave P X (evCall P X lf d) lf fn a H'
      | _ => none) none
end
end Go.Proofs.YtnckhmfajjcgpaaGreatDoor.Ev
namespace Go.Proofs.YtnckhmfajjcgpaaGreatDoor.Ev
noncomputable section
section
variable {P : Program} {X : Tab} {σ : Ren} {S : Ids} {H : AH} {W : World} {B : Nat}
structure ActR (σ : Ren) (n : Ids) (A : AAct) (a : Act) : Prop where
  size : a.tmps.size = A.n
  at_ : ∀ t, VR σ n (A.at_ t) (a.tmps.getD t undef)
theorem undef_vr {σ : Ren} {n : Ids} : VR σ n undef undef := .tuple _ _ .nil
theorem ActR.env {n : Ids} {A : AAct} {a : Act} (h : ActR σ n A a) : EnvOk σ n A.env a.eval := by
  intro x v hv
  cases x with
  | tmp t =>
    simp only [AAct.env] at hv
    injection hv with hv
    subst hv
    exact h.at_ t
  | const u =>
    simp only [AAct.env] at hv
    cases hf : flatF 8 u with
    | false => rw [hf] at hv; cases hv
    | true =>
      rw [hf] at hv
      injection hv with hv
      subst hv
      exact VR.flat 8 u hf
  | global g => cases hv
  | func f =>
    simp only [AAct.env] at hv
    injection hv with hv
    subst hv
    exact .func _ _ _ _ _ .nil .nil
theorem ActR.ext {n n' : Ids} {σ' : Ren} {A : AAct} {a : Act} (h : ActR σ n A a) (e : Ext σ n σ' n') : ActR σ' n' A a := ⟨h.size, fun t => (h.at_ t).ext e⟩
theorem ActR.put {n : Ids} {A A' : AAct} {a : Act} (h : ActR σ n A a) {d : Option Nat} {v v' : Value} (hv : VR σ n v v') (hp : A.put d v = some A') : ActR σ n A' (a.put d v') ∧ A'.defers = A.defers ∧ A'.n = A.n := by
  unfold AAct.put at hp
  cases d with
  | none =>
    simp only at hp
    injection hp with hp
    subst hp
    exact ⟨h, rfl, rfl⟩
  | some d =>
    simp only at hp
    cases hc : (Nat.blt d A.n && Nat.blt d 16777215) with
    | false => rw [hc] at hp; cases hp
    | true =>
      rw [hc] at hp
      injection hp with hp
      subst hp
      simp only [Bool.and_eq_true, Nat.blt_eq] at hc
      refine ⟨⟨by simp [Act.put, h.size], fun t => ?_⟩, rfl, rfl⟩
      simp only [AAct.at_, Act.put]
      rw [T.get_set _ _ _ _ hc.2]
      by_cases e : t = d
      · subst e
        rw [if_pos rfl]
        have : (a.tmps.setIfInBounds t v').getD t undef = v' := by
          rw [Array.getD_eq_getD_getElem?, Array.getElem?_setIfInBounds, if_pos rfl, if_pos (by rw [h.size]; exact hc.1)]
          rfl
        rw [this]
        exact hv
      · rw [if_neg e]
        have : (a.tmps.setIfInBounds d v').getD t undef = a.tmps.getD t undef := by
          rw [Array.getD_eq_getD_getElem?, Array.getD_eq_getD_getElem?, Array.getElem?_setIfInBounds, if_neg (Ne.symm e)]
        rw [this]
        exact h.at_ t
theorem partsM_vr {ρ : Env} {ρ' : Operand → Value} {n : Ids} (hρ : EnvOk σ n ρ ρ') : ∀ (l : List (Nat × Operand)) (ps : List (Nat × Value)), partsM ρ l = some ps → PRs σ n ps (l.map fun (i, x) => (i, ρ' x))
  | [], ps, h => by simp only [partsM] at h; injection h with h; subst h; exact .nil
  | (i, x) :: l, ps, h => by
    simp only [partsM, Option.bind_eq_bind, Option.bind_eq_some_iff] at h
    obtain ⟨v, h1, r, h2, h3⟩ := h
    injection h3 with h3
    subst h3
    exact .cons _ _ _ _ _ (hρ x v h1) (partsM_vr hρ l r h2)
theorem argsM_vr {ρ : Env} {ρ' : Operand → Value} {n : Ids} (hρ : EnvOk σ n ρ ρ') : ∀ (l : List Operand) (vs : List Value), argsM ρ l = some vs → VRs σ n vs (l.map ρ')
  | [], vs, h => by simp only [argsM] at h; injection h with h; subst h; exact .nil
  | x :: l, vs, h => by
    simp only [argsM, Option.bind_eq_bind, Option.bind_eq_some_iff] at h
    obtain ⟨v, h1, r, h2, h3⟩ := h
    injection h3 with h3
    subst h3
    exact .cons _ _ _ _ (hρ x v h1) (argsM_vr hρ l r h2)
theorem optM_vr {ρ : Env} {ρ' : Operand → Value} {n : Ids} (hρ : EnvOk σ n ρ ρ') {o : Option Operand} {r : Option Value} (h : optM ρ o = some r) : r.isSome = (o.map ρ').isSome ∧ ∀ u u', r = some u → o.map ρ' = some u' → VR σ n u u' := by
  cases o with
  | none => simp only [optM] at h; injection h with h; subst h; exact ⟨rfl, fun u u' e => by cases e⟩
  | some x =>
    simp only [optM, Option.map_eq_some_iff] at h
    obtain ⟨v, h1, h2⟩ := h
    subst h2
    exact ⟨rfl, fun u u' e e' => by injection e with e; injection e' with e'; subst e e'; exact hρ x v h1⟩
theorem val_eq {v : Option Value} {H H' : AH} {r : ANext} (h : val v H = some (r, H')) : ∃ u, v = some u ∧ r = .value u ∧ H' = H := by
  unfold val at h
  rw [Option.bind_eq_some_iff] at h
  obtain ⟨u, h1, h2⟩ := h
  injection h2 with h2
  injection h2 with h2 h3
  exact ⟨u, h1, h2.symm, h3.symm⟩
theorem vals_eq {v : Option (Value × AH)} {H' : AH} {r : ANext} (h : vals v = some (r, H')) : ∃ u, v = some (u, H') ∧ r = .value u := by
  unfold vals at h
  rw [Option.bind_eq_some_iff] at h
  obtain ⟨⟨u, H1⟩, h1, h2⟩ := h
  injection h2 with h2
  injection h2 with h2 h3
  subst h3
  exact ⟨u, h1, h2.symm⟩
theorem unit_eq {v : Option AH} {H' : AH} {r : ANext} (h : unit_ v = some (r, H')) : v = some H' ∧ r = .skip := by
  unfold unit_ at h
  rw [Option.bind_eq_some_iff] at h
  obtain ⟨H1, h1, h2⟩ := h
  injection h2 with h2
  injection h2 with h2 h3
  subst h3
  exact ⟨h1, h2.symm⟩
theorem Does.pure_ (h : Rep σ S H W B) {s : Sem Next} {v v' : Value} (hs : s.run P W = .ok (.value v') W) (hv : VR σ S v v') : Does P σ S H W B s (.value v) H := ⟨σ, S, W, .value v', hs, h, h.refl, hv, Taken.refl _ _⟩
theorem okNil_run {n : Ids} {v v' : Value} (hk : okNil v = true) (hv : VR σ n v v') (w : World) : ((match v' with
    | .pointer none | .nilIface | .nilFunc => runtimePanic .nilDeref
    | .func (.method name) first captured =>
      match (first[0]? : Option Value) with
      | some .nilIface => runtimePanic .nilDeref
      | some (.iface t w) => do
        if (← nilAhead ((← program).types.size + Made.depth) t w name) != some false then
          unsupported (.noEntry "op/nilCheck.the method's receiver behind this interface value is a nil pointer, or cannot be seen to be none, and the arguments act or may panic (ledger 612)")
        pure (.value (.func (.method name) first captured))
      | _ => pure (.value (.func (.method name) first captured))
    | x => pure (.value x)) : Sem Next).run P w = .ok (.value v') w := by
  cases hv <;> first
    | rfl
    | (simp [okNil] at hk; done)
end
end
end Go.Proofs.YtnckhmfajjcgpaaGreatDoor.Ev
namespace Go.Proofs.YtnckhmfajjcgpaaGreatDoor.Ev
noncomputable section
section
variable {P : Program} {X : Tab} {σ : Ren} {S : Ids} {H : AH} {W : World} {B : Nat}
theorem two_list {n : Ids} {a b : Value} {l : List Value} (h : VRs σ n [a, b] l) : ∃ a' b', l = [a', b'] ∧ VR σ n a a' ∧ VR σ n b b' := by
  cases h with
  | cons _ a' _ l' h1 t =>
    cases t with
    | cons _ b' _ l'' h2 t =>
      cases t
      exact ⟨a', b', rfl, h1, h2⟩
theorem one_list {n : Ids} {a : Value} {l : List Value} (h : VRs σ n [a] l) : ∃ a', l = [a'] ∧ VR σ n a a' := by
  cases h with
  | cons _ a' _ l' h1 t =>
    cases t
    exact ⟨a', rfl, h1⟩
theorem arr_of {α : Type} {a : Array α} {l : List α} (h : a.toList = l) : a = l.toArray := by cases a; simpa using h
theorem builtin_sound (hX : TabOk P X) (h : Rep σ S H W B) (hfree : ¬ S H.next) (hB : B ≤ W.heap.size) {b : Builtin} {ts : Array TypeId} {ty : TypeId} {cs : Array Bool} {vs : List Value} {vs' : Array Value} {r : ANext} {H' : AH} (hv : VRs σ S vs vs'.toList)
    (ha : abuiltin X H b ts.toList vs = some (r, H')) : Does P σ S H W B (builtin b ts ty cs vs') r H' := by
  unfold abuiltin at ha
  split at ha
  · rename_i t tx s x hts
    obtain ⟨u, h1, rfl⟩ := vals_eq ha
    obtain ⟨s', x', hl, h2, h3⟩ := two_list hv
    rw [arr_of hts, arr_of hl]
    exact Does.of_value (append_sound hX h hfree hB h2 h3 h1)
  · rename_i t v hts
    obtain ⟨u, h1, rfl, rfl⟩ := val_eq ha
    obtain ⟨v', hl, h2⟩ := one_list hv
    rw [arr_of hts, arr_of hl]
    exact Does.of_value (len_sound hX h h2 h1)
  · rename_i t t2 d s hts
    obtain ⟨d', s', hl, h2, h3⟩ := two_list hv
    rw [arr_of hts, arr_of hl]
    split at ha
    · rename_i q hq
      obtain ⟨u, h1, rfl⟩ := vals_eq ha
      injection h1 with h1
      subst h1
      exact Does.of_value (copy0_sound hX h h2 h3 hq)
    · obtain ⟨u, h1, rfl⟩ := vals_eq ha
      exact Does.of_value (copy_sound hX h h2 h3 h1)
  · rename_i t t2 m k hts
    obtain ⟨u, h1, rfl⟩ := vals_eq ha
    obtain ⟨m', k', hl, h2, h3⟩ := two_list hv
    rw [arr_of hts, arr_of hl]
    exact Does.of_value (delete_sound hX h h2 h3 h1)
  · cases ha
theorem all_flat_eq {n : Ids} {l l' : List Value} (h : VRs σ n l l') (hf : l.all (flatF 8) = true) : l' = l := VRs.flat_eq (VR.flat_eq 8) l l' h hf
theorem callFn_sound (hX : TabOk P X) (h : Rep σ S H W B) (hfree : ¬ S H.next) (hB : B ≤ W.heap.size) {g : FuncId} {vs vs' : Array Value} {r : ANext} {H' : AH} (hv : VRs σ S vs.toList vs'.toList) (ha : acallFn P X H g vs = some (r, H')) : Does P σ S H W B (callFunc g vs') r H' := by
  unfold acallFn at ha
  split at ha
  · rename_i fn hfn
    injection ha with ha
    injection ha with ha ha2
    subst ha ha2
    exact ⟨σ, S, W, .enter g vs', (hX.fn g fn hfn).2 vs' W, h, h.refl, ⟨rfl, hv⟩, Taken.refl _ _⟩
  · split at ha
    · rename_i he
      obtain ⟨u, h1, rfl⟩ := vals_eq ha
      obtain ⟨σ', S', W', r', k1, k2, k3, k4, k5⟩ := Does.of_value (P := P) (clone_sound h hfree hB hv h1)
      exact ⟨σ', S', W', r', by rw [hX.ext g _ he]; exact k1, k2, k3, k4, k5⟩
    · rename_i q he
      cases hc : vs.toList.all (flatF 8) with
      | false => rw [hc] at ha; cases ha
      | true =>
        rw [hc] at ha
        simp only [cond_true] at ha
        split at ha
        · rename_i v hp
          cases hf : flatF 8 v with
          | false => rw [hf] at ha; cases ha
          | true =>
            rw [hf] at ha
            injection ha with ha
            injection ha with ha ha2
            subst ha ha2
            have hvv : vs' = vs := array_eq (all_flat_eq hv hc)
            subst hvv
            refine Does.pure_ h (v' := v) ?_ (VR.flat 8 v hf)
            rw [hX.ext g _ he, Sem.run_bind]
            show ((Sem.run P (q vs') W).andThen _) = _
            rw [pureRun_run _ hp W]
            rfl
        · cases ha
    · cases ha
theorem func_vr {n : Ids} {g : FuncId} {first cap : Array Value} {v' : Value} (h : VR σ n (.func (.func g) first cap) v') : ∃ first' cap', v' = .func (.func g) first' cap' ∧ VRs σ n first.toList first'.toList ∧ VRs σ n cap.toList cap'.toList := by
  cases h with
  | func _ _ first' _ cap' h1 h2 => exact ⟨first', cap', rfl, h1, h2⟩
theorem call_sound (hX : TabOk P X) (h : Rep σ S H W B) (hfree : ¬ S H.next) (hB : B ≤ W.heap.size) {ρ : Env} {ρ' : Operand → Value} (hρ : EnvOk σ S ρ ρ') {c : Call} {ty : TypeId} {r : ANext} {H' : AH} (ha : acall P X H ρ c = some (r, H')) :
    Does P σ S H W B (do let d ← resolve ρ' c ty; invoke d.target d.args) r H' := by
  unfold acall at ha
  rw [Option.bind_eq_some_iff] at ha
  obtain ⟨vs, h1, h2⟩ := ha
  have hvs : VRs σ S vs (c.args.map ρ').toList := by rw [Array.toList_map]; exact argsM_vr hρ _ _ h1
  split at h2
  · rename_i b hc
    have := builtin_sound (ty := ty) (cs := c.args.map fun | .const _ => true | _ => false) hX h hfree hB hvs h2
    obtain ⟨σ', S', W', r', k1, k2, k3, k4, k5⟩ := this
    refine ⟨σ', S', W', r', ?_, k2, k3, k4, k5⟩
    unfold resolve
    rw [hc]
    exact k1
  · rename_i f hc
    rw [Option.bind_eq_some_iff] at h2
    obtain ⟨fv, h3, h4⟩ := h2
    split at h4
    · rename_i g first cap
      obtain ⟨first', cap', he, h5, h6⟩ := func_vr (hρ f _ h3)
      have hall : VRs σ S (first ++ vs.toArray ++ cap).toList (first' ++ c.args.map ρ' ++ cap').toList := by
        simp only [Array.toList_append]
        exact (h5.append hvs).append h6
      obtain ⟨σ', S', W', r', k1, k2, k3, k4, k5⟩ := callFn_sound hX h hfree hB hall h4
      refine ⟨σ', S', W', r', ?_, k2, k3, k4, k5⟩
      unfold resolve
      rw [hc]
      dsimp only
      rw [he]
      exact k1
    · cases h4
  · cases h2
theorem aop_sound (hX : TabOk P X) (h : Rep σ S H W B) (hfree : ¬ S H.next) (hB : B ≤ W.heap.size) {ρ : Env} {ρ' : Operand → Value} (hρ : EnvOk σ S ρ ρ') {o : Oper} {r : ANext} {H' : AH} (ha : aop P X H ρ o = some (r, H')) : Does P σ S H W B (execOp ρ' o) r H' := by
  have flat1 : ∀ q, aflat P ρ o = some q → some (q, H) = some (r, H') → Does P σ S H W B (execOp ρ' o) r H' := by
    intro q hq e
    injection e with e
    injection e with e1 e2
    subst e1 e2
    exact flat_sound h hρ hq
  have V : ∀ {s : Sem Value}, execOp ρ' o = (do pure (.value (← s))) → ∀ {u : Value}, r = .value u → Shows P σ S H W B s u H' → Does P σ S H W B (execOp ρ' o) r H' := by
    intro s he u hr hs
    rw [he, hr]
    exact Does.of_value hs
  have U : ∀ {s : Sem Unit}, execOp ρ' o = (do s; pure .skip) → r = .skip → ShowsU P σ S H W B s H' → Does P σ S H W B (execOp ρ' o) r H' := by
    intro s he hr hs
    rw [he, hr]
    exact Does.of_unit hs
  rw [aop_eq] at ha
  unfold aop0 at ha
  split at ha
  case h_1 x hop =>
    obtain ⟨u, h1, rfl, rfl⟩ := val_eq ha
    exact Does.pure_ h (by unfold execOp; rw [hop]; rfl) (hρ x u h1)
  case h_2 x hop =>
    obtain ⟨u, h1, rfl, rfl⟩ := val_eq ha
    exact Does.pure_ h (by unfold execOp; rw [hop]; rfl) (hρ x u h1)
  case h_3 c a b hop =>
    rw [Option.bind_eq_some_iff] at ha
    obtain ⟨cv, h1, h2⟩ := ha
    split at h2
    · obtain ⟨u, h3, rfl, rfl⟩ := val_eq h2
      have hc := hρ c _ h1
      generalize hcv : ρ' c = cv at hc
      cases hc
      exact Does.pure_ h (v' := ρ' a) (by unfold execOp; rw [hop]; simp [hcv, asBool]) (hρ a u h3)
    · obtain ⟨u, h3, rfl, rfl⟩ := val_eq h2
      have hc := hρ c _ h1
      generalize hcv : ρ' c = cv at hc
      cases hc
      exact Does.pure_ h (v' := ρ' b) (by unfold execOp; rw [hop]; simp [hcv, asBool]) (hρ b u h3)
    · cases h2
  case h_4 e hop =>
    obtain ⟨u, h1, hr⟩ := vals_eq ha
    exact V (by unfold execOp; rw [hop]) hr (alloc_sound hX h hfree hB h1)
  case h_5 e x hop =>
    rw [Option.bind_eq_some_iff] at ha
    obtain ⟨v, h1, h2⟩ := ha
    obtain ⟨u, h3, hr⟩ := vals_eq h2
    exact V (by unfold execOp; rw [hop]) hr (box_sound h hfree hB (hρ x v h1) h3)
  case h_6 t parts hop =>
    rw [Option.bind_eq_some_iff] at ha
    obtain ⟨ps, h1, h2⟩ := ha
    obtain ⟨u, h3, hr, rfl⟩ := val_eq h2
    exact V (by unfold execOp; rw [hop]) hr (build_sound hX h (parts := ps.toArray) (by rw [Array.toList_map]; exact partsM_vr hρ _ _ h1) (by simpa using h3))
  case h_7 t len parts hop =>
    rw [Option.bind_eq_some_iff] at ha
    obtain ⟨ps, h1, h2⟩ := ha
    obtain ⟨u, h3, hr⟩ := vals_eq h2
    exact V (by unfold execOp; rw [hop]) hr (buildSlice_sound hX h hfree hB (parts := ps.toArray) (by rw [Array.toList_map]; exact partsM_vr hρ _ _ h1) (by simpa using h3))
  case h_8 t x hop =>
    rw [Option.bind_eq_some_iff] at ha
    obtain ⟨v, h1, h2⟩ := ha
    obtain ⟨u, h3, hr, rfl⟩ := val_eq h2
    obtain ⟨r', k1, k2⟩ := load_sound hX h (hρ x v h1) h3
    exact V (by unfold execOp; rw [hop]) hr (Shows.pure_ h k1 k2)
  case h_9 t p x hop =>
    rw [Option.bind_eq_some_iff] at ha
    obtain ⟨pv, h1, h2⟩ := ha
    rw [Option.bind_eq_some_iff] at h2
    obtain ⟨v, h3, h4⟩ := h2
    obtain ⟨h5, hr⟩ := unit_eq h4
    obtain ⟨W', k1, k2, k3, k4⟩ := store_sound hX h (hρ p pv h1) (hρ x v h3) h5
    exact U (by unfold execOp; rw [hop]) hr ⟨σ, S, W', k1, k2, k3, by rw [k4]; exact Taken.refl _ _⟩
  case h_10 x hop =>
    rw [Option.bind_eq_some_iff] at ha
    obtain ⟨v, h1, h2⟩ := ha
    cases hk : okNil v with
    | false => rw [hk] at h2; cases h2
    | true =>
      rw [hk] at h2
      injection h2 with h2
      injection h2 with h2 h3
      subst h2 h3
      have hv := hρ x v h1
      generalize hx : ρ' x = v' at hv
      refine Does.pure_ h (v' := v') ?_ hv
      unfold execOp
      rw [hop]
      dsimp only
      rw [hx]
      cases hv <;> first
        | rfl
        | (simp [okNil] at hk; done)
  case h_11 op t x y yt hop =>
    split at ha
    · exact flat1 _ (by assumption) ha
    · rw [Option.bind_eq_some_iff] at ha
      obtain ⟨a, h1, h2⟩ := ha
      rw [Option.bind_eq_some_iff] at h2
      obtain ⟨b, h3, h4⟩ := h2
      obtain ⟨u, h5, hr, rfl⟩ := val_eq h4
      exact V (by unfold execOp; rw [hop]) hr (nilcmp_sound hX h (hρ x a h1) (hρ y b h3) h5)
  case h_12 t x hop =>
    rw [Option.bind_eq_some_iff] at ha
    obtain ⟨v, h1, h2⟩ := ha
    obtain ⟨u, h3, hr, rfl⟩ := val_eq h2
    exact V (by unfold execOp; rw [hop]) hr (makeIface_sound hX h (hρ x v h1) h3)
  case h_13 f first cap hop =>
    rw [Option.bind_eq_some_iff] at ha
    obtain ⟨fs, h1, h2⟩ := ha
    rw [Option.bind_eq_some_iff] at h2
    obtain ⟨cs, h3, h4⟩ := h2
    injection h4 with h4
    injection h4 with h4 h5
    subst h4 h5
    refine Does.pure_ h (v' := .func (.func f) (first.map ρ') (cap.map ρ')) (by unfold execOp; rw [hop]; rfl) (.func _ _ _ _ _ ?_ ?_)
    · rw [Array.toList_map]; simpa using argsM_vr hρ _ _ h1
    · rw [Array.toList_map]; simpa using argsM_vr hρ _ _ h3
  case h_14 t hop =>
    obtain ⟨u, h1, hr⟩ := vals_eq ha
    exact V (by unfold execOp; rw [hop]; rfl) hr (makeMap_sound h hfree hB h1)
  case h_15 t x lo hi mx hop =>
    split at ha
    · exact flat1 _ (by assumption) ha
    · rw [Option.bind_eq_some_iff] at ha
      obtain ⟨v, h1, h2⟩ := ha
      rw [Option.bind_eq_some_iff] at h2
      obtain ⟨l, h3, h4⟩ := h2
      rw [Option.bind_eq_some_iff] at h4
      obtain ⟨hh, h5, h6⟩ := h4
      rw [Option.bind_eq_some_iff] at h6
      obtain ⟨m, h7, h8⟩ := h6
      obtain ⟨u, h9, hr, rfl⟩ := val_eq h8
      exact V (by unfold execOp; rw [hop]) hr (slice_sound hX h (hρ x v h1) (optM_vr hρ h3) (optM_vr hρ h5) (optM_vr hρ h7) h9)
  case h_16 t x f hop =>
    rw [Option.bind_eq_some_iff] at ha
    obtain ⟨v, h1, h2⟩ := ha
    obtain ⟨u, h3, hr, rfl⟩ := val_eq h2
    exact V (by unfold execOp; rw [hop]) hr (fieldAddr_sound hX h (hρ x v h1) h3)
  case h_17 t x f hop =>
    rw [Option.bind_eq_some_iff] at ha
    obtain ⟨v, h1, h2⟩ := ha
    obtain ⟨u, h3, hr, rfl⟩ := val_eq h2
    exact V (by unfold execOp; rw [hop]) hr (field_sound hX h (hρ x v h1) h3)
  case h_18 t x i hop =>
    rw [Option.bind_eq_some_iff] at ha
    obtain ⟨v, h1, h2⟩ := ha
    rw [Option.bind_eq_some_iff] at h2
    obtain ⟨ix, h3, h4⟩ := h2
    obtain ⟨u, h5, hr, rfl⟩ := val_eq h4
    exact V (by unfold execOp; rw [hop]) hr (indexAddr_sound hX h (hρ x v h1) (hρ i ix h3) h5)
  case h_19 t x i hop =>
    split at ha
    · exact flat1 _ (by assumption) ha
    · rw [Option.bind_eq_some_iff] at ha
      obtain ⟨v, h1, h2⟩ := ha
      rw [Option.bind_eq_some_iff] at h2
      obtain ⟨ix, h3, h4⟩ := h2
      obtain ⟨u, h5, hr, rfl⟩ := val_eq h4
      exact V (by unfold execOp; rw [hop]) hr (index_sound hX h (hρ x v h1) (hρ i ix h3) h5)
  case h_20 t m k ok hop =>
    rw [Option.bind_eq_some_iff] at ha
    obtain ⟨mv, h1, h2⟩ := ha
    rw [Option.bind_eq_some_iff] at h2
    obtain ⟨kv, h3, h4⟩ := h2
    obtain ⟨u, h5, hr, rfl⟩ := val_eq h4
    exact V (by unfold execOp; rw [hop]) hr (lookup_sound hX h (hρ m mv h1) (hρ k kv h3) h5)
  case h_21 t m k x hop =>
    rw [Option.bind_eq_some_iff] at ha
    obtain ⟨mv, h1, h2⟩ := ha
    rw [Option.bind_eq_some_iff] at h2
    obtain ⟨kv, h3, h4⟩ := h2
    rw [Option.bind_eq_some_iff] at h4
    obtain ⟨vv, h5, h6⟩ := h4
    obtain ⟨h7, hr⟩ := unit_eq h6
    exact U (by unfold execOp; rw [hop]) hr (mapUpdate_sound hX h (hρ m mv h1) (hρ k kv h3) (hρ x vv h5) h7)
  case h_22 t m k x hop =>
    rw [Option.bind_eq_some_iff] at ha
    obtain ⟨mv, h1, h2⟩ := ha
    rw [Option.bind_eq_some_iff] at h2
    obtain ⟨kv, h3, h4⟩ := h2
    rw [Option.bind_eq_some_iff] at h4
    obtain ⟨vv, h5, h6⟩ := h4
    obtain ⟨h7, hr⟩ := unit_eq h6
    exact U (by unfold execOp; rw [hop]) hr (mapUpdate_sound hX h (hρ m mv h1) (hρ k kv h3) (hρ x vv h5) h7)
  case h_23 t x hop =>
    rw [Option.bind_eq_some_iff] at ha
    obtain ⟨v, h1, h2⟩ := ha
    obtain ⟨u, h3, hr⟩ := vals_eq h2
    exact V (by unfold execOp; rw [hop]) hr (range_sound hX h hfree hB (hρ x v h1) h3)
  case h_24 x xt t ok hop =>
    rw [Option.bind_eq_some_iff] at ha
    obtain ⟨v, h1, h2⟩ := ha
    obtain ⟨u, h3, hr, rfl⟩ := val_eq h2
    exact V (by unfold execOp; rw [hop]) hr (typeAssert_sound hX h (hρ x v h1) h3)
  case h_25 x i hop =>
    rw [Option.bind_eq_some_iff] at ha
    obtain ⟨v, h1, h2⟩ := ha
    obtain ⟨u, h3, hr, rfl⟩ := val_eq h2
    exact V (by unfold execOp; rw [hop]) hr (extract_sound h (hρ x v h1) h3)
  case h_26 c hop =>
    split at ha
    · exact flat1 _ (by assumption) ha
    · have := call_sound (ty := o.type) hX h hfree hB hρ ha
      obtain ⟨σ', S', W', r', k1, k2, k3, k4, k5⟩ := this
      exact ⟨σ', S', W', r', by unfold execOp; rw [hop]; exact k1, k2, k3, k4, k5⟩
  case h_27 c hop =>
    split at ha
    · rename_i f hc
      rw [Option.bind_eq_some_iff] at ha
      obtain ⟨vs, h1, h2⟩ := ha
      rw [Option.bind_eq_some_iff] at h2
      obtain ⟨fv, h3, h4⟩ := h2
      split at h4
      · rename_i g first cap
        rw [Option.bind_eq_some_iff] at h4
        obtain ⟨fn, h5, h6⟩ := h4
        injection h6 with h6
        injection h6 with h6 h7
        subst h6 h7
        obtain ⟨first', cap', he, h8, h9⟩ := func_vr (hρ f _ h3)
        refine ⟨σ, S, W, .defer { target := .fn (.func g) cap', args := first' ++ c.args.map ρ' }, ?_, h, h.refl, ⟨cap', rfl, h9, ?_⟩, Taken.refl _ _⟩
        · unfold execOp
          rw [hop]
          simp only [resolve, hc, he, Deferred.ofValue]
          rfl
        · simp only [Array.toList_append, Array.toList_map]
          exact h8.append (by simpa using argsM_vr hρ _ _ h1)
      · cases h4
    · cases ha
  case h_28 op t x hop =>
    split at ha
    · exact flat1 _ (by assumption) ha
    · cases ha
  case h_29 s d x hop =>
    split at ha
    · exact flat1 _ (by assumption) ha
    · rw [Option.bind_eq_some_iff] at ha
      obtain ⟨v, h1, h2⟩ := ha
      obtain ⟨u, h3, hr⟩ := vals_eq h2
      exact V (by unfold execOp; rw [hop]) hr (convert_sound hX h hfree hB (hρ x v h1) h3)
  case h_30 it isS hop =>
    rw [Option.bind_eq_some_iff] at ha
    obtain ⟨v, h1, h2⟩ := ha
    obtain ⟨u, h3, hr⟩ := vals_eq h2
    exact V (by unfold execOp; rw [hop]) hr (next_sound h (hρ it v h1) h3)
  case h_31 it hop =>
    rw [Option.bind_eq_some_iff] at ha
    obtain ⟨v, h1, h2⟩ := ha
    obtain ⟨u, h3, hr, rfl⟩ := val_eq h2
    exact V (by unfold execOp; rw [hop]) hr (entry_sound h (hρ it v h1) h3)
  case h_32 t l c hop =>
    rw [Option.bind_eq_some_iff] at ha
    obtain ⟨lv, h1, h2⟩ := ha
    rw [Option.bind_eq_some_iff] at h2
    obtain ⟨cv, h3, h4⟩ := h2
    obtain ⟨u, h5, hr⟩ := vals_eq h4
    exact V (by unfold execOp; rw [hop]) hr (makeSlice_sound hX h hfree hB (hρ l lv h1) (hρ c cv h3) h5)
  case h_33 => cases ha
end
end
end Go.Proofs.YtnckhmfajjcgpaaGreatDoor.Ev
namespace Go.Proofs.YtnckhmfajjcgpaaGreatDoor.Ev
noncomputable section
section
variable {P : Program} {X : Tab}
inductive DRs (tl : List Deferred) (σ : Ren) (S : Ids) : List ADef → List Deferred → Prop
  | nil : DRs tl σ S [] tl
  | cons (d : ADef) (d' : Deferred) (l : List ADef) (l' : List Deferred) (cap' : Array Value) (h1 : d'.target = .fn (.func d.f) cap') (h2 : VRs σ S d.cap.toList cap'.toList) (h3 : VRs σ S d.args.toList d'.args.toList) (t : DRs tl σ S l l') : DRs tl σ S (d :: l) (d' :: l')
theorem DRs.ext {tl : List Deferred} {σ σ' : Ren} {S S' : Ids} {l : List ADef} {l' : List Deferred} (h : DRs tl σ S l l') (e : Ext σ S σ' S') : DRs tl σ' S' l l' := by
  induction h with
  | nil => exact .nil
  | cons d d' l l' cap' h1 h2 h3 t ih => exact .cons d d' l l' cap' h1 (h2.ext e) (h3.ext e) ih
/-- the abstract state stands for the real one; tl: what was deferred ahead of it, or marks -/
structure St (tl : List Deferred) (σ : Ren) (S : Ids) (H : AH) (W : World) (B : Nat) (A : AAct) (a : Act) : Prop where
  rep : Rep σ S H W B
  free : Free S H.next
  base : B ≤ W.heap.size
  act : ActR σ S A a
  defs : DRs tl σ S A.defers a.defers
/-- a later state -/
structure Later (σ : Ren) (S : Ids) (n : Nat) (W : World) (σ' : Ren) (S' : Ids) (n' : Nat) (W' : World) : Prop where
  evo : Evo σ S W σ' S' W'
  taken : Taken S n S' n'
theorem Later.trans {σ σ' σ'' : Ren} {S S' S'' : Ids} {n n' n'' : Nat} {W W' W'' : World} (h : Later σ S n W σ' S' n' W') (k : Later σ' S' n' W' σ'' S'' n'' W'') : Later σ S n W σ'' S'' n'' W'' := ⟨h.evo.trans k.evo, h.taken.trans k.taken⟩
theorem St.refl {tl : List Deferred} {σ : Ren} {S : Ids} {H : AH} {W : World} {B : Nat} {A : AAct} {a : Act} (h : St tl σ S H W B A a) : Later σ S H.next W σ S H.next W := ⟨h.rep.refl, Taken.refl _ _⟩
def CallOk (P : Program) (call : ACall) : Prop := ∀ f args H v H', call f args H = some (v, H') → ∀ (σ : Ren) (S : Ids) (W : World) (B : Nat) (args' : Array Value), Rep σ S H W B → Free S H.next → B ≤ W.heap.size → VRs σ S args.toList args'.toList →
  Calls P f args' W fun e W' => ∃ (σ' : Ren) (S' : Ids) (v' : Value), e = .returned v' ∧ VR σ' S' v v' ∧ Rep σ' S' H' W' B ∧ Later σ S H.next W σ' S' H'.next W'
theorem yielded_eq {σ : Ren} {S : Ids} {A : AAct} {a : Act} (h : ActR σ S A a) (ops : Array Oper) (j : Nat) : ayielded ops.toList A j = yielded ops a.tmps j := by
  unfold ayielded yielded
  rw [Array.getElem?_toList]
  cases hd : (ops[j]?).bind (·.dst) with
  | none => rfl
  | some d =>
    simp only [Option.bind_some]
    have hv := h.at_ d
    rcases Nat.lt_or_ge d a.tmps.size with hlt | hge
    · have e1 : a.tmps[d]? = some (a.tmps.getD d undef) := by
        rw [Array.getD_eq_getD_getElem?, Array.getElem?_eq_getElem hlt]
        rfl
      rw [e1]
      generalize A.at_ d = u at hv ⊢
      generalize a.tmps.getD d undef = u' at hv ⊢
      cases hv <;> rfl
    · have e1 : a.tmps[d]? = none := Array.getElem?_eq_none hge
      have e2 : a.tmps.getD d undef = undef := by rw [Array.getD_eq_getD_getElem?, e1]; rfl
      rw [e1]
      rw [e2] at hv
      generalize A.at_ d = u at hv
      unfold undef at hv
      cases hv with
      | tuple cs _ hc => rfl
theorem wanted_eq {σ : Ren} {S : Ids} {A : AAct} {a : Act} (h : ActR σ S A a) (ops : Array Oper) (o : Oper) : awanted ops.toList A o = Region.wanted o (yielded ops a.tmps) := by
  unfold awanted Region.wanted
  cases o.guard with
  | none => rfl
  | some p =>
    obtain ⟨j, want⟩ := p
    simp only
    rw [yielded_eq h]
    cases yielded ops a.tmps j with
    | none => rfl
    | some b => cases b <;> cases want <;> rfl
/-- one operation, at its place -/
theorem evOp_wp (hX : TabOk P X) {call : ACall} (hcall : CallOk P call) {ops : Array Oper} {o : Oper} {A A' : AAct} {H H' : AH} (he : evOp P X call ops.toList o A H = some (A', H')) {tl : List Deferred} {σ : Ren} {S : Ids} {W : World} {B : Nat} {a : Act} (h : St tl σ S H W B A a)
    {K : Act → World → Prop} {Q : Exit → Act → World → Prop} (hK : ∀ σ' S' a' W', St tl σ' S' H' W' B A' a' → Later σ S H.next W σ' S' H'.next W' → K a' W') :
    if Region.wanted o (yielded ops a.tmps) = true then o.wp P a W K Q else K (a.put o.dst undef) W := by
  rw [← wanted_eq h.act]
  unfold evOp at he
  cases hw : awanted ops.toList A o with
  | false =>
    rw [hw] at he
    simp only [cond_false, Option.bind_eq_some_iff] at he
    obtain ⟨A1, h1, h2⟩ := he
    injection h2 with h2
    injection h2 with h2 h3
    subst h2 h3
    rw [if_neg (by simp)]
    obtain ⟨p1, p2, p3⟩ := h.act.put undef_vr h1
    refine hK σ S _ W ⟨h.rep, h.free, h.base, p1, ?_⟩ h.refl
    rw [p2]
    cases o.dst <;> exact h.defs
  | true =>
    rw [hw] at he
    simp only [cond_true, Option.bind_eq_some_iff] at he
    obtain ⟨⟨r, H1⟩, h1, h2⟩ := he
    rw [if_pos rfl]
    obtain ⟨σ1, S1, W1, r1, k1, k2, k3, k4, k5⟩ := aop_sound hX h.rep (h.free _ (Nat.le_refl _)) h.base h.act.env h1
    have hfree1 := h.free.taken k5
    have hb1 : B ≤ W1.heap.size := Nat.le_trans h.base k3.size
    have hact1 := h.act.ext k3.ext
    have hdef1 := h.defs.ext k3.ext
    have hl1 : Later σ S H.next W σ1 S1 H1.next W1 := ⟨k3, k5⟩
    unfold Oper.wp
    rw [k1]
    cases r with
    | value v =>
      simp only [Option.bind_eq_some_iff] at h2
      obtain ⟨A2, h3, h4⟩ := h2
      injection h4 with h4
      injection h4 with h4 h5
      subst h4 h5
      cases r1 <;> simp only [NR] at k4
      rename_i v'
      obtain ⟨p1, p2, p3⟩ := hact1.put k4 h3
      rw [Oper.upon_value]
      refine hK σ1 S1 _ W1 ⟨k2, hfree1, hb1, p1, ?_⟩ hl1
      rw [p2]
      cases o.dst <;> exact hdef1
    | skip =>
      simp only [Option.bind_eq_some_iff] at h2
      obtain ⟨A2, h3, h4⟩ := h2
      injection h4 with h4
      injection h4 with h4 h5
      subst h4 h5
      cases r1 <;> simp only [NR] at k4
      obtain ⟨p1, p2, p3⟩ := hact1.put undef_vr h3
      rw [Oper.upon_skip]
      refine hK σ1 S1 _ W1 ⟨k2, hfree1, hb1, p1, ?_⟩ hl1
      rw [p2]
      cases o.dst <;> exact hdef1
    | enter f args =>
      simp only [Option.bind_eq_some_iff] at h2
      obtain ⟨⟨v, H2⟩, h3, A2, h4, h5⟩ := h2
      injection h5 with h5
      injection h5 with h5 h6
      subst h5 h6
      cases r1 <;> simp only [NR] at k4
      rename_i f' args'
      obtain ⟨rfl, hargs⟩ := k4
      rw [Oper.upon_enter]
      refine (hcall f args H1 v H2 h3 σ1 S1 W1 B args' k2 hfree1 hb1 hargs).mono ?_
      rintro e W2 ⟨σ2, S2, v', rfl, q1, q2, q3⟩
      have hact2 := hact1.ext q3.evo.ext
      obtain ⟨p1, p2, p3⟩ := hact2.put q1 h4
      refine hK σ2 S2 _ W2 ⟨q2, hfree1.taken q3.taken, Nat.le_trans hb1 q3.evo.size, p1, ?_⟩ (hl1.trans q3)
      rw [p2]
      have := hdef1.ext q3.evo.ext
      cases o.dst <;> exact this
    | defer f cap args =>
      simp only [Option.bind_eq_some_iff] at h2
      obtain ⟨A2, h3, h4⟩ := h2
      injection h4 with h4
      injection h4 with h4 h5
      subst h4 h5
      cases r1 <;> simp only [NR] at k4
      rename_i d
      obtain ⟨cap', q1, q2, q3⟩ := k4
      rw [Oper.upon_defer]
      have hact2 : ActR σ1 S1 ⟨A.tmps, A.n, ⟨f, cap, args⟩ :: A.defers⟩ { a with defers := d :: a.defers } := ⟨hact1.size, hact1.at_⟩
      obtain ⟨p1, p2, p3⟩ := hact2.put undef_vr h3
      refine hK σ1 S1 _ W1 ⟨k2, hfree1, hb1, p1, ?_⟩ hl1
      rw [p2]
      have hd : DRs tl σ1 S1 (⟨f, cap, args⟩ :: A.defers) (d :: a.defers) := .cons _ _ _ _ cap' q1 q2 q3 hdef1
      cases o.dst <;> exact hd
theorem evOps_wp (hX : TabOk P X) {call : ACall} (hcall : CallOk P call) {ops : Array Oper} {tl : List Deferred} {B : Nat} {Q : Exit → Act → World → Prop} : ∀ (l : List Oper) (k : Nat) (A : AAct) (H : AH) (A' : AAct) (H' : AH) (σ : Ren) (S : Ids) (W : World) (a : Act), (∀ j, l[j]? = ops[k + j]?) → evOps P X call ops.toList l A H = some (A', H') → St tl σ S H W B A a →
    (∀ σ' S' a' W', St tl σ' S' H' W' B A' a' → Later σ S H.next W σ' S' H'.next W' → Q .normal a' W') → wpOps P ops Q (List.range' k l.length) a W
  | [], k, A, H, A', H', σ, S, W, a, _, he, h, hQ => by
    simp only [evOps] at he
    injection he with he
    injection he with he he2
    subst he he2
    exact hQ σ S a W h h.refl
  | o :: l, k, A, H, A', H', σ, S, W, a, hl, he, h, hQ => by
    simp only [evOps] at he
    split at he
    case h_2 => cases he
    rename_i A1 H1 h1
    have h0 : ops[k]? = some o := by simpa using (hl 0).symm
    simp only [List.length_cons, List.range'_succ, wpOps, h0]
    have := evOp_wp hX hcall h1 h (K := wpOps P ops Q (List.range' (k + 1) l.length)) (Q := Q) fun σ' S' a' W' hst hlat =>
      evOps_wp hX hcall l (k + 1) A1 H1 A' H' σ' S' W' a' (fun j => by have := hl (j + 1); simpa [Nat.add_assoc, Nat.add_comm 1 j] using this) he hst fun σ2 S2 a2 W2 hst2 hlat2 => hQ σ2 S2 a2 W2 hst2 (hlat.trans hlat2)
    split at this
    · rename_i hw
      rw [if_pos hw]
      exact .inl this
    · rename_i hw
      rw [if_neg hw]
      exact this
end
end
end Go.Proofs.YtnckhmfajjcgpaaGreatDoor.Ev
namespace Go.Proofs.YtnckhmfajjcgpaaGreatDoor.Ev
noncomputable section
section
variable {P : Program} {X : Tab}
def toExit : AExit → Exit
  | .normal => .normal
  | .exit id => .exit id
  | .ret => .ret
/-- what is asked of what follows -/
def Post (tl : List Deferred) (H0 : AH) (σ : Ren) (S : Ids) (W : World) (B : Nat) (x : AExit) (A' : AAct) (H' : AH) (Q : Exit → Act → World → Prop) : Prop :=
  ∀ σ' S' a' W', St tl σ' S' H' W' B A' a' → Later σ S H0.next W σ' S' H'.next W' → Q (toExit x) a' W'
theorem cond_eval {σ : Ren} {S : Ids} {A : AAct} {a : Act} (h : ActR σ S A a) {b : Operand} {t : Bool} (he : A.env b = some (.bool t)) : a.eval b = .bool t := by
  have := h.env b _ he
  generalize a.eval b = u at this
  cases this
  rfl
/-- whatever order is drawn -/
def DrawOk (P : Program) (X : Tab) (call : ACall) : Prop := ∀ (ops : Array Oper) (A : AAct) (H : AH) (A' : AAct) (H' : AH), evDraw P X call ops A H = some (A', H') → ∀ (tl : List Deferred) (σ : Ren) (S : Ids) (W : World) (B : Nat) (a : Act) (Q : Exit → Act → World → Prop), St tl σ S H W B A a →
  Post tl H σ S W B .normal A' H' Q → ∀ t, wpOps P ops Q (Region.schedule (P.follows .mixedOrders) ops t) a { W with drawn := W.drawn + 1 }
/-- an operation that is no defer statement -/
def ndOp (o : Oper) : Bool := match o.op with
  | .defer _ => false
  | _ => true
/-- code without defer statements -/
def nd : Code → Bool
  | .region _ ops _ => ops.toList.all ndOp
  | .seq x y => nd x && nd y
  | .cond _ x y => nd x && nd y
  | .block _ x => nd x
  | .loop x => nd x
  | .rangeFunc _ _ x y => nd x && nd y
  | .scope x => nd x
  | _ => true
def WF (r : Option Nat) : Fence := { Fence.wide with round := r }
theorem WF_room (r : Option Nat) (k : Nat) : (WF r).room k := fun _ h => by simp [WF, Fence.wide] at h
theorem callsIn_WF {r : Option Nat} {n : Nat} {f : FuncId} {args : Array Value} {w : World} {R : Ending → World → Prop} (h : Calls P f args w R) : CallsIn (WF r) n P f args w R := callsIn_wide.2 h
theorem upon_WF {r : Option Nat} {n : Nat} {o : Oper} {a : Act} {next next' : Act → World → Prop} {Q : Exit → Act → World → Prop} (hn : ∀ a w, next a w → next' a w) : ∀ x : Result Next, o.upon P a next Q x → o.uponIn (WF r) n P a next' Q x
  | .ok (.value v) w', h => hn _ _ h
  | .ok .skip w', h => hn _ _ h
  | .ok (.defer d) w', h => hn _ _ h
  | .ok (.enter f args) w', h => ⟨fun h => by simp [WF, Fence.wide] at h, callsIn_WF (h.mono fun e w'' he => by
      cases e with
      | returned v => exact hn _ _ he
      | panicked c => exact he
      | outgrown => exact he)⟩
  | .ok (.row row args) w', h => by
      refine ⟨fun h => by simp [WF, Fence.wide] at h, fun c cs _ => ?_⟩
      obtain ⟨v, w1, h1, h2⟩ := h c cs
      exact ⟨v, w1, hn _ _ h1, (StepsIn.of_steps h2).mono fun m _ => fenced_wide P m⟩
  | .halt (.panic v) w', h => h
  | .ok (.callThen ..) _, h => h.elim
  | .ok (.round ..) _, h => h.elim
  | .ok (.stack ..) _, h => h.elim
  | .ok .recover _, h => h.elim
theorem oper_WF {r : Option Nat} {n : Nat} {o : Oper} {a : Act} {w : World} {K K' : Act → World → Prop} {Q : Exit → Act → World → Prop} (hr : r = none ∨ ndOp o = true) (hK : ∀ a w, K a w → K' a w) (h : o.wp P a w K Q) : o.wpIn (WF r) n P a w K' Q := by
  refine ⟨fun _ _ => trivial, ?_⟩
  have e : o.semAt (WF r).round a.eval = execOp a.eval o := by
    rcases hr with rfl | hr
    · rfl
    · refine Oper.semAt_eq _ _ _ fun c hc => ?_
      simp [ndOp, hc] at hr
  rw [e]
  exact upon_WF hK _ h
theorem ops_WF {r : Option Nat} {n : Nat} {ops : Array Oper} {Q : Exit → Act → World → Prop} (hL : ¬ LetsOut Q) (hr : r = none ∨ ops.toList.all ndOp = true) : ∀ (l : List Nat) (a : Act) (w : World), wpOps P ops Q l a w → wpOpsIn (WF r) n P ops Q l a w
  | [], a, w, h => h
  | i :: l, a, w, h => by
    unfold wpOps at h
    unfold wpOpsIn
    cases ho : ops[i]? with
    | none => rw [ho] at h; exact ops_WF hL hr l a w h
    | some o =>
      rw [ho] at h
      simp only at h ⊢
      have hro : r = none ∨ ndOp o = true := hr.imp id fun h1 => List.all_eq_true.1 h1 o (by rw [← Array.getElem?_toList] at ho; exact List.mem_of_getElem? ho)
      split
      · rename_i hw
        rw [if_pos hw] at h
        rcases h with h | h
        · exact oper_WF hro (fun a w => ops_WF hL hr l a w) h
        · exact absurd h.2 hL
      · rename_i hw
        rw [if_neg hw] at h
        exact ⟨fun _ _ => trivial, ops_WF hL hr l _ w h⟩
/-- Q, at a normal end alone -/
def NQ (Q : Exit → Act → World → Prop) : Exit → Act → World → Prop
  | .normal, a, w => Q .normal a w
  | _, _, _ => False
theorem NQ_imp {Q : Exit → Act → World → Prop} : ∀ (e : Exit) (a : Act) (w : World), NQ Q e a w → Q e a w
  | .normal, _, _, h => h
  | .exit _, _, _, h => h.elim
  | .goto _, _, _, h => h.elim
  | .ret, _, _, h => h.elim
  | .panic _, _, _, h => h.elim
  | .outgrown, _, _, h => h.elim
theorem NQ_out {Q : Exit → Act → World → Prop} : ¬ LetsOut (NQ Q) := fun ⟨_, _, h⟩ => h
/-- a loop that is entered, or goes on, in whatever frame -/
def LoopIn (r : Option Nat) (n : Nat) (P : Program) (c : Code) (Q : Exit → Act → World → Prop) (a : Act) (w : World) : Prop :=
  ∀ (b : Frame) (k : List Item) (cs : List Frame), b.roundOf = r → ∃ e a' w', Q e a' w' ∧ ArrivesIn (Machine.fenced P (WF r)) P (lone (b.atR a (.code c :: .inLoop c :: k)) cs w) b k cs e a' w'
theorem wf_calm {r : Option Nat} {m : Machine} : m.fenced P (WF r) := fenced_wide P m
theorem wpIn_of_loop {r : Option Nat} {n : Nat} {c : Code} {Q : Exit → Act → World → Prop} {a : Act} {w : World} (h : LoopIn r n P c Q a w) : (Code.loop c).wpIn (WF r) n P Q a w := by
  intro b k cs hro hb hr
  obtain ⟨e, a', w', hq, harr⟩ := h b k cs hro
  exact ⟨e, a', w', hq, .of_steps (.one wf_calm stepR_loop) harr⟩
theorem loopIn_round {r : Option Nat} {n : Nat} {c : Code} {Q : Exit → Act → World → Prop} {a : Act} {w : World} (h : c.wpIn (WF r) n P (Exit.then (LoopIn r n P c Q) Q) a w) : LoopIn r n P c Q a w := by
  intro b k cs hro
  obtain ⟨e, a₁, w₁, hq, harr⟩ := h b (.inLoop c :: k) cs hro trivial (WF_room _ _)
  cases e with
  | normal =>
    obtain ⟨e₂, a₂, w₂, hq₂, harr₂⟩ := hq b k cs hro
    exact ⟨e₂, a₂, w₂, hq₂, .of_steps (StepsIn.trans harr (.one wf_calm stepR_inLoop)) harr₂⟩
  | exit id => exact ⟨_, a₁, w₁, hq, .pass (x := .inLoop c) rfl (fun _ _ => .inl (by simp)) harr⟩
  | goto l => exact ⟨_, a₁, w₁, hq, .pass (x := .inLoop c) rfl (fun _ _ => .inl (by simp)) harr⟩
  | ret => exact ⟨_, a₁, w₁, hq, .pass (x := .inLoop c) rfl (fun _ _ => .inl (by simp)) harr⟩
  | panic ch => exact ⟨_, a₁, w₁, hq, .pass (x := .inLoop c) rfl (fun _ _ => .inl (by simp)) harr⟩
  | outgrown => exact ⟨_, a₁, w₁, hq, .pass (x := .inLoop c) rfl (fun _ _ => .inl (by simp)) harr⟩
theorem Post.later {tl : List Deferred} {H0 H1 : AH} {σ σ1 : Ren} {S S1 : Ids} {W W1 : World} {B : Nat} {x : AExit} {A' : AAct} {H' : AH} {Q : Exit → Act → World → Prop} (h : Post tl H0 σ S W B x A' H' Q) (l : Later σ S H0.next W σ1 S1 H1.next W1) : Post tl H1 σ1 S1 W1 B x A' H' Q :=
  fun σ' S' a' W' hst hl => h σ' S' a' W' hst (l.trans hl)
theorem evCode_wpIn (hX : TabOk P X) {call : ACall} (hcall : CallOk P call) (hdraw : DrawOk P X call) (r : Option Nat) (dep : Nat) : ∀ n : Nat,
    (∀ (c : Code) (A : AAct) (H : AH) (x : AExit) (A' : AAct) (H' : AH), evCode P X call n c A H = some (x, A', H') → (r = none ∨ nd c = true) → ∀ (tl : List Deferred) (σ : Ren) (S : Ids) (W : World) (B : Nat) (a : Act) (Q : Exit → Act → World → Prop), St tl σ S H W B A a → Post tl H σ S W B x A' H' Q → c.wpIn (WF r) dep P Q a W) ∧
    (∀ (c : Code) (A : AAct) (H : AH) (x : AExit) (A' : AAct) (H' : AH), evCode P X call n (.loop c) A H = some (x, A', H') → (r = none ∨ nd c = true) → ∀ (tl : List Deferred) (σ : Ren) (S : Ids) (W : World) (B : Nat) (a : Act) (Q : Exit → Act → World → Prop), St tl σ S H W B A a → Post tl H σ S W B x A' H' Q → LoopIn r dep P c Q a W) := by
  intro n
  induction n with
  | zero => exact ⟨fun c A H x A' H' he => by simp [evCode] at he, fun c A H x A' H' he => by simp [evCode] at he⟩
  | succ n ih =>
    obtain ⟨ih1, ih2⟩ := ih
    have loop : ∀ (c : Code) (A : AAct) (H : AH) (x : AExit) (A' : AAct) (H' : AH), evCode P X call (n + 1) (.loop c) A H = some (x, A', H') → (r = none ∨ nd c = true) → ∀ (tl : List Deferred) (σ : Ren) (S : Ids) (W : World) (B : Nat) (a : Act) (Q : Exit → Act → World → Prop), St tl σ S H W B A a → Post tl H σ S W B x A' H' Q → LoopIn r dep P c Q a W := by
      intro c A H x A' H' he hr tl σ S W B a Q h hQ
      simp only [evCode] at he
      refine loopIn_round ?_
      split at he
      · rename_i A1 H1 h1
        exact ih1 c A H .normal A1 H1 h1 hr tl σ S W B a _ h fun σ' S' a' W' hst hl => ih2 c A1 H1 x A' H' he hr tl σ' S' W' B a' Q hst (hQ.later hl)
      · rename_i r0 hr0
        refine ih1 c A H x A' H' he hr tl σ S W B a _ h fun σ' S' a' W' hst hl => ?_
        have := hQ σ' S' a' W' hst hl
        cases x with
        | normal => exact (hr0 A' H' he).elim
        | exit id => exact this
        | ret => exact this
    refine ⟨?_, loop⟩
    intro c A H x A' H' he hr tl σ S W B a Q h hQ
    cases c with
    | skip =>
      simp only [evCode] at he
      injection he with he
      injection he with h1 h2
      injection h2 with h2 h3
      subst h1 h2 h3
      exact wpIn_skip (hQ σ S a W h h.refl)
    | label l =>
      simp only [evCode] at he
      injection he with he
      injection he with h1 h2
      injection h2 with h2 h3
      subst h1 h2 h3
      exact wpIn_label (hQ σ S a W h h.refl)
    | exit id =>
      simp only [evCode] at he
      injection he with he
      injection he with h1 h2
      injection h2 with h2 h3
      subst h1 h2 h3
      exact wpIn_exit (hQ σ S a W h h.refl)
    | ret =>
      simp only [evCode] at he
      injection he with he
      injection he with h1 h2
      injection h2 with h2 h3
      subst h1 h2 h3
      exact wpIn_ret (hQ σ S a W h h.refl)
    | region id ops draw =>
      simp only [evCode] at he
      split at he
      case h_2 => cases he
      rename_i A1 H1 h1
      injection he with he
      injection he with h2 h3
      injection h3 with h3 h4
      subst h2 h3 h4
      cases draw with
      | true =>
        refine wpIn_mono (wpIn_region_draw fun t => ops_WF NQ_out hr _ _ _ (hdraw ops A H A1 H1 h1 tl σ S W B a (NQ Q) h hQ t)) NQ_imp
      | false =>
        refine wpIn_mono (wpIn_region (ops_WF NQ_out hr _ _ _ ?_)) NQ_imp
        rw [List.range_eq_range']
        have := evOps_wp hX hcall (ops := ops) (B := B) (Q := NQ Q) ops.toList 0 A H A1 H1 σ S W a (by simp) h1 h hQ
        simpa using this
    | seq y z =>
      have hr1 : r = none ∨ nd y = true := hr.imp id fun h1 => (Bool.and_eq_true_iff.1 h1).1
      have hr2 : r = none ∨ nd z = true := hr.imp id fun h1 => (Bool.and_eq_true_iff.1 h1).2
      simp only [evCode] at he
      refine wpIn_seq ?_
      split at he
      · rename_i A1 H1 h1
        exact ih1 y A H .normal A1 H1 h1 hr1 tl σ S W B a _ h fun σ' S' a' W' hst hl => ih1 z A1 H1 x A' H' he hr2 tl σ' S' W' B a' Q hst (hQ.later hl)
      · rename_i r0 hr0
        refine ih1 y A H x A' H' he hr1 tl σ S W B a _ h fun σ' S' a' W' hst hl => ?_
        have := hQ σ' S' a' W' hst hl
        cases x with
        | normal => exact (hr0 A' H' he).elim
        | exit id => exact this
        | ret => exact this
    | cond b y z =>
      have hr1 : r = none ∨ nd y = true := hr.imp id fun h1 => (Bool.and_eq_true_iff.1 h1).1
      have hr2 : r = none ∨ nd z = true := hr.imp id fun h1 => (Bool.and_eq_true_iff.1 h1).2
      simp only [evCode] at he
      split at he
      · rename_i hb
        exact wpIn_cond_true (cond_eval h.act hb) (ih1 y A H x A' H' he hr1 tl σ S W B a Q h hQ)
      · rename_i hb
        exact wpIn_cond_false (cond_eval h.act hb) (ih1 z A H x A' H' he hr2 tl σ S W B a Q h hQ)
      · cases he
    | block id y =>
      simp only [evCode] at he
      refine wpIn_block ?_
      split at he
      · rename_i id' A1 H1 h1
        refine ih1 y A H _ A1 H1 h1 hr tl σ S W B a _ h fun σ' S' a' W' hst hl => ?_
        cases hc : Nat.beq id' id with
        | true =>
          rw [hc] at he
          simp only [cond_true] at he
          injection he with he
          injection he with h2 h3
          injection h3 with h3 h4
          subst h2 h3 h4
          have hid : id' = id := by simpa using hc
          simp only [toExit, Exit.inBlock, hid, if_true]
          exact hQ σ' S' a' W' hst hl
        | false =>
          rw [hc] at he
          simp only [cond_false] at he
          injection he with he
          injection he with h2 h3
          injection h3 with h3 h4
          subst h2 h3 h4
          have hid : ¬ id' = id := by intro e; rw [e] at hc; simp at hc
          simp only [toExit, Exit.inBlock, hid, if_false]
          exact hQ σ' S' a' W' hst hl
      · rename_i r0 hr0
        refine ih1 y A H x A' H' he hr tl σ S W B a _ h fun σ' S' a' W' hst hl => ?_
        have := hQ σ' S' a' W' hst hl
        cases x with
        | normal => exact this
        | exit id' => exact (hr0 id' A' H' he).elim
        | ret => exact this
    | loop y => exact wpIn_of_loop (loop y A H x A' H' he hr tl σ S W B a Q h hQ)
    | rangeFunc f ps as b => simp [evCode] at he
    | scope b => simp [evCode] at he
    | goto l => simp [evCode] at he
    | refuse w => simp [evCode] at he
theorem evCode_wp (hX : TabOk P X) {call : ACall} (hcall : CallOk P call) (hdraw : DrawOk P X call) (n : Nat) (c : Code) (A : AAct) (H : AH) (x : AExit) (A' : AAct) (H' : AH) (he : evCode P X call n c A H = some (x, A', H')) (tl : List Deferred) (σ : Ren) (S : Ids) (W : World) (B : Nat) (a : Act) (Q : Exit → Act → World → Prop) (h : St tl σ S H W B A a) (hQ : Post tl H σ S W B x A' H' Q) : c.wp P Q a W :=
  wpIn_wide.1 ((evCode_wpIn hX hcall hdraw none 0 n).1 c A H x A' H' he (.inl rfl) tl σ S W B a Q h hQ)
end
end
end Go.Proofs.YtnckhmfajjcgpaaGreatDoor.Ev
namespace Go.Proofs.YtnckhmfajjcgpaaGreatDoor.Ev
noncomputable section
section
variable {P : Program} {X : Tab} {σ : Ren} {S : Ids} {H : AH} {W : World} {B : Nat}
def resF (tmps : Array Value) : ResultVar → Sem Value
  | .tmp t => pure (tmps.getD t undef)
  | .cell a t => do loadVar t (← asAddr (tmps.getD a undef))
theorem mapM_res (hX : TabOk P X) (h : Rep σ S H W B) {A : AAct} {a : Act} (hact : ActR σ S A a) : ∀ (l : List ResultVar) (vs : List Value), aresults X H A l = some vs → ∃ vs', (l.mapM (resF a.tmps)).run P W = .ok vs' W ∧ VRs σ S vs vs'
  | [], vs, he => by
    simp only [aresults] at he
    injection he with he
    subst he
    exact ⟨[], rfl, .nil⟩
  | .tmp t :: l, vs, he => by
    simp only [aresults, Option.bind_eq_some_iff] at he
    obtain ⟨r, h1, h2⟩ := he
    injection h2 with h2
    subst h2
    obtain ⟨vs', k1, k2⟩ := mapM_res hX h hact l r h1
    refine ⟨a.tmps.getD t undef :: vs', ?_, .cons _ _ _ _ (hact.at_ t) k2⟩
    rw [List.mapM_cons]
    simp only [resF, Sem.run_bind, Sem.run_pure, Result.andThen_ok, k1]
  | .cell p t :: l, vs, he => by
    simp only [aresults, Option.bind_eq_some_iff] at he
    obtain ⟨v, h1, r, h2, h3⟩ := he
    injection h3 with h3
    subst h3
    obtain ⟨vs', k1, k2⟩ := mapM_res hX h hact l r h2
    obtain ⟨a', r', e1, e2, e3⟩ := loadVar_sound hX h (hact.at_ p) h1
    refine ⟨r' :: vs', ?_, .cons _ _ _ _ e3 k2⟩
    rw [List.mapM_cons]
    simp only [resF, e1, asAddr, Sem.run_bind, Sem.run_pure, Result.andThen_ok, e2, k1]
theorem results_sound (hX : TabOk P X) (h : Rep σ S H W B) {A : AAct} {a : Act} (hact : ActR σ S A a) {fn : Func} {vs : List Value} (he : aresults X H A fn.results.toList = some vs) : ∃ v', (results fn a.tmps).run P W = .ok v' W ∧ VR σ S (result vs) v' := by
  obtain ⟨vs', k1, k2⟩ := mapM_res hX h hact _ _ he
  have hm : (fn.results.mapM (resF a.tmps)).run P W = .ok vs'.toArray W := by
    rw [Array.mapM_eq_mapM_toList]
    simp only [map_eq_pure_bind, Sem.run_bind, k1, Result.andThen_ok, Sem.run_pure]
  have hr : results fn a.tmps = (do
    let vs ← fn.results.mapM (resF a.tmps)
    pure (if h : vs.size = 1 then vs[0] else .tuple vs)) := rfl
  rw [hr, Sem.run_bind, hm]
  simp only [Result.andThen_ok, Sem.run_pure]
  rcases vs with _ | ⟨v, _ | ⟨u, l⟩⟩
  · cases k2
    exact ⟨.tuple #[], rfl, .tuple _ _ .nil⟩
  · cases k2 with
    | cons _ v' _ l' h1 t =>
      cases t
      exact ⟨v', rfl, h1⟩
  · refine ⟨.tuple vs'.toArray, ?_, .tuple _ _ (by simpa using k2)⟩
    have hl := k2.length
    rw [dif_neg (by simp only [List.size_toArray]; rw [← hl]; simp)]
theorem layArgs_get : ∀ (l : List Value) (i : Nat) (t : T Value) (j : Nat), i + l.length < 16777215 → (layArgs l i t).get j = if i ≤ j ∧ j < i + l.length then l[j - i]? else t.get j
  | [], i, t, j, _ => by simp only [layArgs, List.length_nil]; rw [if_neg (by omega)]
  | v :: l, i, t, j, h => by
    simp only [List.length_cons] at h
    simp only [layArgs]
    rw [layArgs_get l (i + 1) _ j (by omega), T.get_set _ _ _ _ (by omega)]
    simp only [List.length_cons]
    by_cases h1 : i + 1 ≤ j ∧ j < i + 1 + l.length
    · rw [if_pos h1, if_pos (by omega), show j - i = (j - (i + 1)) + 1 from by omega]
      simp
    · rw [if_neg h1]
      by_cases h2 : j = i
      · subst h2
        rw [if_pos rfl, if_pos (by omega)]
        simp
      · rw [if_neg h2, if_neg (by omega)]
theorem enter_act {fn : Func} {args args' : Array Value} (hv : VRs σ S args.toList args'.toList) (hs : args.size < 1000000) : ActR σ S (enter fn args) { tmps := args' ++ Array.replicate (fn.ntmps - args'.size) undef, defers := [] } := by
  have hsz := size_vr hv
  refine ⟨by simp only [enter, Array.size_append, Array.size_replicate]; rw [show fn.ntmps.max args.size = max fn.ntmps args.size from rfl]; omega, fun t => ?_⟩
  have hg := layArgs_get args.toList 0 .lf t (by simp; omega)
  simp only [AAct.at_, enter, hg, Nat.sub_zero, Nat.zero_add, Nat.zero_le, true_and, Array.length_toList]
  rw [Array.getD_eq_getD_getElem?]
  by_cases ht : t < args.size
  · rw [if_pos ht, Array.getElem?_append_left (by rw [hsz]; exact ht)]
    rw [Array.getElem?_toList, Array.getElem?_eq_getElem ht]
    obtain ⟨v', h1, h2⟩ := hv.get (i := t) (v := args[t]) (by rw [Array.getElem?_toList, Array.getElem?_eq_getElem ht])
    rw [Array.getElem?_toList] at h1
    rw [h1]
    exact h2
  · rw [if_neg ht]
    simp only [T.get_lf]
    rw [Array.getElem?_append_right (by omega)]
    rw [Array.getElem?_replicate]
    split <;> exact undef_vr
/-- a deferred function's code, where nothing panics -/
def PostS (H0 : AH) (σ : Ren) (S : Ids) (W : World) (B : Nat) (cs : List Frame) (x : AExit) (A' : AAct) (H' : AH) (Q : Exit → Act → List Frame → World → Prop) : Prop :=
  ∀ σ' S' a' W', St [] σ' S' H' W' B A' a' → Later σ S H0.next W σ' S' H'.next W' → Q (toExit x) a' cs W'
theorem evOpsD_wp (hX : TabOk P X) {call : ACall} (hcall : CallOk P call) {ops : Array Oper} {B : Nat} {cs : List Frame} (hcs : recoverD cs = none) {Q : Exit → Act → List Frame → World → Prop} : ∀ (l : List Oper) (k : Nat) (A : AAct) (H : AH) (A' : AAct) (H' : AH) (σ : Ren) (S : Ids) (W : World) (a : Act), (∀ j, l[j]? = ops[k + j]?) → evOpsD P X call ops.toList l A H = some (A', H') → St [] σ S H W B A a →
    (∀ σ' S' a' W', St [] σ' S' H' W' B A' a' → Later σ S H.next W σ' S' H'.next W' → Q .normal a' cs W') → wpOpsS P ops Q (List.range' k l.length) a cs W
  | [], k, A, H, A', H', σ, S, W, a, _, he, h, hQ => by
    simp only [evOpsD] at he
    injection he with he
    injection he with he he2
    subst he he2
    exact hQ σ S a W h h.refl
  | o :: l, k, A, H, A', H', σ, S, W, a, hl, he, h, hQ => by
    have h0 : ops[k]? = some o := by simpa using (hl 0).symm
    have hl' : ∀ j, l[j]? = ops[k + 1 + j]? := fun j => by have := hl (j + 1); simpa [Nat.add_assoc, Nat.add_comm 1 j] using this
    simp only [List.length_cons, List.range'_succ, wpOpsS, h0]
    have plain : ∀ (A1 : AAct) (H1 : AH), evOp P X call ops.toList o A H = some (A1, H1) → evOpsD P X call ops.toList l A1 H1 = some (A', H') →
        (if Region.wanted o (yielded ops a.tmps) then match (execOp a.eval o).run P W with
          | .ok .recover w' => match recoverD cs with
            | some (v, cs') => wpOpsS P ops Q (List.range' (k + 1) l.length) (a.put o.dst v) cs' w'
            | none => wpOpsS P ops Q (List.range' (k + 1) l.length) (a.put o.dst .nilIface) cs w'
          | r => o.upon P a (fun a' w' => wpOpsS P ops Q (List.range' (k + 1) l.length) a' cs w') (fun e a' w' => Q e a' cs w') r
        else wpOpsS P ops Q (List.range' (k + 1) l.length) (a.put o.dst undef) cs W) := by
      intro A1 H1 h1 h2
      have := evOp_wp hX hcall h1 h (K := fun a' w' => wpOpsS P ops Q (List.range' (k + 1) l.length) a' cs w') (Q := fun e a' w' => Q e a' cs w') fun σ' S' a' W' hst hlat =>
        evOpsD_wp hX hcall hcs l (k + 1) A1 H1 A' H' σ' S' W' a' hl' h2 hst fun σ2 S2 a2 W2 hst2 hlat2 => hQ σ2 S2 a2 W2 hst2 (hlat.trans hlat2)
      split at this
      · rename_i hw
        rw [if_pos hw]
        unfold Oper.wp at this
        generalize (execOp a.eval o).run P W = r at this ⊢
        cases r with
        | halt x w' => exact this
        | ok n w' =>
          cases n <;> first
            | exact this
            | (simp only [Oper.upon] at this)
      · rename_i hw
        rw [if_neg hw]
        exact this
    unfold evOpsD at he
    split at he
    · rename_i c hop
      split at he
      · rename_i hc
        cases hw : (awanted ops.toList A o && Nat.beq c.args.size 0) with
        | false => rw [hw] at he; cases he
        | true =>
          rw [hw] at he
          simp only [cond_true, Option.bind_eq_some_iff] at he
          obtain ⟨A1, h1, h2⟩ := he
          simp only [Bool.and_eq_true] at hw
          have hwr : Region.wanted o (yielded ops a.tmps) = true := by rw [← wanted_eq h.act]; exact hw.1
          rw [if_pos hwr]
          have hrun : (execOp a.eval o).run P W = .ok .recover W := by
            unfold execOp
            rw [hop]
            simp only [resolve, hc]
            rfl
          rw [hrun]
          simp only [hcs]
          obtain ⟨p1, p2, p3⟩ := h.act.put (v := .nilIface) (v' := .nilIface) .nilIface h1
          refine evOpsD_wp hX hcall hcs l (k + 1) A1 H A' H' σ S W _ hl' h2 ⟨h.rep, h.free, h.base, p1, ?_⟩ hQ
          rw [p2]
          cases o.dst <;> exact h.defs
      · split at he
        · rename_i A1 H1 h1
          exact plain A1 H1 h1 he
        · cases he
    · split at he
      · rename_i A1 H1 h1
        exact plain A1 H1 h1 he
      · cases he
theorem evCodeD_wp (hX : TabOk P X) {call : ACall} (hcall : CallOk P call) (hdraw : DrawOk P X call) {cs : List Frame} (hcs : recoverD cs = none) : ∀ (n : Nat) (c : Code) (A : AAct) (H : AH) (x : AExit) (A' : AAct) (H' : AH), evCodeD P X call n c A H = some (x, A', H') →
    ∀ (σ : Ren) (S : Ids) (W : World) (B : Nat) (a : Act) (Q : Exit → Act → List Frame → World → Prop), St [] σ S H W B A a → PostS H σ S W B cs x A' H' Q → c.wpS P Q a cs W := by
  intro n
  induction n with
  | zero => intro c A H x A' H' he; simp [evCodeD] at he
  | succ n ih =>
    intro c A H x A' H' he σ S W B a Q h hQ
    unfold evCodeD at he
    split at he
    · rename_i id ops
      split at he
      case h_2 => cases he
      rename_i A1 H1 h1
      injection he with he
      injection he with h2 h3
      injection h3 with h3 h4
      subst h2 h3 h4
      refine wpS_region ?_
      rw [List.range_eq_range']
      have := evOpsD_wp hX hcall hcs (ops := ops) (B := B) (Q := Q) ops.toList 0 A H A1 H1 σ S W a (by simp) h1 h hQ
      simpa using this
    · rename_i y z
      refine wpS_seq ?_
      split at he
      · rename_i A1 H1 h1
        exact ih y A H .normal A1 H1 h1 σ S W B a _ h fun σ' S' a' W' hst hl => ih z A1 H1 x A' H' he σ' S' W' B a' Q hst fun σ2 S2 a2 W2 hst2 hl2 => hQ σ2 S2 a2 W2 hst2 (hl.trans hl2)
      · rename_i r hr
        refine ih y A H x A' H' he σ S W B a _ h fun σ' S' a' W' hst hl => ?_
        have := hQ σ' S' a' W' hst hl
        cases x with
        | normal => exact (hr A' H' he).elim
        | exit id => exact this
        | ret => exact this
    · rename_i b y z
      split at he
      · rename_i hb
        exact wpS_cond (t := true) (cond_eval h.act hb) (ih y A H x A' H' he σ S W B a Q h hQ)
      · rename_i hb
        exact wpS_cond (t := false) (cond_eval h.act hb) (ih z A H x A' H' he σ S W B a Q h hQ)
      · cases he
    · exact wpS_of_wp (evCode_wp hX hcall hdraw n _ A H x A' H' he [] σ S W B a _ h hQ)
theorem enter_st {fn : Func} {args args' : Array Value} (h : Rep σ S H W B) (hf : Free S H.next) (hB : B ≤ W.heap.size) (hv : VRs σ S args.toList args'.toList) (hs : args.size < 1000000) :
    St [] σ S H W B (enter fn args) { tmps := args' ++ Array.replicate (fn.ntmps - args'.size) undef, defers := [] } := ⟨h, hf, hB, enter_act hv hs, .nil⟩
theorem settle_ret : settle .returning = .returning := rfl
theorem evDefs_sound (hX : TabOk P X) {call : ACall} (hcall : CallOk P call) (hdraw : DrawOk P X call) {lf : Nat} {fn0 : Func} {tmps : Array Value} {R : Ending → World → Prop} : ∀ (ds : List ADef) (H H' : AH) (ds' : List Deferred) (σ : Ren) (S : Ids) (W : World) (B : Nat), evDefs P X call lf ds H = some H' → Rep σ S H W B → Free S H.next → B ≤ W.heap.size → DRs [] σ S ds ds' →
    (∀ σ' S' W', Rep σ' S' H' W' B → Free S' H'.next → B ≤ W'.heap.size → Later σ S H.next W σ' S' H'.next W' → Leaves P fn0 tmps R [] .returning W') → Leaves P fn0 tmps R ds' .returning W
  | [], H, H', ds', σ, S, W, B, he, h, hf, hB, hd, hR => by
    cases hd
    simp only [evDefs] at he
    injection he with he
    subst he
    exact hR σ S W h hf hB ⟨h.refl, Taken.refl _ _⟩
  | d :: ds, H, H', ds', σ, S, W, B, he, h, hf, hB, hd, hR => by
    cases hd with
    | cons _ d' _ l' cap' h1 h2 h3 t =>
      simp only [evDefs, Option.bind_eq_some_iff] at he
      obtain ⟨fn, k1, k2⟩ := he
      split at k2
      case h_1 => cases k2
      rename_i body hbody
      cases hsz : Nat.blt (d.args ++ d.cap).size 1000000 with
      | false => rw [hsz] at k2; cases k2
      | true =>
        rw [hsz] at k2
        simp only [cond_true] at k2
        split at k2
        case h_2 => cases k2
        rename_i v H1 hl
        have hargs : VRs σ S (d.args ++ d.cap).toList (d'.args ++ cap').toList := by
          simp only [Array.toList_append]
          exact h3.append h2
        obtain ⟨hfn, hrun⟩ := hX.fn d.f fn k1
        refine ⟨fun e => (by cases e), .func d.f, cap', d.f, d'.args ++ cap', h1, ?_, ?_⟩
        · rw [h1]
          exact hrun _ W
        · refine callsD_of_wpS hfn hbody fun c₀ cs hu => ?_
          have hrec : recoverD (c₀ :: cs) = none := by simp [recoverD, hu]
          have hst := enter_st (fn := fn) h hf hB hargs (by simpa using hsz)
          have fin : ∀ (x : AExit) (A1 : AAct), (x = .normal ∨ x = .ret) → evCodeD P X call lf body (enter fn (d.args ++ d.cap)) H = some (x, A1, H1) → A1.defers = [] → ∀ vs, aresults X H1 A1 fn.results.toList = some vs →
              body.wpS P (bodyPostS P fn c₀ cs (fun
                | .returned _, u', w' => Leaves P fn0 tmps R l' (settle u') w'
                | .panicked chain, u', w' => Leaves P fn0 tmps R l' (raised u' chain) w'
                | .outgrown, _, w' => R .outgrown w')) { tmps := (d'.args ++ cap') ++ Array.replicate (fn.ntmps - (d'.args ++ cap').size) undef, defers := [] } (c₀ :: cs) W := by
            intro x A1 hx he1 hd1 vs hvs
            refine evCodeD_wp hX hcall hdraw hrec lf body _ H x A1 H1 he1 σ S W B _ _ hst fun σ' S' a' W' hst' hl' => ?_
            obtain ⟨v', r1, r2⟩ := results_sound hX hst'.rep hst'.act hvs
            have hdf : a'.defers = [] := by
              have := hst'.defs
              rw [hd1] at this
              cases hq : a'.defers with
              | nil => rfl
              | cons y l => rw [hq] at this; cases this
            have hc0 : ({ c₀ with mode := .returning } : Frame) = c₀ := by rw [← hu]
            have hpost : a'.defers = [] ∧ ∃ u', (c₀ :: cs) = { c₀ with mode := u' } :: cs ∧ ∃ v, (results fn a'.tmps).run P W' = .ok v W' ∧ Leaves P fn0 tmps R l' (settle u') W' :=
              ⟨hdf, .returning, by rw [hc0], v', r1, evDefs_sound hX hcall hdraw ds H1 H' l' σ' S' W' B k2 hst'.rep hst'.free hst'.base (t.ext hl'.evo.ext) fun σ2 S2 W2 q1 q2 q3 q4 => hR σ2 S2 W2 q1 q2 q3 (hl'.trans q4)⟩
            rcases hx with rfl | rfl
            · exact hpost
            · exact hpost
          unfold leaveD at hl
          split at hl
          · rename_i A1 H2 he1
            split at hl
            · rename_i hd1
              rw [Option.bind_eq_some_iff] at hl
              obtain ⟨vs, q1, q2⟩ := hl
              injection q2 with q2
              injection q2 with q2 q3
              subst q3
              exact fin .normal A1 (.inl rfl) he1 hd1 vs q1
            · cases hl
          · rename_i A1 H2 he1
            split at hl
            · rename_i hd1
              rw [Option.bind_eq_some_iff] at hl
              obtain ⟨vs, q1, q2⟩ := hl
              injection q2 with q2
              injection q2 with q2 q3
              subst q3
              exact fin .ret A1 (.inr rfl) he1 hd1 vs q1
            · cases hl
          · cases hl
/-- one call, its own calls by another -/
def evCall1 (P : Program) (X : Tab) (call : ACall) (lf : Nat) : ACall := fun f args H => (X.fn f).bind fun fn => match fn.body with
    | none => none
    | some body => cond (Nat.blt args.size 1000000) (match evCode P X call lf body (enter fn args) H with
      | some (.normal, a, H') => leave P X call lf fn a H'
      | some (.ret, a, H') => leave P X call lf fn a H'
      | _ => none) none
theorem evCall1_ok (hX : TabOk P X) {lf : Nat} {call : ACall} (ih : CallOk P call) (hdr : DrawOk P X call) {f : FuncId} {args : Array Value} {H H' : AH} {v : Value} (he : evCall1 P X call lf f args H = some (v, H')) {σ : Ren} {S : Ids} {W : World} {B : Nat} {args' : Array Value} (h : Rep σ S H W B) (hf : Free S H.next) (hB : B ≤ W.heap.size) (hv : VRs σ S args.toList args'.toList) :
    Calls P f args' W fun e W' => ∃ (σ' : Ren) (S' : Ids) (v' : Value), e = .returned v' ∧ VR σ' S' v v' ∧ Rep σ' S' H' W' B ∧ Later σ S H.next W σ' S' H'.next W' := by
  simp only [evCall1, Option.bind_eq_some_iff] at he
  obtain ⟨fn, k1, k2⟩ := he
  split at k2
  case h_1 => cases k2
  rename_i body hbody
  cases hsz : Nat.blt args.size 1000000 with
  | false => rw [hsz] at k2; cases k2
  | true =>
    rw [hsz] at k2
    simp only [cond_true] at k2
    have hst := enter_st (fn := fn) h hf hB hv (by simpa using hsz)
    refine calls_of_wp_defers (hX.fn f fn k1).1 hbody ?_
    have fin : ∀ (x : AExit) (A1 : AAct) (H1 : AH), (x = .normal ∨ x = .ret) → evCode P X call lf body (enter fn args) H = some (x, A1, H1) → leave P X call lf fn A1 H1 = some (v, H') →
        body.wp P (bodyPostD P fn fun e W' => ∃ (σ' : Ren) (S' : Ids) (v' : Value), e = .returned v' ∧ VR σ' S' v v' ∧ Rep σ' S' H' W' B ∧ Later σ S H.next W σ' S' H'.next W') { tmps := args' ++ Array.replicate (fn.ntmps - args'.size) undef, defers := [] } W := by
      intro x A1 H1 hx he1 hl
      refine evCode_wp hX ih hdr lf body _ H x A1 H1 he1 [] σ S W B _ _ hst fun σ' S' a' W' hst' hl' => ?_
      unfold leave at hl
      rw [Option.bind_eq_some_iff] at hl
      obtain ⟨H2, q1, q2⟩ := hl
      rw [Option.bind_eq_some_iff] at q2
      obtain ⟨vs, q3, q4⟩ := q2
      injection q4 with q4
      injection q4 with q4 q5
      subst q4 q5
      have hleave : Leaves P fn a'.tmps (fun e W' => ∃ (σ' : Ren) (S' : Ids) (v' : Value), e = .returned v' ∧ VR σ' S' (result vs) v' ∧ Rep σ' S' H2 W' B ∧ Later σ S H.next W σ' S' H2.next W') a'.defers .returning W' :=
        evDefs_sound hX ih hdr A1.defers H1 H2 a'.defers σ' S' W' B q1 hst'.rep hst'.free hst'.base hst'.defs fun σ2 S2 W2 r1 r2 r3 r4 => by
          obtain ⟨v', s1, s2⟩ := results_sound hX r1 (hst'.act.ext r4.evo.ext) q3
          exact ⟨v', s1, σ2, S2, v', rfl, s2, r1, hl'.trans r4⟩
      rcases hx with rfl | rfl
      · exact hleave
      · exact hleave
    split at k2
    · rename_i A1 H1 he1
      exact fin .normal A1 H1 (.inl rfl) he1 k2
    · rename_i A1 H1 he1
      exact fin .ret A1 H1 (.inr rfl) he1 k2
    · cases k2
/-- EVERY CALL -/
theorem evCall_ok (hX : TabOk P X) (lf : Nat) (hdraw : ∀ call, CallOk P call → DrawOk P X call) : ∀ d, CallOk P (evCall P X lf d)
  | 0 => fun f args H v H' he => by simp [evCall] at he
  | d + 1 => fun f args H v H' he σ S W B args' h hf hB hv => evCall1_ok hX (evCall_ok hX lf hdraw d) (hdraw _ (evCall_ok hX lf hdraw d)) he h hf hB hv
end
end
end Go.Proofs.YtnckhmfajjcgpaaGreatDoor.Ev
