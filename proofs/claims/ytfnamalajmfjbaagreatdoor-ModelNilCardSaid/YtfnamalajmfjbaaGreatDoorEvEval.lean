/- The evaluator: operations, regions, code, calls, over the abstract heap. -/
import Derived.Test.YtfnamalajmfjbaaGreatDoorEvMisc3
import GoSem.Extern.BytealgIndexByte
set_option linter.unusedVariables false
set_option linter.unusedSimpArgs false
namespace Go.Proofs.YtfnamalajmfjbaaGreatDoor.Ev
noncomputable section
structure ADef where
  f : FuncId
  cap : Array Value
  args : Array Value
structure AAct where
  tmps : T Value
  n : Nat
  defers : List ADef
def AAct.at_ (a : AAct) (t : Nat) : Value := match a.tmps.get t with
  | some v => v
  | none => undef
def AAct.env (a : AAct) : Env
  | .tmp t => some (a.at_ t)
  | .const v => cond (flatF 8 v) (some v) none
  | .global _ => none
  | .func f => some (.func (.func f) #[] #[])
def val (v : Option Value) (H : AH) : Option (ANext × AH) := v.bind fun v => some (.value v, H)
def vals (r : Option (Value × AH)) : Option (ANext × AH) := r.bind fun (v, H) => some (.value v, H)
def unit_ (r : Option AH) : Option (ANext × AH) := r.bind fun H => some (.skip, H)
def optM (ρ : Env) : Option Operand → Option (Option Value)
  | none => some none
  | some x => (ρ x).map some
def partsM (ρ : Env) : List (Nat × Operand) → Option (List (Nat × Value))
  | [] => some []
  | (i, x) :: l => do
    let v ← ρ x
    let r ← partsM ρ l
    some ((i, v) :: r)
def argsM (ρ : Env) : List Operand → Option (List Value)
  | [] => some []
  | x :: l => do
    let v ← ρ x
    let r ← argsM ρ l
    some (v :: r)
def okNil : Value → Bool
  | .pointer (some _) => true
  | .slice _ _ _ => true
  | .map _ => true
  | .iface _ _ => true
  | .func (.func _) _ _ => true
  | .string _ => true
  | .int _ _ => true
  | .bool _ => true
  | _ => false
def abuiltin (X : Tab) (H : AH) (b : Builtin) (ts : List TypeId) (vs : List Value) : Option (ANext × AH) := match b, ts, vs with
  | .append, [t, tx], [s, x] => vals (aappend X H t tx s x)
  | .len, [t], [v] => val (alen X H t v) H
  | .copy, [t, _], [d, s] => match acopy0 X H t d s with
    | some r => vals (some r)
    | none => vals (acopy X H t d s)
  | .delete, [t, _], [m, k] => vals (adelete X H t m k)
  | _, _, _ => none
/-- a call of a function by its number -/
def acallFn (P : Program) (X : Tab) (H : AH) (g : FuncId) (vs : Array Value) : Option (ANext × AH) := match X.fn g with
  | some _ => some (.enter g vs, H)
  | none => match X.ext g with
    | some .clone => vals (aclone H vs.toList)
    | some (.plain q) => cond (vs.toList.all (flatF 8)) (match pureRun P (q vs) with
      | some r => cond (flatF 8 r) (some (.value r, H)) none
      | none => none) none
    | none => none
def acall (P : Program) (X : Tab) (H : AH) (ρ : Env) (c : Call) : Option (ANext × AH) := (argsM ρ c.args.toList).bind fun vs => match c.callee with
  | .builtin b => abuiltin X H b c.argTypes.toList vs
  | .value f => (ρ f).bind fun fv => match fv with
    | .func (.func g) first cap => acallFn P X H g (first ++ vs.toArray ++ cap)
    | _ => none
  | _ => none
def aop0 (P : Program) (X : Tab) (H : AH) (ρ : Env) (o : Oper) : Option (ANext × AH) := match o.op with
  | .move x => val (ρ x) H
  | .assign x => val (ρ x) H
  | .pick c a b => (ρ c).bind fun cv => match cv with
    | .bool true => val (ρ a) H
    | .bool false => val (ρ b) H
    | _ => none
  | .alloc e => vals (aalloc X H e)
  | .box e x => (ρ x).bind fun v => vals (abox H e v)
  | .build t parts => (partsM ρ parts.toList).bind fun ps => val (abuilt X t ps) H
  | .buildSlice t len parts => (partsM ρ parts.toList).bind fun ps => vals (abuildSlice X H t len ps)
  | .load t x => (ρ x).bind fun v => val (aload X H t v) H
  | .store t p x => (ρ p).bind fun pv => (ρ x).bind fun v => unit_ (astore X H t pv v)
  | .nilCheck x => (ρ x).bind fun v => cond (okNil v) (some (.value v, H)) none
  | .binOp op t x y _ => match aflat P ρ o with
    | some r => some (r, H)
    | none => (ρ x).bind fun a => (ρ y).bind fun b => val (anilcmp X op t a b) H
  | .makeInterface t x => (ρ x).bind fun v => val (amakeIface X t v) H
  | .makeFunc (.func f) first cap => (argsM ρ first.toList).bind fun fs => (argsM ρ cap.toList).bind fun cs => some (.value (.func (.func f) fs.toArray cs.toArray), H)
  | .makeMap _ none => vals (amakeMap H)
  | .slice t x lo hi mx => match aflat P ρ o with
    | some r => some (r, H)
    | none => (ρ x).bind fun v => (optM ρ lo).bind fun l => (optM ρ hi).bind fun h => (optM ρ mx).bind fun m => val (aslice X H t v l h m) H
  | .fieldAddr t x f => (ρ x).bind fun v => val (afieldAddr X t v f) H
  | .field t x f => (ρ x).bind fun v => val (afield X t v f) H
  | .indexAddr t x i => (ρ x).bind fun v => (ρ i).bind fun ix => val (aindexAddr X t v ix) H
  | .index t x i => match aflat P ρ o with
    | some r => some (r, H)
    | none => (ρ x).bind fun v => (ρ i).bind fun ix => val (aindex X t v ix) H
  | .lookup t m k ok => (ρ m).bind fun mv => (ρ k).bind fun kv => val (alookup X H t mv kv ok) H
  | .mapUpdate t m k v => (ρ m).bind fun mv => (ρ k).bind fun kv => (ρ v).bind fun vv => unit_ (amapUpdate X H t mv kv vv)
  | .insert t m k v => (ρ m).bind fun mv => (ρ k).bind fun kv => (ρ v).bind fun vv => unit_ (amapUpdate X H t mv kv vv)
  | .range t x => (ρ x).bind fun v => vals (arange X H t v)
  | .typeAssert x _ t ok => (ρ x).bind fun v => val (atypeAssert X v t ok) H
  | .extract x i => (ρ x).bind fun v => val (aextract v i) H
  | .call c => match aflat P ρ o with
    | some r => some (r, H)
    | none => acall P X H ρ c
  | .defer c => match c.callee with
    | .value f => (argsM ρ c.args.toList).bind fun vs => (ρ f).bind fun fv => match fv with
      | .func (.func g) first cap => (X.fn g).bind fun _ => some (.defer g cap (first ++ vs.toArray), H)
      | _ => none
    | _ => none
  | .unOp .. => match aflat P ρ o with
    | some r => some (r, H)
    | none => none
  | .convert s d x => match aflat P ρ o with
    | some r => some (r, H)
    | none => (ρ x).bind fun v => vals (aconvert X H s d v)
  | .next it isS => (ρ it).bind fun v => vals (anext H v isS)
  | .entry it => (ρ it).bind fun v => val (aentry H v) H
  | .makeSlice t l c => (ρ l).bind fun lv => (ρ c).bind fun cv => vals (amakeSlice X H t lv cv)
  | _ => none
def opMove (P : Program) (X : Tab) (H : AH) (ρ : Env) (o : Oper) (x : Operand) : Option (ANext × AH) := val (ρ x) H
def opAssign (P : Program) (X : Tab) (H : AH) (ρ : Env) (o : Oper) (x : Operand) : Option (ANext × AH) := val (ρ x) H
def opPick (P : Program) (X : Tab) (H : AH) (ρ : Env) (o : Oper) (c a b : Operand) : Option (ANext × AH) := (ρ c).bind fun cv => match cv with
    | .bool true => val (ρ a) H
    | .bool false => val (ρ b) H
    | _ => none
def opAlloc (P : Program) (X : Tab) (H : AH) (ρ : Env) (o : Oper) (e : TypeId) : Option (ANext × AH) := vals (aalloc X H e)
def opBox (P : Program) (X : Tab) (H : AH) (ρ : Env) (o : Oper) (e : TypeId) (x : Operand) : Option (ANext × AH) := (ρ x).bind fun v => vals (abox H e v)
def opBuild (P : Program) (X : Tab) (H : AH) (ρ : Env) (o : Oper) (t : TypeId) (parts : Array (Nat × Operand)) : Option (ANext × AH) := (partsM ρ parts.toList).bind fun ps => val (abuilt X t ps) H
def opBuildSlice (P : Program) (X : Tab) (H : AH) (ρ : Env) (o : Oper) (t : TypeId) (len : Nat) (parts : Array (Nat × Operand)) : Option (ANext × AH) := (partsM ρ parts.toList).bind fun ps => vals (abuildSlice X H t len ps)
def opLoad (P : Program) (X : Tab) (H : AH) (ρ : Env) (o : Oper) (t : TypeId) (x : Operand) : Option (ANext × AH) := (ρ x).bind fun v => val (aload X H t v) H
def opStore (P : Program) (X : Tab) (H : AH) (ρ : Env) (o : Oper) (t : TypeId) (p x : Operand) : Option (ANext × AH) := (ρ p).bind fun pv => (ρ x).bind fun v => unit_ (astore X H t pv v)
def opNilCheck (P : Program) (X : Tab) (H : AH) (ρ : Env) (o : Oper) (x : Operand) : Option (ANext × AH) := (ρ x).bind fun v => cond (okNil v) (some (.value v, H)) none
def opBinOp (P : Program) (X : Tab) (H : AH) (ρ : Env) (o : Oper) (op : BinOp) (t : TypeId) (x y : Operand) : Option (ANext × AH) := match aflat P ρ o with
    | some r => some (r, H)
    | none => (ρ x).bind fun a => (ρ y).bind fun b => val (anilcmp X op t a b) H
def opMakeInterface (P : Program) (X : Tab) (H : AH) (ρ : Env) (o : Oper) (t : TypeId) (x : Operand) : Option (ANext × AH) := (ρ x).bind fun v => val (amakeIface X t v) H
def opMakeFunc (P : Program) (X : Tab) (H : AH) (ρ : Env) (o : Oper) (f : FuncId) (first cap : Array Operand) : Option (ANext × AH) := (argsM ρ first.toList).bind fun fs => (argsM ρ cap.toList).bind fun cs => some (.value (.func (.func f) fs.toArray cs.toArray), H)
def opSlice (P : Program) (X : Tab) (H : AH) (ρ : Env) (o : Oper) (t : TypeId) (x : Operand) (lo hi mx : Option Operand) : Option (ANext × AH) := match aflat P ρ o with
    | some r => some (r, H)
    | none => (ρ x).bind fun v => (optM ρ lo).bind fun l => (optM ρ hi).bind fun h => (optM ρ mx).bind fun m => val (aslice X H t v l h m) H
def opFieldAddr (P : Program) (X : Tab) (H : AH) (ρ : Env) (o : Oper) (t : TypeId) (x : Operand) (f : Nat) : Option (ANext × AH) := (ρ x).bind fun v => val (afieldAddr X t v f) H
def opField (P : Program) (X : Tab) (H : AH) (ρ : Env) (o : Oper) (t : TypeId) (x : Operand) (f : Nat) : Option (ANext × AH) := (ρ x).bind fun v => val (afield X t v f) H
def opIndexAddr (P : Program) (X : Tab) (H : AH) (ρ : Env) (o : Oper) (t : TypeId) (x i : Operand) : Option (ANext × AH) := (ρ x).bind fun v => (ρ i).bind fun ix => val (aindexAddr X t v ix) H
def opIndex (P : Program) (X : Tab) (H : AH) (ρ : Env) (o : Oper) (t : TypeId) (x i : Operand) : Option (ANext × AH) := match aflat P ρ o with
    | some r => some (r, H)
    | none => (ρ x).bind fun v => (ρ i).bind fun ix => val (aindex X t v ix) H
def opLookup (P : Program) (X : Tab) (H : AH) (ρ : Env) (o : Oper) (t : TypeId) (m k : Operand) (ok : Bool) : Option (ANext × AH) := (ρ m).bind fun mv => (ρ k).bind fun kv => val (alookup X H t mv kv ok) H
def opMapUpdate (P : Program) (X : Tab) (H : AH) (ρ : Env) (o : Oper) (t : TypeId) (m k v : Operand) : Option (ANext × AH) := (ρ m).bind fun mv => (ρ k).bind fun kv => (ρ v).bind fun vv => unit_ (amapUpdate X H t mv kv vv)
def opInsert (P : Program) (X : Tab) (H : AH) (ρ : Env) (o : Oper) (t : TypeId) (m k v : Operand) : Option (ANext × AH) := (ρ m).bind fun mv => (ρ k).bind fun kv => (ρ v).bind fun vv => unit_ (amapUpdate X H t mv kv vv)
def opRange (P : Program) (X : Tab) (H : AH) (ρ : Env) (o : Oper) (t : TypeId) (x : Operand) : Option (ANext × AH) := (ρ x).bind fun v => vals (arange X H t v)
def opTypeAssert (P : Program) (X : Tab) (H : AH) (ρ : Env) (o : Oper) (x : Operand) (t : TypeId) (ok : Bool) : Option (ANext × AH) := (ρ x).bind fun v => val (atypeAssert X v t ok) H
def opExtract (P : Program) (X : Tab) (H : AH) (ρ : Env) (o : Oper) (x : Operand) (i : Nat) : Option (ANext × AH) := (ρ x).bind fun v => val (aextract v i) H
def opCall (P : Program) (X : Tab) (H : AH) (ρ : Env) (o : Oper) (c : Call) : Option (ANext × AH) := match aflat P ρ o with
    | some r => some (r, H)
    | none => acall P X H ρ c
def opDefer (P : Program) (X : Tab) (H : AH) (ρ : Env) (o : Oper) (c : Call) : Option (ANext × AH) := match c.callee with
    | .value f => (argsM ρ c.args.toList).bind fun vs => (ρ f).bind fun fv => match fv with
      | .func (.func g) first cap => (X.fn g).bind fun _ => some (.defer g cap (first ++ vs.toArray), H)
      | _ => none
    | _ => none
def opUnOp (P : Program) (X : Tab) (H : AH) (ρ : Env) (o : Oper) : Option (ANext × AH) := match aflat P ρ o with
    | some r => some (r, H)
    | none => none
def opConvert (P : Program) (X : Tab) (H : AH) (ρ : Env) (o : Oper) (s d : TypeId) (x : Operand) : Option (ANext × AH) := match aflat P ρ o with
    | some r => some (r, H)
    | none => (ρ x).bind fun v => vals (aconvert X H s d v)
def opNext (P : Program) (X : Tab) (H : AH) (ρ : Env) (o : Oper) (it : Operand) (isS : Bool) : Option (ANext × AH) := (ρ it).bind fun v => vals (anext H v isS)
def opEntry (P : Program) (X : Tab) (H : AH) (ρ : Env) (o : Oper) (it : Operand) : Option (ANext × AH) := (ρ it).bind fun v => val (aentry H v) H
def opMakeSlice (P : Program) (X : Tab) (H : AH) (ρ : Env) (o : Oper) (t : TypeId) (l c : Operand) : Option (ANext × AH) := (ρ l).bind fun lv => (ρ c).bind fun cv => vals (amakeSlice X H t lv cv)
def opMakeFuncF (P : Program) (X : Tab) (H : AH) (ρ : Env) (o : Oper) (fn : Fn) (first cap : Array Operand) : Option (ANext × AH) := match fn with
  | .func f => opMakeFunc P X H ρ o f first cap
  | _ => none
def opMakeMap (H : AH) (r : Option Operand) : Option (ANext × AH) := match r with
  | none => vals (amakeMap H)
  | some _ => none
def aop (P : Program) (X : Tab) (H : AH) (ρ : Env) (o : Oper) : Option (ANext × AH) := Op.casesOn (motive := fun _ => Option (ANext × AH)) o.op
  (fun x => opMove P X H ρ o x)
  (fun x => opAssign P X H ρ o x)
  (fun c a b => opPick P X H ρ o c a b)
  (fun e => opAlloc P X H ρ o e)
  (fun e x => opBox P X H ρ o e x)
  (fun t parts => opBuild P X H ρ o t parts)
  (fun t len parts => opBuildSlice P X H ρ o t len parts)
  (fun t m k v => opInsert P X H ρ o t m k v)
  (fun t x => opLoad P X H ρ o t x)
  (fun t p x => opStore P X H ρ o t p x)
  (fun _ => none)
  (fun _ => none)
  (fun x => opNilCheck P X H ρ o x)
  (fun op t x y _ => opBinOp P X H ρ o op t x y)
  (fun _ _ _ => opUnOp P X H ρ o )
  (fun s d x => opConvert P X H ρ o s d x)
  (fun _ _ => none)
  (fun t x => opMakeInterface P X H ρ o t x)
  (fun fn first cap => opMakeFuncF P X H ρ o fn first cap)
  (fun _ r => opMakeMap H r)
  (fun _ _ => none)
  (fun t l c => opMakeSlice P X H ρ o t l c)
  (fun t x lo hi mx => opSlice P X H ρ o t x lo hi mx)
  (fun t x f => opFieldAddr P X H ρ o t x f)
  (fun t x f => opField P X H ρ o t x f)
  (fun t x i => opIndexAddr P X H ρ o t x i)
  (fun t x i => opIndex P X H ρ o t x i)
  (fun t m k ok => opLookup P X H ρ o t m k ok)
  (fun t m k v => opMapUpdate P X H ρ o t m k v)
  (fun _ _ _ => none)
  (fun _ _ _ _ => none)
  (fun t x => opRange P X H ρ o t x)
  (fun it isS => opNext P X H ρ o it isS)
  (fun it => opEntry P X H ρ o it)
  (fun x _ t ok => opTypeAssert P X H ρ o x t ok)
  (fun x i => opExtract P X H ρ o x i)
  (fun c => opCall P X H ρ o c)
  (fun _ => none)
  (fun c => opDefer P X H ρ o c)
  (fun _ => none)
  (fun _ _ => none)
  (fun _ _ _ => none)
  (fun _ _ => none)
theorem aop_eq (P : Program) (X : Tab) (H : AH) (ρ : Env) (o : Oper) : aop P X H ρ o = aop0 P X H ρ o := by
  obtain ⟨dst, op, type, pos, after, guard⟩ := o
  cases op <;> first
    | rfl
    | (rename_i fn first cap; cases fn <;> rfl)
    | (rename_i t r; cases r <;> rfl)
def AAct.put (a : AAct) (d : Option Nat) (v : Value) : Option AAct := match d with
  | none => some a
  | some d => cond (Nat.blt d a.n && Nat.blt d 16777215) (some ⟨a.tmps.set d (some v), a.n, a.defers⟩) none
def ayielded (ops : List Oper) (a : AAct) (j : Nat) : Option Bool := match (ops[j]?).bind (·.dst) with
  | some d => match a.at_ d with
    | .bool b => some b
    | _ => none
  | none => none
def awanted (ops : List Oper) (a : AAct) (o : Oper) : Bool := match o.guard with
  | none => true
  | some (j, want) => match ayielded ops a j with
    | some b => b == want
    | none => false
abbrev ACall := FuncId → Array Value → AH → Option (Value × AH)
def evOp (P : Program) (X : Tab) (call : ACall) (ops : List Oper) (o : Oper) (a : AAct) (H : AH) : Option (AAct × AH) :=
  cond (awanted ops a o) ((aop P X H a.env o).bind fun (r, H1) => match r with
    | .value v => (a.put o.dst v).bind fun a' => some (a', H1)
    | .skip => (a.put o.dst undef).bind fun a' => some (a', H1)
    | .enter f args => (call f args H1).bind fun (v, H2) => (a.put o.dst v).bind fun a' => some (a', H2)
    | .defer f cap args => (AAct.put ⟨a.tmps, a.n, ⟨f, cap, args⟩ :: a.defers⟩ o.dst undef).bind fun a' => some (a', H1))
    ((a.put o.dst undef).bind fun a' => some (a', H))
def evOps (P : Program) (X : Tab) (call : ACall) (ops : List Oper) : List Oper → AAct → AH → Option (AAct × AH)
  | [], a, H => some (a, H)
  | o :: rest, a, H => match evOp P X call ops o a H with
    | some (a', H') => evOps P X call ops rest a' H'
    | none => none
/-- what one operation's work gives, a call's too -/
def evRes (P : Program) (X : Tab) (call : ACall) (ρ : Env) (o : Oper) (H : AH) : Option (Value × AH) := (aop P X H ρ o).bind fun (r, H1) => match r with
  | .value v => some (v, H1)
  | .skip => some (undef, H1)
  | .enter f args => call f args H1
  | .defer .. => none
/- A region whose order is drawn. Each operation is worked out once, in the order of the text, from what its own forerunners gave. -/
inductive Kd where
  | loc
  | read (q : T AObj → Option Value)
  | fresh (ob : AObj)
  | chn (tab : T AObj)
structure Rec where
  kd : Kd
  v : Value
  anc : Nat
  lo : Nat
  hi : Nat
def ancOf (f : Nat → Option Rec) : List Edge → Nat → Option Nat
  | [], m => some m
  | e :: l, m => cond (Region.binds .any e) (match f e.on with
    | some r => ancOf f l (m ||| r.anc ||| (1 <<< e.on))
    | none => none) (ancOf f l m)
def inAlR (f : Nat → Option Rec) (n0 anc lo hi b : Nat) : Nat → Bool
  | 0 => Nat.ble lo b && Nat.blt b hi
  | m + 1 => (Nat.testBit anc m && (match f m with
    | some r => Nat.ble r.lo b && Nat.blt b r.hi
    | none => false)) || inAlR f n0 anc lo hi b m
def inAl (f : Nat → Option Rec) (n0 anc lo hi b m : Nat) : Bool := match Nat.blt b n0 with
  | true => true
  | false => inAlR f n0 anc lo hi b m
/-- every number in it (to a depth) is one of these -/
def allIn (p : Nat → Bool) : Nat → Value → Bool
  | 0, _ => false
  | f + 1, v => match v with
    | .bool _ | .int .. | .float .. | .complex .. | .string _ | .pointer none | .slice none _ _ | .map none | .nilFunc | .nilIface => true
    | .pointer (some a) => p a.block
    | .slice (some a) _ _ => p a.block
    | .map (some b) => p b
    | .func (.func _) first cap => first.toList.all (allIn p f) && cap.toList.all (allIn p f)
    | .iface _ v => allIn p f v
    | .agg cs => cs.toList.all (allIn p f)
    | .tuple cs => cs.toList.all (allIn p f)
    | _ => false
def bytesEq (a b : ByteArray) : Bool := Nat.beq a.size b.size && (a.data.toList.zip b.data.toList).all fun (x, y) => Nat.beq x.toNat y.toNat
def addrEq (a b : Addr) : Bool := Nat.beq a.block b.block && Nat.beq a.off b.off && (match a.spot, b.spot with
  | none, none => true
  | _, _ => false)
def veqs (q : Value → Value → Bool) : List Value → List Value → Bool
  | [], [] => true
  | a :: l, b :: r => q a b && veqs q l r
  | _, _ => false
/-- the same value (to a depth) -/
def veq : Nat → Value → Value → Bool
  | 0, _, _ => false
  | f + 1, a, b => match a, b with
    | .bool x, .bool y => x == y
    | .int k x, .int k' y => decide (k = k') && decide (x = y)
    | .string x, .string y => bytesEq x y
    | .pointer none, .pointer none => true
    | .pointer (some x), .pointer (some y) => addrEq x y
    | .slice none n c, .slice none n' c' => Nat.beq n n' && Nat.beq c c'
    | .slice (some x) n c, .slice (some y) n' c' => addrEq x y && Nat.beq n n' && Nat.beq c c'
    | .map none, .map none => true
    | .map (some x), .map (some y) => Nat.beq x y
    | .nilFunc, .nilFunc => true
    | .nilIface, .nilIface => true
    | .func (.func g) x c, .func (.func g') y c' => Nat.beq g g' && veqs (veq f) x.toList y.toList && veqs (veq f) c.toList c'.toList
    | .iface t x, .iface t' y => Nat.beq t t' && veq f x y
    | .agg x, .agg y => veqs (veq f) x.toList y.toList
    | .tuple x, .tuple y => veqs (veq f) x.toList y.toList
    | _, _ => false
/-- what is fresh and not yet part of the heap -/
def addFresh (f : Nat → Option Rec) (p : Nat → Bool) : Nat → T AObj → T AObj
  | 0, t => t
  | m + 1, t => match p m with
    | false => addFresh f p m t
    | true => match f m with
      | some r => match r.kd with
        | .fresh ob => (addFresh f p m t).set r.lo (some ob)
        | _ => addFresh f p m t
      | none => addFresh f p m t
structure DS where
  A : AAct
  recs : T Rec
  cur : T AObj
  mg : Nat
  ch : Nat
  next : Nat
def denv (A : AAct) (slots : T Nat) (anc : Nat) : Env
  | .tmp t => match slots.get t with
    | none => some (A.at_ t)
    | some j => cond (Nat.testBit anc j) (some (A.at_ t)) none
  | .const v => A.env (.const v)
  | .global _ => none
  | .func f => A.env (.func f)
def dwanted (ops : List Oper) (f : Nat → Option Rec) (anc : Nat) (o : Oper) : Option Bool := match o.guard with
  | none => some true
  | some (g, want) => cond (Nat.testBit anc g) (match (ops[g]?).bind (·.dst), f g with
    | some _, some r => (match r.v with
      | .bool b => some (b == want)
      | .tuple _ => some false
      | _ => none)
    | _, _ => none) none
/-- 0: no memory; 1: a load; 2: a new block; 3: no memory, where all is flat; 5: the same, or a look at the memory; 4: the rest -/
def cls : Op → Nat
  | .move _ => 0
  | .assign _ => 0
  | .pick .. => 0
  | .build .. => 0
  | .nilCheck _ => 0
  | .binOp .. => 0
  | .makeInterface .. => 0
  | .makeFunc .. => 0
  | .fieldAddr .. => 0
  | .field .. => 0
  | .indexAddr .. => 0
  | .index .. => 0
  | .typeAssert .. => 0
  | .extract .. => 0
  | .unOp .. => 0
  | .load .. => 1
  | .alloc _ => 2
  | .box .. => 2
  | .buildSlice .. => 2
  | .convert .. => 3
  | .slice .. => 5
  | .call c => match c.callee with
    | .builtin .len => 0
    | _ => 3
  | _ => 4
def dloc (P : Program) (X : Tab) (ρ : Env) (o : Oper) (lo : Nat) (cur : T AObj) : Option (Kd × Value) := match cls o.op with
  | 0 => match aop P X ⟨lo, .lf⟩ ρ o with
    | some (.value v, _) => some (.loc, v)
    | _ => none
  | 1 => match o.op with
    | .load t x => (ρ x).bind fun p => (aload X ⟨0, cur⟩ t p).bind fun v => some (.read (fun tab => aload X ⟨0, tab⟩ t p), v)
    | _ => none
  | 2 => match aop P X ⟨lo, .lf⟩ ρ o with
    | some (.value v, H1) => (H1.tab.get lo).bind fun ob => some (.fresh ob, v)
    | _ => none
  | 3 => match aflat P ρ o with
    | some (.value v) => some (.loc, v)
    | _ => none
  | 5 => match aflat P ρ o with
    | some (.value v) => some (.loc, v)
    | some _ => none
    | none => match o.op with
      | .slice t x a b m => (ρ x).bind fun v => (optM ρ a).bind fun l => (optM ρ b).bind fun h => (optM ρ m).bind fun m => (aslice X ⟨0, cur⟩ t v l h m).bind fun r => some (.read (fun tab => aslice X ⟨0, tab⟩ t v l h m), r)
      | _ => none
  | _ => none
def kdHi (lo : Nat) : Kd → Nat
  | .fresh _ => lo + 1
  | _ => lo
def kdIn (p : Nat → Bool) : Kd → Bool
  | .fresh (.cells cs _ _) => cs.all (allIn p 8)
  | .fresh _ => false
  | _ => true
def drec (P : Program) (X : Tab) (call : ACall) (n0 : Nat) (s : DS) (ρ : Env) (o : Oper) (i anc : Nat) : Option Rec :=
  match dloc P X ρ o s.next s.cur with
  | some (kd, v) => cond (allIn (fun b => inAl s.recs.get n0 anc s.next (kdHi s.next kd) b i) 8 v && kdIn (fun b => inAl s.recs.get n0 anc s.next (kdHi s.next kd) b i) kd)
      (some ⟨kd, v, anc, s.next, kdHi s.next kd⟩) none
  | none => cond (Nat.beq (s.ch &&& anc) s.ch) (match evRes P X call ρ o ⟨s.next, addFresh s.recs.get (fun j => Nat.testBit anc j && !Nat.testBit s.mg j) i s.cur⟩ with
    | some (v, H2) => cond (Nat.ble s.next H2.next) (some ⟨.chn H2.tab, v, anc, s.next, H2.next⟩) none
    | none => none) none
def dnext (i : Nat) (r : Rec) (A' : AAct) (s : DS) : DS := match r.kd with
  | .chn t => ⟨A', s.recs.set i (some r), t, r.anc, s.ch ||| (1 <<< i), r.hi⟩
  | _ => ⟨A', s.recs.set i (some r), s.cur, s.mg, s.ch, r.hi⟩
def dstOk (slots : T Nat) (i : Nat) : Option Nat → Bool
  | none => true
  | some d => match slots.get d with
    | some j => Nat.beq j i
    | none => false
def dstep (P : Program) (X : Tab) (call : ACall) (ops : List Oper) (slots : T Nat) (n0 : Nat) (i : Nat) (o : Oper) (s : DS) : Option DS :=
  (ancOf s.recs.get o.after.toList 0).bind fun anc => cond (dstOk slots i o.dst) ((dwanted ops s.recs.get anc o).bind fun w =>
    (cond w (drec P X call n0 s (denv s.A slots anc) o i anc) (some ⟨.loc, undef, anc, s.next, s.next⟩)).bind fun r => (s.A.put o.dst r.v).bind fun A' => some (dnext i r A' s)) none
def dpass (P : Program) (X : Tab) (call : ACall) (ops : List Oper) (slots : T Nat) (n0 : Nat) : List Oper → Nat → DS → Option DS
  | [], _, s => some s
  | o :: l, i, s => match dstep P X call ops slots n0 i o s with
    | some s' => dpass P X call ops slots n0 l (i + 1) s'
    | none => none
def sameAs (v : Value) : Option Value → Bool
  | some u => veq 8 u v
  | none => false
/-- a load that may stand behind a call, or ahead of it -/
def pairOk (ch i : Nat) (q : T AObj → Option Value) (v : Value) (anc : Nat) (f : Nat → Option Rec) : Nat → Bool
  | 0 => true
  | j + 1 => pairOk ch i q v anc f j && (match Nat.testBit ch j with
    | false => true
    | true => match f j with
      | some r => match r.kd with
        | .chn tab => Nat.testBit r.anc i || !(Nat.beq ((anc &&& ch) &&& (r.anc ||| (1 <<< j))) (anc &&& ch)) || sameAs v (q tab)
        | _ => true
      | none => true)
def pairsOk (H : AH) (ch n : Nat) (f : Nat → Option Rec) : Nat → Bool
  | 0 => true
  | i + 1 => pairsOk H ch n f i && (match f i with
    | some r => match r.kd with
      | .read q => (!(Nat.beq (r.anc &&& ch) 0) || sameAs r.v (q H.tab)) && pairOk ch i q r.v r.anc f n
      | _ => true
    | none => true)
def slotTab : List Oper → Nat → T Nat → T Nat
  | [], _, t => t
  | o :: l, i, t => match o.dst with
    | some d => slotTab l (i + 1) (t.set d (some i))
    | none => slotTab l (i + 1) t
/-- a region whose order is drawn -/
def evDraw (P : Program) (X : Tab) (call : ACall) (ops : Array Oper) (a : AAct) (H : AH) : Option (AAct × AH) :=
  match Nat.blt ops.size 100000 with
  | false => none
  | true => match dpass P X call ops.toList (slotTab ops.toList 0 .lf) H.next ops.toList 0 ⟨a, .lf, H.tab, 0, 0, H.next⟩ with
    | some s => match Nat.beq s.ch 0 || pairsOk H s.ch ops.size s.recs.get ops.size with
      | true => some (s.A, ⟨s.next, addFresh s.recs.get (fun j => !Nat.testBit s.mg j) ops.size s.cur⟩)
      | false => none
    | none => none
inductive AExit where
  | normal
  | exit (id : Nat)
  | ret
def evCode (P : Program) (X : Tab) (call : ACall) : Nat → Code → AAct → AH → Option (AExit × AAct × AH)
  | 0, _, _, _ => none
  | n + 1, c, a, H => match c with
    | .skip => some (.normal, a, H)
    | .label _ => some (.normal, a, H)
    | .exit id => some (.exit id, a, H)
    | .ret => some (.ret, a, H)
    | .region _ ops draw => match cond draw (evDraw P X call ops a H) (evOps P X call ops.toList ops.toList a H) with
      | some (a', H') => some (.normal, a', H')
      | none => none
    | .seq x y => match evCode P X call n x a H with
      | some (.normal, a', H') => evCode P X call n y a' H'
      | r => r
    | .cond b x y => match a.env b with
      | some (.bool true) => evCode P X call n x a H
      | some (.bool false) => evCode P X call n y a H
      | _ => none
    | .block id x => match evCode P X call n x a H with
      | some (.exit id', a', H') => cond (Nat.beq id' id) (some (.normal, a', H')) (some (.exit id', a', H'))
      | r => r
    | .loop x => match evCode P X call n x a H with
      | some (.normal, a', H') => evCode P X call n (.loop x) a' H'
      | r => r
    | _ => none
def aresults (X : Tab) (H : AH) (a : AAct) : List ResultVar → Option (List Value)
  | [] => some []
  | .tmp t :: l => (aresults X H a l).bind fun r => some (a.at_ t :: r)
  | .cell p t :: l => (aload X H t (a.at_ p)).bind fun v => (aresults X H a l).bind fun r => some (v :: r)
def result (vs : List Value) : Value := match vs with
  | [v] => v
  | vs => .tuple vs.toArray
def layArgs : List Value → Nat → T Value → T Value
  | [], _, t => t
  | v :: l, i, t => layArgs l (i + 1) (t.set i (some v))
/-- a deferred function's operations, where nothing panics: recover gives nil -/
def evOpsD (P : Program) (X : Tab) (call : ACall) (ops : List Oper) : List Oper → AAct → AH → Option (AAct × AH)
  | [], a, H => some (a, H)
  | o :: rest, a, H => match o.op with
    | .call c => match c.callee with
      | .builtin .recover => cond (awanted ops a o && Nat.beq c.args.size 0) ((a.put o.dst .nilIface).bind fun a' => evOpsD P X call ops rest a' H) none
      | _ => match evOp P X call ops o a H with
        | some (a', H') => evOpsD P X call ops rest a' H'
        | none => none
    | _ => match evOp P X call ops o a H with
      | some (a', H') => evOpsD P X call ops rest a' H'
      | none => none
def evCodeD (P : Program) (X : Tab) (call : ACall) : Nat → Code → AAct → AH → Option (AExit × AAct × AH)
  | 0, _, _, _ => none
  | n + 1, c, a, H => match c with
    | .region _ ops false => match evOpsD P X call ops.toList ops.toList a H with
      | some (a', H') => some (.normal, a', H')
      | none => none
    | .seq x y => match evCodeD P X call n x a H with
      | some (.normal, a', H') => evCodeD P X call n y a' H'
      | r => r
    | .cond b x y => match a.env b with
      | some (.bool true) => evCodeD P X call n x a H
      | some (.bool false) => evCodeD P X call n y a H
      | _ => none
    | c => evCode P X call n c a H
def enter (fn : Func) (args : Array Value) : AAct := ⟨layArgs args.toList 0 .lf, Nat.max fn.ntmps args.size, []⟩
def leaveD (X : Tab) (fn : Func) : Option (AExit × AAct × AH) → Option (Value × AH)
  | some (.normal, a, H') => match a.defers with
    | [] => (aresults X H' a fn.results.toList).bind fun vs => some (result vs, H')
    | _ => none
  | some (.ret, a, H') => match a.defers with
    | [] => (aresults X H' a fn.results.toList).bind fun vs => some (result vs, H')
    | _ => none
  | _ => none
def evDefs (P : Program) (X : Tab) (call : ACall) (lf : Nat) : List ADef → AH → Option AH
  | [], H => some H
  | d :: ds, H => (X.fn d.f).bind fun fn => match fn.body with
    | none => none
    | some body => cond (Nat.blt (d.args ++ d.cap).size 1000000) (match leaveD X fn (evCodeD P X call lf body (enter fn (d.args ++ d.cap)) H) with
      | some (_, H') => evDefs P X call lf ds H'
      | none => none) none
def leave (P : Program) (X : Tab) (call : ACall) (lf : Nat) (fn : Func) (a : AAct) (H : AH) : Option (Value × AH) :=
  (evDefs P X call lf a.defers H).bind fun H' => (aresults X H' a fn.results.toList).bind fun vs => some (result vs, H')
def evCall (P : Program) (X : Tab) (lf : Nat) : Nat → ACall
  | 0 => fun _ _ _ => none
  | d + 1 => fun f args H => (X.fn f).bind fun fn => match fn.body with
    | none => none
    | some body => cond (Nat.blt args.size 1000000) (match evCode P X (evCall P X lf d) lf body (enter fn args) H with
      | some (.normal, a, H') => leave P X (evCall P X lf d) lf fn a H'
      | some (.ret, a, H') => leave P X (evCall P X lf d) lf fn a H'
      | _ => none) none
end
end Go.Proofs.YtfnamalajmfjbaaGreatDoor.Ev
