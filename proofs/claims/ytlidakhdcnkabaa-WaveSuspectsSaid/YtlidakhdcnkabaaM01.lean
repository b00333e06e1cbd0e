/- The abstract machine: values without addresses, and what one operation does with them. The relation between the abstract machine's states and the model's worlds, and how it survives a change of one owned block. The ways in which one owned block changes: laid anew, written, frozen, given up; each keeps what is represented. What one operation does with abstract values is what the model does with values: reading, writing, addresses, new memory. No condition. -/
import Derived.WalkKit
import Derived.CallsIn
import Derived.KernelRfl
import Derived.Below
import Derived.Deep.AppendSrc
import Derived.Laws.CopyRow
namespace Go.AI

/-- Abstract values. 'il': a slice that nobody writes any more (exact: no spare room); 'sl': a slice of an owned row; 'ptr': a pointer into an owned row; 'pim': one into an element that nobody writes; 'raw': just this value; 'mp', 'im': maps; 'anyb': a bool that is not known; 'undef': anything. -/
inductive AVal where
  | int (k : IntKind) (n : Int)
  | bool (b : Bool)
  | str (s : ByteArray)
  | agg (cs : List AVal)
  | tup (vs : List AVal)
  | nilp
  | ptr (b g i off : Nat)
  | pim (cs : List AVal) (off : Nat)
  | sl (b g lo n : Nat)
  | il (es : List (List AVal)) (exact : Bool)
  | mp (b g : Nat)
  | im (es : List (AVal × AVal))
  | anyb
  | fn (f : Fn) (first captured : List AVal)
  | nilf
  | raw (v : Value)
  | undef
  deriving Inhabited

/-- Abstract objects. A row: elements of sz cells each; g: its generation; wr: may it be written? -/
inductive AObj where
  | row (sz : Nat) (es : List (List AVal)) (g : Nat) (wr : Bool)
  | map (es : List (AVal × AVal)) (g v : Nat)
  deriving Inhabited

def AObj.gen : AObj → Nat
  | .row _ _ g _ => g
  | .map _ g _ => g

abbrev Upd := Nat × Option AObj
abbrev AHeap := List Upd

def hget : AHeap → Nat → Option AObj
  | [], _ => none
  | (b, o) :: h, c => if b = c then o else hget h c

def tget : List (Nat × AVal) → Nat → AVal
  | [], _ => .undef
  | (t, v) :: l, s => if t = s then v else tget l s

def AVal.cells : AVal → List AVal
  | .agg cs => cs
  | v => [v]

/-- May it stand in a cell? -/
def AVal.sc : AVal → Bool
  | .agg _ | .tup _ | .raw _ | .undef => false
  | _ => true

/-- No reference to what is owned, at its first level. -/
def AVal.flat : AVal → Bool
  | .int _ _ | .bool _ | .str _ | .nilp | .il _ _ | .im _ | .nilf => true
  | _ => false

/-- All elements have so many cells, each of which may be stored. -/
def okEs (n : Nat) (es : List (List AVal)) : Bool := es.all fun cs => cs.length == n && cs.all AVal.sc

def flatEs (es : List (List AVal)) : Bool := es.all fun cs => cs.all AVal.flat

def ofVal1 : Value → AVal
  | .int k n => .int k n
  | .bool b => .bool b
  | .string s => .str s
  | .pointer none => .nilp
  | .slice none 0 0 => .il [] true
  | .map none => .im []
  | .nilFunc => .nilf
  | _ => .undef

def ofVal : Value → AVal
  | .agg cs => .agg (cs.toList.map ofVal1)
  | v => ofVal1 v

/-! ### Types -/
inductive TK where
  | int (k : IntKind)
  | bool
  | str
  | slice (e : TypeId)
  | strct (fs : List (Nat × TypeId × Bool))
  | arr (n : Nat) (e : TypeId)
  | map (k e : TypeId)
  | other
  deriving Inhabited

structure TI where
  size : Nat
  agg : Bool
  zero : AVal
  bytes : Nat
  kind : TK
  deriving Inhabited

def tkOf : TypeDesc → TK
  | .int k => .int k
  | .bool => .bool
  | .string => .str
  | .slice e => .slice e
  | .struct fs => .strct (fs.toList.map fun f => (f.offset, f.type, f.name == "_"))
  | .array n e => .arr n e
  | .map k e => .map k e
  | _ => .other

def aggOf : TypeDesc → Bool
  | .struct _ | .array _ _ => true
  | _ => false

def tiOf (P : Program) (t : TypeId) : Option TI :=
  match P.info? t, P.underlying t with
  | some i, some d => match i.zero with
    | some z => some ⟨i.size, aggOf d, ofVal z, i.bytes, tkOf d⟩
    | none => none
  | _, _ => none

/-! ### Reading the heap -/
inductive Rd (α : Type) : Type where
  | ret (a : α)
  | fail
  | get (b : Nat) (k : Option AObj → Rd α)

def Rd.run {α : Type} : Rd α → (Nat → Option AObj) → Option α
  | .ret a, _ => some a
  | .fail, _ => none
  | .get b k, h => (k (h b)).run h

/-- The blocks that are looked at. -/
def Rd.reads {α : Type} : Rd α → (Nat → Option AObj) → List Nat
  | .ret _, _ => []
  | .fail, _ => []
  | .get b k, h => b :: (k (h b)).reads h

structure Delta where
  v : AVal
  upd : List Upd
  nx : Nat
  G : Nat
  deriving Inhabited

def row? {α : Type} (b g : Nat) (k : Nat → List (List AVal) → Bool → Rd α) : Rd α :=
  .get b fun
    | some (.row sz es g' wr) => if g' = g then k sz es wr else .fail
    | _ => .fail

def map? {α : Type} (b g : Nat) (k : List (AVal × AVal) → Nat → Rd α) : Rd α :=
  .get b fun
    | some (.map es g' v) => if g' = g then k es v else .fail
    | _ => .fail

def ofOpt {α β : Type} (x : Option α) (k : α → Rd β) : Rd β := match x with | some a => k a | none => .fail

/-! ### Equality of keys and structs, by their types -/
def partA (agg : Bool) (size off : Nat) (cs : List AVal) : Option AVal :=
  if agg then (if off + size ≤ cs.length then some (.agg ((cs.drop off).take size)) else none) else cs[off]?

def eqFs (P : Program) (eq : TypeId → AVal → AVal → Option Bool) (xs ys : List AVal) : List (Nat × TypeId × Bool) → Option Bool
  | [] => some true
  | (off, t, blank) :: fs =>
    if blank then none else
    match tiOf P t with
    | none => none
    | some ti => match partA ti.agg ti.size off xs, partA ti.agg ti.size off ys with
      | some x, some y => match eq t x y with
        | some true => eqFs P eq xs ys fs
        | some false => some false
        | none => none
      | _, _ => none

def eqT (P : Program) : Nat → TypeId → AVal → AVal → Option Bool
  | 0, _, _, _ => none
  | d + 1, t, x, y => match tiOf P t with
    | none => none
    | some ti => match ti.kind, x, y with
      | .int _, .int k a, .int k' b => if k = k' then some (a == b) else none
      | .bool, .bool a, .bool b => some (a == b)
      | .strct fs, .agg xs, .agg ys => if P.stoodInHeld t then none else eqFs P (eqT P d) xs ys fs
      | _, _, _ => none

def keyFs (P : Program) (ok : TypeId → AVal → Bool) (xs : List AVal) : List (Nat × TypeId × Bool) → Bool
  | [] => true
  | (off, t, blank) :: fs => !blank &&
    match tiOf P t with
    | none => false
    | some ti => match partA ti.agg ti.size off xs with
      | some x => ok t x && keyFs P ok xs fs
      | none => false

/-- A key that can be looked for. -/
def keyT (P : Program) : Nat → TypeId → AVal → Bool
  | 0, _, _ => false
  | d + 1, t, x => match tiOf P t with
    | none => false
    | some ti => match ti.kind, x with
      | .int _, .int _ _ => true
      | .bool, .bool _ => true
      | .strct fs, .agg xs => keyFs P (keyT P d) xs fs
      | _, _ => false

def findA (eq : AVal → AVal → Option Bool) (k : AVal) : List (AVal × AVal) → Option (Option AVal)
  | [] => some none
  | (x, v) :: es => match eq k x with
    | some true => some (some v)
    | some false => findA eq k es
    | none => none

def sameCs : List AVal → List AVal → Bool
  | [], [] => true
  | .int j a :: as, .int k b :: bs => j == k && a == b && sameCs as bs
  | .bool a :: as, .bool b :: bs => a == b && sameCs as bs
  | _, _ => false

/-- Are two keys the same, cell by cell? -/
def sameA : AVal → AVal → Bool
  | .int j a, .int k b => j == k && a == b
  | .bool a, .bool b => a == b
  | .agg as, .agg bs => sameCs as bs
  | _, _ => false

def upsertA (eq : AVal → AVal → Option Bool) (k v : AVal) : List (AVal × AVal) → Option (List (AVal × AVal))
  | [] => some [(k, v)]
  | (x, u) :: es => match eq k x with
    | some true => if sameA k x then some ((k, v) :: es) else none
    | some false => (upsertA eq k v es).map ((x, u) :: ·)
    | none => none

def eraseA (eq : AVal → AVal → Option Bool) (k : AVal) : List (AVal × AVal) → Option (List (AVal × AVal))
  | [] => some []
  | (x, u) :: es => match eq k x with
    | some true => some es
    | some false => (eraseA eq k es).map ((x, u) :: ·)
    | none => none

/-- How deep keys and structs are looked into. -/
def eqD : Nat := 6

/-! ### Operators -/
def arithA (op : BinOp) (k : IntKind) (a b : Int) : Option AVal :=
  match op with
  | .add => some (.int k (k.wrap (a + b)))
  | .sub => some (.int k (k.wrap (a - b)))
  | .mul => some (.int k (k.wrap (a * b)))
  | .quo => if b = 0 then none else some (.int k (k.wrap (a.tdiv b)))
  | .rem => if b = 0 then none else some (.int k (a.tmod b))
  | .eql => some (.bool (a == b))
  | .neq => some (.bool (a != b))
  | .lss => some (.bool (a < b))
  | .leq => some (.bool (a ≤ b))
  | .gtr => some (.bool (a > b))
  | .geq => some (.bool (a ≥ b))
  | _ => none

def shiftA (op : BinOp) (k : IntKind) (a b : Int) : Option AVal :=
  if b < 0 then none else
  match op with
  | .shl => some (.int k (k.wrap (a * 2 ^ (min b.toNat k.bits))))
  | .shr => some (.int k (a.fdiv (2 ^ (min b.toNat k.bits))))
  | _ => none

def andA (k : IntKind) (a b : Int) : Option AVal :=
  match Op.intBits .and k a b with
  | .pure (.int k' n) => some (.int k' n)
  | _ => none

def isSlice (P : Program) (t : TypeId) : Bool :=
  match tiOf P t with
  | some ti => match ti.kind with
    | .slice _ => true
    | _ => false
  | none => false

def binA (P : Program) (op : BinOp) (t : TypeId) (x y : AVal) : Option AVal :=
  match op, x, y with
  | .shl, .int k a, .int _ b => shiftA .shl k a b
  | .shr, .int k a, .int _ b => shiftA .shr k a b
  | .and, .int k a, .int k' b => if k = k' then andA k a b else none
  | op, .int k a, .int k' b => if k = k' then arithA op k a b else none
  | .eql, .bool a, .bool b => (eqT P eqD t (.bool a) (.bool b)).map fun r => .bool r
  | .neq, .bool a, .bool b => (eqT P eqD t (.bool a) (.bool b)).map fun r => .bool (!r)
  | .eql, .agg as, .agg bs => if P.eqGuardType P.depth t then none else (eqT P eqD t (.agg as) (.agg bs)).map fun r => .bool r
  | .neq, .agg as, .agg bs => if P.eqGuardType P.depth t then none else (eqT P eqD t (.agg as) (.agg bs)).map fun r => .bool (!r)
  | _, _, _ => none

/-- A slice against nil. -/
def nilA (P : Program) (op : BinOp) (t : TypeId) (x : AVal) : Option AVal :=
  match op, x with
  | .eql, .il es _ => if isSlice P t then some (if es.isEmpty then .anyb else .bool false) else none
  | .neq, .il es _ => if isSlice P t then some (if es.isEmpty then .anyb else .bool true) else none
  | _, _ => none

def isNilSlice : Operand → Bool
  | .const (.slice none 0 0) => true
  | _ => false

def unA (op : UnOp) (x : AVal) : Option AVal :=
  match op, x with
  | .neg, .int k n => some (.int k (k.wrap (0 - n)))
  | .not, .bool b => some (.bool (!b))
  | _, _ => none

/-! ### Cells -/
def setCs (cs : List AVal) (off : Nat) (vs : List AVal) : List AVal := cs.take off ++ vs ++ cs.drop (off + vs.length)

/-- A struct's or a row's parts, laid over zero values. -/
def fillA (place : Nat → Option (Nat × Nat)) (cs : List AVal) : List (Nat × AVal) → Option (List AVal)
  | [] => some cs
  | (i, v) :: rest => match place i with
    | none => none
    | some (off, size) => if v.cells.length = size ∧ off + v.cells.length ≤ cs.length ∧ v.cells.all AVal.sc = true then fillA place (setCs cs off v.cells) rest else none

def fillEs (size : Nat) (es : List (List AVal)) : List (Nat × AVal) → Option (List (List AVal))
  | [] => some es
  | (i, v) :: rest => if v.cells.length = size ∧ i < es.length ∧ v.cells.all AVal.sc = true then fillEs size (es.set i v.cells) rest else none

/-! ### Slices handed to a call are frozen -/
def fzL {α : Type} (f : AVal → (AVal → List Upd → Rd α) → Rd α) : List AVal → (List AVal → List Upd → Rd α) → Rd α
  | [], k => k [] []
  | v :: vs, k => f v fun v' u => fzL f vs fun vs' u' => k (v' :: vs') (u ++ u')

def fzLL {α : Type} (f : AVal → (AVal → List Upd → Rd α) → Rd α) : List (List AVal) → (List (List AVal) → List Upd → Rd α) → Rd α
  | [], k => k [] []
  | v :: vs, k => fzL f v fun v' u => fzLL f vs fun vs' u' => k (v' :: vs') (u ++ u')

def fz {α : Type} : Nat → AVal → (AVal → List Upd → Rd α) → Rd α
  | 0, _, _ => .fail
  | d + 1, .sl b g lo n, k => row? b g fun sz es _ =>
      if flatEs es then k (.il ((es.drop lo).take n) false) [(b, some (.row sz es g false))]
      else fzLL (fz d) ((es.drop lo).take n) fun es' u => k (.il es' false) (u ++ [(b, some (.row sz es g false))])
  | d + 1, .agg cs, k => fzL (fz d) cs fun cs' u => k (.agg cs') u
  | _ + 1, .mp b g, k => map? b g fun es _ => k (.im es) [(b, none)]
  | _ + 1, v, k => k v []

/-! ### One operation -/
structure Ext where
  spec : FuncId → List AVal → Nat → Nat → Rd Delta
  raw : FuncId → Bool

def asI : AVal → Option Int
  | .int _ n => some n
  | _ => none

def optA (ρ : Operand → AVal) (x : Option Operand) (dflt : Int) : Option Int :=
  match x with
  | none => some dflt
  | some o => asI (ρ o)

/-- How many bytes a slice may have. -/
def room : Nat := 140737488355328

section
variable (P : Program) (X : Ext) (ρ : Operand → AVal) (nx G : Nat)

def valR (v : AVal) : Rd Delta := .ret ⟨v, [], nx, G⟩

def newRow (v : Nat → Nat → AVal) (sz : Nat) (es : List (List AVal)) : Rd Delta :=
  .ret ⟨v nx G, [(nx, some (.row sz es G true))], nx + 1, G + 1⟩

def loadR (t : TypeId) (a : AVal) : Rd Delta :=
  ofOpt (tiOf P t) fun ti =>
    match a with
    | .ptr b g i off => row? b g fun _ es _ => ofOpt es[i]? fun cs => ofOpt (partA ti.agg ti.size off cs) (valR nx G)
    | .pim cs off => ofOpt (partA ti.agg ti.size off cs) (valR nx G)
    | _ => .fail

def storeR (t : TypeId) (a v : AVal) : Rd Delta :=
  ofOpt (tiOf P t) fun ti =>
    match a with
    | .ptr b g i off => row? b g fun sz es wr => ofOpt es[i]? fun cs =>
        if wr = true ∧ v.cells.length = ti.size ∧ off + ti.size ≤ cs.length ∧ v.cells.all AVal.sc = true then
          .ret ⟨.tup [], [(b, some (.row sz (es.set i (setCs cs off v.cells)) g true))], nx, G⟩
        else .fail
    | _ => .fail

def nilCheckR (a : AVal) : Rd Delta :=
  match a with
  | .ptr b g _ _ => row? b g fun _ _ _ => valR nx G a
  | .pim _ _ => valR nx G a
  | .fn (.func _) _ _ => valR nx G a
  | _ => .fail

def fieldAddrR (s : TypeId) (a : AVal) (f : Nat) : Rd Delta :=
  ofOpt (tiOf P s) fun ti =>
    match ti.kind with
    | .strct fs => ofOpt fs[f]? fun x => ofOpt (tiOf P x.2.1) fun fi =>
        if fi.size = 0 then .fail else
        match a with
        | .ptr b g i off => row? b g fun _ _ _ => valR nx G (.ptr b g i (off + x.1))
        | .pim cs off => valR nx G (.pim cs (off + x.1))
        | _ => .fail
    | _ => .fail

def indexAddrR (t : TypeId) (x ix : AVal) : Rd Delta :=
  ofOpt (tiOf P t) fun ti => ofOpt (asI ix) fun i =>
    match ti.kind with
    | .slice e => match x with
      | .sl b g lo n => ofOpt (tiOf P e) fun ei => row? b g fun sz _ _ => if 0 ≤ i ∧ i < n ∧ sz = ei.size then valR nx G (.ptr b g (lo + i.toNat) 0) else .fail
      | .il es _ => ofOpt (tiOf P e) fun ei => if 0 ≤ i ∧ i < es.length ∧ okEs ei.size es = true then ofOpt es[i.toNat]? fun cs => valR nx G (.pim cs 0) else .fail
      | _ => .fail
    | .arr n e => ofOpt (tiOf P e) fun ei =>
        if 0 ≤ i ∧ i < n then
          match x with
          | .ptr b g j off => row? b g fun _ _ _ => valR nx G (.ptr b g j (off + i.toNat * ei.size))
          | .pim cs off => valR nx G (.pim cs (off + i.toNat * ei.size))
          | _ => .fail
        else .fail
    | _ => .fail

def indexR (t : TypeId) (x ix : AVal) : Rd Delta :=
  ofOpt (tiOf P t) fun ti => ofOpt (asI ix) fun i =>
    match ti.kind, x with
    | .arr n e, .agg cs => ofOpt (tiOf P e) fun ei =>
        if 0 ≤ i ∧ i < n then ofOpt (partA ei.agg ei.size (i.toNat * ei.size) cs) (valR nx G) else .fail
    | _, _ => .fail

def fieldR (t : TypeId) (x : AVal) (f : Nat) : Rd Delta :=
  ofOpt (tiOf P t) fun ti =>
    match ti.kind, x with
    | .strct fs, .agg cs => ofOpt fs[f]? fun y => ofOpt (tiOf P y.2.1) fun fi => ofOpt (partA fi.agg fi.size y.1 cs) (valR nx G)
    | _, _ => .fail

def sliceR (t : TypeId) (x : AVal) (lo hi mx : Option Operand) : Rd Delta :=
  ofOpt (tiOf P t) fun ti =>
    match ti.kind with
    | .slice e => ofOpt (tiOf P e) fun ei =>
      match x with
      | .sl b g s n => row? b g fun sz es _ => ofOpt (optA ρ lo 0) fun l => ofOpt (optA ρ hi n) fun h =>
          if 0 ≤ l ∧ l ≤ h ∧ h ≤ n ∧ sz = ei.size then
            match mx with
            | none => valR nx G (.sl b g (s + l.toNat) (h - l).toNat)
            | some m => ofOpt (asI (ρ m)) fun m => if m = h ∧ hi.isSome = true ∧ flatEs es = true then
                .ret ⟨.il ((es.drop (s + l.toNat)).take (h - l).toNat) true, [(b, some (.row sz es g false))], nx, G⟩ else .fail
          else .fail
      | .il es ex => ofOpt (optA ρ lo 0) fun l => ofOpt (optA ρ hi es.length) fun h =>
          if 0 ≤ l ∧ l ≤ h ∧ h ≤ es.length ∧ okEs ei.size es = true then
            match mx with
            | none => valR nx G (.il ((es.drop l.toNat).take (h - l).toNat) (ex && h == es.length))
            | some m => ofOpt (asI (ρ m)) fun m => if m = h ∧ hi.isSome = true then
                valR nx G (.il ((es.drop l.toNat).take (h - l).toNat) true) else .fail
          else .fail
      | _ => .fail
    | _ => .fail

def lookRes (zero : AVal) (ok : Bool) (r : Option AVal) : Rd Delta :=
  valR nx G (if ok then .tup [r.getD zero, .bool r.isSome] else r.getD zero)

def lookupR (t : TypeId) (m k : AVal) (ok : Bool) : Rd Delta :=
  ofOpt (tiOf P t) fun ti =>
    match ti.kind with
    | .map kt e => ofOpt (tiOf P e) fun ei =>
        if keyT P eqD kt k = false then .fail else
        match m with
        | .mp b g => map? b g fun es _ => ofOpt (findA (eqT P eqD kt) k es) fun r => lookRes nx G ei.zero ok r
        | .im es => ofOpt (findA (eqT P eqD kt) k es) fun r => lookRes nx G ei.zero ok r
        | _ => .fail
    | _ => .fail

def mapUpdateR (t : TypeId) (m k v : AVal) : Rd Delta :=
  ofOpt (tiOf P t) fun ti =>
    match ti.kind, m with
    | .map kt _, .mp b g => if keyT P eqD kt k = false then .fail else map? b g fun es ver => ofOpt (upsertA (eqT P eqD kt) k v es) fun es' =>
        .ret ⟨.tup [], [(b, some (.map es' g (ver + 1)))], nx, G⟩
    | _, _ => .fail

/-- The elements of what is appended. -/
def elems {α : Type} (x : AVal) (k : List (List AVal) → Rd α) : Rd α :=
  match x with
  | .il es _ => k es
  | .sl b g lo n => row? b g fun _ es _ => k ((es.drop lo).take n)
  | _ => .fail

/-- 'append(s, xs..)' at elements of the type e. -/
def appR (ei : TI) (s : AVal) (xs : List (List AVal)) : Rd Delta :=
  if ei.size = 0 ∨ okEs ei.size xs = false ∨ ei.zero.cells.length ≠ ei.size then .fail else
  match s with
  | .il es ex =>
    if ex = true ∧ (es = [] ∨ xs ≠ []) ∧ okEs ei.size es = true ∧ (es.length + xs.length) * max 1 ei.bytes ≤ room then
      newRow nx G (fun b g => .sl b g 0 (es.length + xs.length)) ei.size (es ++ xs)
    else .fail
  | .sl b g lo n => row? b g fun sz es wr =>
    if (lo + n = es.length ∨ (wr = true ∧ lo + n ≤ es.length)) ∧ sz = ei.size ∧ (n + xs.length) * max 1 ei.bytes ≤ room then
      .ret ⟨.sl b G 0 (n + xs.length), [(b, some (.row sz ((es.drop lo).take n ++ xs) G wr))], nx, G + 1⟩
    else .fail
  | _ => .fail

def appendR (t : TypeId) (s x : AVal) : Rd Delta :=
  ofOpt (tiOf P t) fun ti =>
    match ti.kind with
    | .slice e => ofOpt (tiOf P e) fun ei => elems x fun xs => appR nx G ei s xs
    | _ => .fail

/-- 'append(s, make([]E, n)...)', where s is nil. -/
def appendZerosR (t : TypeId) (s : AVal) (n : Int) : Rd Delta :=
  ofOpt (tiOf P t) fun ti =>
    match ti.kind, s with
    | .slice e, .il [] true => ofOpt (tiOf P e) fun ei =>
        if 0 ≤ n ∧ ei.zero.cells.length = ei.size then appR nx G ei s (List.replicate n.toNat ei.zero.cells) else .fail
    | _, _ => .fail

def lenR (x : AVal) : Rd Delta :=
  match x with
  | .il es _ => valR nx G (.int .i64 es.length)
  | .sl b g _ n => row? b g fun _ _ _ => valR nx G (.int .i64 n)
  | .im es => valR nx G (.int .i64 es.length)
  | .mp b g => map? b g fun es _ => valR nx G (.int .i64 es.length)
  | _ => .fail

def deleteR (t : TypeId) (m k : AVal) : Rd Delta :=
  ofOpt (tiOf P t) fun ti =>
    match ti.kind, m with
    | .map kt _, .mp b g => if keyT P eqD kt k = false then .fail else map? b g fun es ver => ofOpt (eraseA (eqT P eqD kt) k es) fun es' =>
        .ret ⟨.tup [], [(b, some (.map es' g (ver + 1)))], nx, G⟩
    | _, _ => .fail

def clearR (t : TypeId) (m : AVal) : Rd Delta :=
  ofOpt (tiOf P t) fun ti =>
    match ti.kind, m with
    | .map _ _, .mp b g => map? b g fun _ ver => .ret ⟨.tup [], [(b, some (.map [] g (ver + 1)))], nx, G⟩
    | _, _ => .fail

def builtinR (b : Builtin) (ts : Array TypeId) (args : List AVal) : Rd Delta :=
  match b, args with
  | .append, [s, .int .i64 n] => ofOpt ts[0]? fun t => ofOpt ts[1]? fun u => ofOpt (tiOf P u) fun ui => match ui.kind with
      | .int _ => appendZerosR P nx G t s n
      | _ => .fail
  | .append, [s, x] => if ts[0]? = ts[1]? then ofOpt ts[0]? fun t => appendR P nx G t s x else .fail
  | .len, [x] => ofOpt ts[0]? fun t => ofOpt (tiOf P t) fun ti => match ti.kind with
      | .slice _ => (match x with | .il _ _ | .sl _ _ _ _ => lenR nx G x | _ => .fail)
      | .map _ _ => (match x with | .im _ | .mp _ _ => lenR nx G x | _ => .fail)
      | _ => .fail
  | .cap, [.il es true] => ofOpt ts[0]? fun t => ofOpt (tiOf P t) fun ti => match ti.kind with
      | .slice _ => valR nx G (.int .i64 es.length)
      | _ => .fail
  | .min, [.int k a, .int k' b] => if k = k' then valR nx G (.int k (if b < a then b else a)) else .fail
  | .delete, [m, k] => ofOpt ts[0]? fun t => deleteR P nx G t m k
  | .clear, [m] => ofOpt ts[0]? fun t => clearR P nx G t m
  | _, _ => .fail

def callR (f : AVal) (args : List AVal) : Rd Delta :=
  match f with
  | .fn (.func id) first captured =>
    let all := first ++ args ++ captured
    if X.raw id then X.spec id all nx G
    else fzL (fz 4) all fun all' u => match X.spec id all' nx G with
      | r => bindUpd u r
  | _ => .fail
where bindUpd (u : List Upd) : Rd Delta → Rd Delta
  | .ret d => .ret { d with upd := u ++ d.upd }
  | .fail => .fail
  | .get b k => .get b fun o => bindUpd u (k ((u.reverse.find? (·.1 = b)).elim o (·.2)))

def buildR (t : TypeId) (parts : List (Nat × AVal)) : Rd Delta :=
  ofOpt (tiOf P t) fun ti =>
    match ti.kind with
    | .strct fs => ofOpt (fs.mapM fun f => (tiOf P f.2.1).map fun fi => (f.1, fi.size)) fun pl =>
        ofOpt (fillA (pl[·]?) ti.zero.cells parts) fun cs => valR nx G (.agg cs)
    | .arr _ e => ofOpt (tiOf P e) fun ei => ofOpt (fillA (fun i => some (i * ei.size, ei.size)) ti.zero.cells parts) fun cs => valR nx G (.agg cs)
    | _ => .fail

def buildSliceR (t : TypeId) (len : Nat) (parts : List (Nat × AVal)) : Rd Delta :=
  ofOpt (tiOf P t) fun ti =>
    match ti.kind with
    | .slice e => ofOpt (tiOf P e) fun ei =>
        if ei.size = 0 ∨ len * ei.size > 2 ^ 24 ∨ ei.zero.cells.length ≠ ei.size then .fail else
        ofOpt (fillEs ei.size (List.replicate len ei.zero.cells) parts) fun es =>
          newRow nx G (fun b g => .sl b g 0 len) ei.size es
    | _ => .fail

def makeSliceR (t : TypeId) (l c : AVal) : Rd Delta :=
  ofOpt (tiOf P t) fun ti =>
    match ti.kind, l, c with
    | .slice e, .int .i64 l, .int .i64 c => ofOpt (tiOf P e) fun ei =>
        if ei.size ≠ 0 ∧ ei.zero.cells.length = ei.size ∧ 0 ≤ l ∧ l ≤ c ∧ c * (max 1 ei.bytes : Nat) ≤ room then
          newRow nx G (fun b g => .sl b g 0 l.toNat) ei.size (List.replicate l.toNat ei.zero.cells)
        else .fail
    | _, _, _ => .fail

def convertR (src dst : TypeId) (x : AVal) : Rd Delta :=
  ofOpt (tiOf P src) fun _ => ofOpt (tiOf P dst) fun di =>
    match di.kind, x with
    | .int k, .int _ n => valR nx G (.int k (k.wrap n))
    | _, _ => .fail

def opR (o : Oper) : Rd Delta :=
  match o.op with
  | .move x | .assign x => valR nx G (ρ x)
  | .pick c a b => match ρ c with
      | .bool t => valR nx G (if t then ρ a else ρ b)
      | _ => .fail
  | .alloc t => ofOpt (tiOf P t) fun ti => if ti.zero.cells.length = ti.size then newRow nx G (fun b g => .ptr b g 0 0) ti.size [ti.zero.cells] else .fail
  | .box t x => ofOpt (tiOf P t) fun ti =>
      let v := ρ x
      if v.cells.length = ti.size ∧ v.cells.all AVal.sc = true then newRow nx G (fun b g => .ptr b g 0 0) ti.size [v.cells] else .fail
  | .build t parts => buildR P nx G t (parts.toList.map fun p => (p.1, ρ p.2))
  | .buildSlice t len parts => buildSliceR P nx G t len (parts.toList.map fun p => (p.1, ρ p.2))
  | .load t a => loadR P nx G t (ρ a)
  | .store t a v => storeR P nx G t (ρ a) (ρ v)
  | .nilCheck x => nilCheckR nx G (ρ x)
  | .binOp op t x y _ => if isNilSlice y then ofOpt (nilA P op t (ρ x)) (valR nx G) else ofOpt (binA P op t (ρ x) (ρ y)) (valR nx G)
  | .unOp op _ x => ofOpt (unA op (ρ x)) (valR nx G)
  | .convert s d x => convertR P nx G s d (ρ x)
  | .makeFunc f first captured => valR nx G (.fn f (first.toList.map ρ) (captured.toList.map ρ))
  | .makeMap _ none => .ret ⟨.mp nx G, [(nx, some (.map [] G 0))], nx + 1, G + 1⟩
  | .makeSlice t l c => makeSliceR P nx G t (ρ l) (ρ c)
  | .slice t x lo hi mx => sliceR P ρ nx G t (ρ x) lo hi mx
  | .fieldAddr s x f => fieldAddrR P nx G s (ρ x) f
  | .field t x f => fieldR P nx G t (ρ x) f
  | .indexAddr t x i => indexAddrR P nx G t (ρ x) (ρ i)
  | .index t x i => indexR P nx G t (ρ x) (ρ i)
  | .lookup t m k ok => lookupR P nx G t (ρ m) (ρ k) ok
  | .mapUpdate t m k v | .insert t m k v => mapUpdateR P nx G t (ρ m) (ρ k) (ρ v)
  | .extract t i => match ρ t with
      | .tup vs => ofOpt vs[i]? (valR nx G)
      | _ => .fail
  | .call c => match c.callee with
      | .builtin b => if c.argTypes.size ≤ 2 then builtinR P nx G b c.argTypes (c.args.toList.map ρ) else .fail
      | .value f => callR X nx G (ρ f) (c.args.toList.map ρ)
      | .invoke _ _ => .fail
  | _ => .fail
end

/-! ### The state, and a list of operations -/
structure St where
  tmps : List (Nat × AVal)
  heap : AHeap
  nx : Nat
  G : Nat
  deriving Inhabited

def St.ev (s : St) : Operand → AVal
  | .tmp t => tget s.tmps t
  | .const v => ofVal v
  | .func f => .fn (.func f) [] []
  | .global _ => .undef

def St.put (s : St) (d : Option Tmp) (v : AVal) : St :=
  match d with
  | some d => { s with tmps := (d, v) :: s.tmps }
  | none => s

def St.app (s : St) (d : Option Tmp) (x : Delta) : St :=
  { tmps := match d with | some d => (d, x.v) :: s.tmps | none => s.tmps, heap := x.upd.reverse ++ s.heap, nx := x.nx, G := x.G }

/-- Is a guarded operation carried out? none: its guard is no bool. -/
def wantedA (ops : Array Oper) (s : St) (o : Oper) : Option Bool :=
  match o.guard with
  | none => some true
  | some (j, want) => match (ops[j]?).bind (·.dst) with
    | some d => match tget s.tmps d with
      | .bool b => some (b == want)
      | .tup [] => some false
      | _ => none
    | none => none

end Go.AI

namespace Go.AI

/-- A configuration: the abstract heap, where its blocks lie (block, first cell), which generations are known, which cells are not to be leant on, the world. -/
structure Cfg where
  h : Nat → Option AObj
  ι : Nat → Option (Nat × Nat)
  K : Nat → Prop
  forb : Nat → Nat → Prop
  w : World

/-- Cells of its block that an owned object will not change. -/
def AObj.leaves : AObj → Nat → Nat → Prop
  | .row sz es _ wr, s, o => o < s + (if wr then 0 else es.length * sz)
  | .map _ _ _, _, _ => False

/-- A cell that nobody will change. -/
def Cfg.safe (C : Cfg) (B o : Nat) : Prop := ¬ C.forb B o ∧ ∀ b x s, C.h b = some x → C.ι b = some (B, s) → x.leaves s o

inductive VRep (C : Cfg) : AVal → Value → Prop
  | int (k : IntKind) (n : Int) : VRep C (.int k n) (.int k n)
  | bool (b : Bool) : VRep C (.bool b) (.bool b)
  | anyb (b : Bool) : VRep C .anyb (.bool b)
  | str (s : ByteArray) : VRep C (.str s) (.string s)
  | agg (cs : List AVal) (vs : Array Value) (hl : cs.length = vs.size) (h : ∀ (i : Nat) (a : AVal) (v : Value), cs[i]? = some a → vs[i]? = some v → VRep C a v) : VRep C (.agg cs) (.agg vs)
  | tup (cs : List AVal) (vs : Array Value) (hl : cs.length = vs.size) (h : ∀ (i : Nat) (a : AVal) (v : Value), cs[i]? = some a → vs[i]? = some v → VRep C a v) : VRep C (.tup cs) (.tuple vs)
  | nilp : VRep C .nilp (.pointer none)
  | ptr (b g i off : Nat) (p : Option Addr) (hk : C.K g)
      (h : ∀ sz es wr, C.h b = some (.row sz es g wr) → ∃ B s, C.ι b = some (B, s) ∧ p = some ⟨B, s + i * sz + off, none⟩) : VRep C (.ptr b g i off) (.pointer p)
  | pim (cs : List AVal) (off B o : Nat) (vs : Nat → Value) (hv : ∀ j a, cs[j]? = some a → VRep C a (vs j))
      (hc : ∀ j a, cs[j]? = some a → C.w.cell? ⟨B, o + j, none⟩ = some (vs j) ∧ C.safe B (o + j)) : VRep C (.pim cs off) (.pointer (some ⟨B, o + off, none⟩))
  | sl (b g lo n : Nat) (p : Option Addr) (m cap : Nat) (hk : C.K g)
      (h : ∀ sz es wr, C.h b = some (.row sz es g wr) → m = n ∧ lo + n ≤ es.length ∧ ((n = 0 ∧ cap = 0) ∨
        ∃ B s T N, C.ι b = some (B, s) ∧ p = some ⟨B, s + lo * sz, none⟩ ∧ C.w.shape? B = some (T, N) ∧ n ≤ cap ∧ s + lo * sz + cap * sz ≤ N ∧ cap ≤ maxLen)) : VRep C (.sl b g lo n) (.slice p m cap)
  | il (es : List (List AVal)) (ex : Bool) (p : Option Addr) (cap B o sz : Nat) (vs : Nat → Nat → Value) (hcap : es.length ≤ cap) (hex : ex = true → cap = es.length) (hmax : cap ≤ maxLen)
      (hp : es ≠ [] → p = some ⟨B, o, none⟩) (hsz : ∀ e ∈ es, e.length = sz) (hv : ∀ i j e a, es[i]? = some e → e[j]? = some a → VRep C a (vs i j))
      (hc : ∀ i j e a, es[i]? = some e → e[j]? = some a → C.w.cell? ⟨B, o + (i * sz + j), none⟩ = some (vs i j) ∧ C.safe B (o + (i * sz + j))) : VRep C (.il es ex) (.slice p es.length cap)
  | mp (b g : Nat) (r : Option Nat) (hk : C.K g) (h : ∀ es v, C.h b = some (.map es g v) → ∃ B, C.ι b = some (B, 0) ∧ r = some B) : VRep C (.mp b g) (.map r)
  | im0 : VRep C (.im []) (.map none)
  | im (es : List (AVal × AVal)) (B : Nat) (ents : Array MapEntry) (clock : Nat) (hb : C.w.heap[B]? = some (.map ents clock)) (hl : ents.size = es.length)
      (hk : ∀ (i : Nat) k v (e : MapEntry), es[i]? = some (k, v) → ents[i]? = some e → VRep C k e.key) (hv : ∀ (i : Nat) k v (e : MapEntry), es[i]? = some (k, v) → ents[i]? = some e → VRep C v e.val)
      (hborn : ∀ (i j : Nat) (e f : MapEntry), ents[i]? = some e → ents[j]? = some f → e.born = f.born → i = j) (hclock : ∀ (i : Nat) (e : MapEntry), ents[i]? = some e → e.born < clock)
      (hs : ∀ o, C.safe B o) : VRep C (.im es) (.map (some B))
  | fn (f : Fn) (fs cs : List AVal) (us vs : Array Value) (h1 : fs.length = us.size) (h2 : cs.length = vs.size)
      (hf : ∀ (i : Nat) (a : AVal) (v : Value), fs[i]? = some a → us[i]? = some v → VRep C a v) (hc : ∀ (i : Nat) (a : AVal) (v : Value), cs[i]? = some a → vs[i]? = some v → VRep C a v) : VRep C (.fn f fs cs) (.func f us vs)
  | nilf : VRep C .nilf .nilFunc
  | raw (v : Value) : VRep C (.raw v) v
  | undef (v : Value) : VRep C .undef v

/-- One object of the abstract heap, and its block. -/
def ObjOk (C : Cfg) (b : Nat) : AObj → Prop
  | .row sz es g _ => C.K g ∧ (∀ e ∈ es, e.length = sz) ∧
      (C.ι b = none ∧ es = [] ∨ ∃ B s c T, C.ι b = some (B, s) ∧ C.w.heap[B]? = some (.cells c T (0, 0)) ∧ s + es.length * sz ≤ c.size ∧
        ∀ i j e a, es[i]? = some e → e[j]? = some a → ∃ v, c[s + (i * sz + j)]? = some v ∧ VRep C a v)
  | .map es g _ => C.K g ∧ ∃ B ents clock, C.ι b = some (B, 0) ∧ C.w.heap[B]? = some (.map ents clock) ∧ ents.size = es.length ∧
      (∀ (i : Nat) k v (e : MapEntry), es[i]? = some (k, v) → ents[i]? = some e → VRep C k e.key ∧ VRep C v e.val) ∧
      (∀ (i j : Nat) (e f : MapEntry), ents[i]? = some e → ents[j]? = some f → e.born = f.born → i = j) ∧ (∀ (i : Nat) (e : MapEntry), ents[i]? = some e → e.born < clock)

def Cfg.owned (C : Cfg) (B : Nat) : Prop := ∃ b x s, C.h b = some x ∧ C.ι b = some (B, s)

structure Valid (C : Cfg) : Prop where
  obj : ∀ b x, C.h b = some x → ObjOk C b x
  inj : ∀ b b' x x' B s s', C.h b = some x → C.h b' = some x' → C.ι b = some (B, s) → C.ι b' = some (B, s') → b = b'
  old : ∀ b x B s, C.h b = some x → C.ι b = some (B, s) → B < C.w.heap.size
  forb : ∀ B o, C.forb B o → B < C.w.heap.size ∧ ¬ C.owned B

/-- What stays of an object that changes without a new generation. -/
def sameKind : AObj → AObj → Prop
  | .row sz es g _, .row sz' es' g' _ => sz' = sz ∧ g' = g ∧ es.length ≤ es'.length
  | .map _ g _, .map _ g' _ => g' = g
  | _, _ => False

theorem sameKind_refl (x : AObj) : sameKind x x := by cases x <;> simp [sameKind]

/-- From C to C': all that is represented stays so. -/
structure Grow (C C' : Cfg) : Prop where
  K : ∀ g, C.K g → C'.K g
  live : ∀ b x', C'.h b = some x' → C.K x'.gen → ∃ x, C.h b = some x ∧ C'.ι b = C.ι b ∧ sameKind x x'
  cell : ∀ B o v, C.w.cell? ⟨B, o, none⟩ = some v → C.safe B o → C'.w.cell? ⟨B, o, none⟩ = some v ∧ C'.safe B o
  mapo : ∀ B ents clock, C.w.heap[B]? = some (.map ents clock) → (∀ o, C.safe B o) → C'.w.heap[B]? = some (.map ents clock) ∧ ∀ o, C'.safe B o
  shape : ∀ B x, C.w.shape? B = some x → C'.w.shape? B = some x

theorem Grow.refl (C : Cfg) : Grow C C := ⟨fun _ h => h, fun _ x h _ => ⟨x, h, rfl, sameKind_refl x⟩, fun _ _ _ h s => ⟨h, s⟩, fun _ _ _ h s => ⟨h, s⟩, fun _ _ h => h⟩

theorem sameKind_trans {x y z : AObj} (h : sameKind x y) (h' : sameKind y z) : sameKind x z := by
  cases x <;> cases y <;> cases z <;> simp only [sameKind] at * <;> omega

theorem sameKind_gen {x y : AObj} (h : sameKind x y) : y.gen = x.gen := by
  cases x <;> cases y <;> simp only [sameKind] at h <;> simp [AObj.gen, h]

theorem Grow.trans {A B C : Cfg} (h : Grow A B) (h' : Grow B C) : Grow A C :=
  ⟨fun g k => h'.K g (h.K g k),
   fun b x' hx hk => by
    obtain ⟨y, hy, hi, hs⟩ := h'.live b x' hx (h.K _ hk)
    obtain ⟨x, hx2, hi2, hs2⟩ := h.live b y hy (by rw [← sameKind_gen hs]; exact hk)
    exact ⟨x, hx2, hi.trans hi2, sameKind_trans hs2 hs⟩,
   fun B o v hc hs => let ⟨h1, h2⟩ := h.cell B o v hc hs; h'.cell B o v h1 h2,
   fun B e c hb hs => let ⟨h1, h2⟩ := h.mapo B e c hb hs; h'.mapo B e c h1 h2,
   fun B x hx => h'.shape B x (h.shape B x hx)⟩

theorem Grow.rep {C C' : Cfg} (G : Grow C C') {a : AVal} {v : Value} (h : VRep C a v) : VRep C' a v := by
  induction h with
  | int k n => exact .int k n
  | bool b => exact .bool b
  | anyb b => exact .anyb b
  | str s => exact .str s
  | agg cs vs hl _ ih => exact .agg cs vs hl ih
  | tup cs vs hl _ ih => exact .tup cs vs hl ih
  | nilp => exact .nilp
  | ptr b g i off p hk h =>
    refine .ptr b g i off p (G.K g hk) fun sz es wr hb => ?_
    obtain ⟨x, hx, hi, hs⟩ := G.live b _ hb hk
    cases x with
    | row sz0 es0 g0 wr0 =>
      obtain ⟨rfl, rfl, hle⟩ := hs
      obtain ⟨B, s, h1, h2⟩ := h _ _ _ hx
      exact ⟨B, s, hi.trans h1, h2⟩
    | map _ _ _ => exact hs.elim
  | pim cs off B o vs _ hc ih => exact .pim cs off B o vs ih fun j a hj => let ⟨h1, h2⟩ := hc j a hj; G.cell _ _ _ h1 h2
  | sl b g lo n p m cap hk h =>
    refine .sl b g lo n p m cap (G.K g hk) fun sz es wr hb => ?_
    obtain ⟨x, hx, hi, hs⟩ := G.live b _ hb hk
    cases x with
    | row sz0 es0 g0 wr0 =>
      obtain ⟨rfl, rfl, hle⟩ := hs
      obtain ⟨h0, h1, h2⟩ := h _ _ _ hx
      refine ⟨h0, by omega, ?_⟩
      rcases h2 with h2 | ⟨B, s, T, N, h3, h4, h5, h6⟩
      · exact .inl h2
      · exact .inr ⟨B, s, T, N, hi.trans h3, h4, G.shape _ _ h5, h6⟩
    | map _ _ _ => exact hs.elim
  | il es ex p cap B o sz vs hcap hex hmax hp hsz _ hc ih => exact .il es ex p cap B o sz vs hcap hex hmax hp hsz ih fun i j e a hi hj => let ⟨h1, h2⟩ := hc i j e a hi hj; G.cell _ _ _ h1 h2
  | mp b g r hk h =>
    refine .mp b g r (G.K g hk) fun es v hb => ?_
    obtain ⟨x, hx, hi, hs⟩ := G.live b _ hb hk
    cases x with
    | row _ _ _ _ => exact hs.elim
    | map es0 g0 v0 =>
      obtain rfl := hs
      obtain ⟨B, h1, h2⟩ := h _ _ hx
      exact ⟨B, hi.trans h1, h2⟩
  | im0 => exact .im0
  | im es B ents clock hb hl _ _ hborn hclock hs ihk ihv =>
    obtain ⟨h1, h2⟩ := G.mapo B ents clock hb hs
    exact .im es B ents clock h1 hl ihk ihv hborn hclock h2
  | fn f fs cs us vs h1 h2 _ _ ih1 ih2 => exact .fn f fs cs us vs h1 h2 ih1 ih2
  | nilf => exact .nilf
  | raw v => exact .raw v
  | undef v => exact .undef v

/-- What is as it was for whoever owns nothing here. -/
structure Fr (C C' : Cfg) : Prop where
  size : C.w.heap.size ≤ C'.w.heap.size
  same : ∀ B, B < C.w.heap.size → ¬ C.owned B → C'.w.heap[B]? = C.w.heap[B]?
  own : ∀ B, C'.owned B → C.owned B ∨ C.w.heap.size ≤ B
  os : C'.w.os = C.w.os
  tape : C'.w.tape = C.w.tape
  output : C'.w.output = C.w.output
  forb : C'.forb = C.forb

theorem Fr.refl (C : Cfg) : Fr C C := ⟨Nat.le_refl _, fun _ _ _ => rfl, fun _ h => .inl h, rfl, rfl, rfl, rfl⟩

theorem Fr.trans {A B C : Cfg} (h : Fr A B) (h' : Fr B C) : Fr A C :=
  ⟨Nat.le_trans h.size h'.size,
   fun b hb ho => (h'.same b (Nat.lt_of_lt_of_le hb h.size) (fun h1 => (h.own b h1).elim ho (by omega))).trans (h.same b hb ho),
   fun b hb => (h'.own b hb).elim (fun h1 => h.own b h1) (fun h1 => .inr (Nat.le_trans h.size h1)),
   h'.os.trans h.os, h'.tape.trans h.tape, h'.output.trans h.output, h'.forb.trans h.forb⟩

/-! ### One block changes -/
def setAt {α : Type} (f : Nat → α) (b : Nat) (x : α) : Nat → α := fun c => if c = b then x else f c

theorem setAt_same {α : Type} (f : Nat → α) (b : Nat) (x : α) : setAt f b x b = x := by simp [setAt]
theorem setAt_ne {α : Type} (f : Nat → α) {b c : Nat} (x : α) (h : c ≠ b) : setAt f b x c = f c := by simp [setAt, h]

/-- What a change of block b owes. -/
structure Chg (C : Cfg) (b : Nat) (x' : Option AObj) (p' : Option (Nat × Nat)) (w' : World) (G G' : Nat) : Prop where
  size : C.w.heap.size ≤ w'.heap.size
  other : ∀ B, B < C.w.heap.size → (∀ x s, C.h b = some x → C.ι b = some (B, s) → False) → w'.heap[B]? = C.w.heap[B]?
  cells : ∀ x B s, C.h b = some x → C.ι b = some (B, s) → ∀ o v, x.leaves s o → C.w.cell? ⟨B, o, none⟩ = some v → w'.cell? ⟨B, o, none⟩ = some v
  leave : ∀ x B s y s', C.h b = some x → C.ι b = some (B, s) → x' = some y → p' = some (B, s') → ∀ o, x.leaves s o → y.leaves s' o
  blk : ∀ y B s', x' = some y → p' = some (B, s') → (C.w.heap.size ≤ B ∧ B < w'.heap.size) ∨ ∃ x s, C.h b = some x ∧ C.ι b = some (B, s)
  shape : ∀ B y, C.w.shape? B = some y → w'.shape? B = some y
  gen : ∀ y, x' = some y → (¬ C.K y.gen ∧ G ≤ y.gen ∧ y.gen < G') ∨ ∃ x, C.h b = some x ∧ p' = C.ι b ∧ sameKind x y
  os : w'.os = C.w.os
  tape : w'.tape = C.w.tape
  output : w'.output = C.w.output

def Cfg.chg (C : Cfg) (b : Nat) (x' : Option AObj) (p' : Option (Nat × Nat)) (w' : World) (G G' : Nat) : Cfg :=
  ⟨setAt C.h b x', setAt C.ι b p', fun g => C.K g ∨ (G ≤ g ∧ g < G'), C.forb, w'⟩

section
variable {C : Cfg} {b : Nat} {x' : Option AObj} {p' : Option (Nat × Nat)} {w' : World} {G G' : Nat}

theorem chg_safe (hc : Chg C b x' p' w' G G') {B o : Nat} (hs : C.safe B o) (hB : B < C.w.heap.size) : (C.chg b x' p' w' G G').safe B o := by
  refine ⟨hs.1, fun c y s hy hi => ?_⟩
  simp only [Cfg.chg, setAt] at hy hi
  by_cases hcb : c = b
  · rw [if_pos hcb] at hy hi
    rcases hc.blk y B s hy hi with h1 | ⟨x, s0, hx, hi0⟩
    · omega
    · exact hc.leave x B s0 y s hx hi0 hy hi o (hs.2 b x s0 hx hi0)
  · rw [if_neg hcb] at hy hi
    exact hs.2 c y s hy hi

theorem chg_grow (hc : Chg C b x' p' w' G G') : Grow C (C.chg b x' p' w' G G') := by
  refine ⟨fun g h => .inl h, fun c y hy hk => ?_, fun B o v hcell hs => ?_, fun B ents clock hb hs => ?_, hc.shape⟩
  · simp only [Cfg.chg, setAt] at hy ⊢
    by_cases hcb : c = b
    · rw [if_pos hcb] at hy ⊢
      subst hcb
      rcases hc.gen y hy with h1 | ⟨x, hx, hp, hs⟩
      · exact absurd hk h1.1
      · exact ⟨x, hx, hp, hs⟩
    · rw [if_neg hcb] at hy ⊢
      exact ⟨y, hy, rfl, sameKind_refl y⟩
  · have hB : B < C.w.heap.size := World.block_lt_of_cell? C.w ⟨B, o, none⟩ hcell
    refine ⟨?_, chg_safe hc hs hB⟩
    by_cases h1 : ∃ x s, C.h b = some x ∧ C.ι b = some (B, s)
    · obtain ⟨x, s, hx, hi⟩ := h1
      exact hc.cells x B s hx hi o v (hs.2 b x s hx hi) hcell
    · have := hc.other B hB (fun x s hx hi => h1 ⟨x, s, hx, hi⟩)
      simp only [World.cell?, Cfg.chg, this] at hcell ⊢
      exact hcell
  · have hB : B < C.w.heap.size := (Array.getElem?_eq_some_iff.1 hb).1
    refine ⟨?_, fun o => chg_safe hc (hs o) hB⟩
    have h1 : ∀ x s, C.h b = some x → C.ι b = some (B, s) → False := by
      intro x s hx hi
      cases x with
      | map _ _ _ => exact (hs 0).2 b _ s hx hi
      | row sz es g wr =>
        have := (hs (s + es.length * sz)).2 b _ s hx hi
        simp only [AObj.leaves] at this
        split at this <;> omega
    exact (hc.other B hB h1).trans hb

theorem chg_fr (hc : Chg C b x' p' w' G G') : Fr C (C.chg b x' p' w' G G') := by
  refine ⟨hc.size, fun B hB ho => hc.other B hB (fun x s hx hi => ho ⟨b, x, s, hx, hi⟩), fun B ⟨c, y, s, hy, hi⟩ => ?_, hc.os, hc.tape, hc.output, rfl⟩
  simp only [Cfg.chg, setAt] at hy hi
  by_cases hcb : c = b
  · rw [if_pos hcb] at hy hi
    rcases hc.blk y B s hy hi with h1 | ⟨x, s0, hx, hi0⟩
    · exact .inr h1.1
    · exact .inl ⟨b, x, s0, hx, hi0⟩
  · rw [if_neg hcb] at hy hi
    exact .inl ⟨c, y, s, hy, hi⟩

theorem chg_valid (hv : Valid C) (hc : Chg C b x' p' w' G G') (hnew : Grow C (C.chg b x' p' w' G G') → ∀ y, x' = some y → ObjOk (C.chg b x' p' w' G G') b y) :
    Valid (C.chg b x' p' w' G G') := by
  have hg := chg_grow hc
  have hblk : ∀ y B s, x' = some y → p' = some (B, s) → B < w'.heap.size := fun y B s hy hi => by
    rcases hc.blk y B s hy hi with h1 | ⟨x, s0, hx, hi0⟩
    · exact h1.2
    · exact Nat.lt_of_lt_of_le (hv.old b x B s0 hx hi0) hc.size
  have hne : ∀ c x B s, c ≠ b → C.h c = some x → C.ι c = some (B, s) → ∀ x0 s0, C.h b = some x0 → C.ι b = some (B, s0) → False :=
    fun c x B s hcb hx hi x0 s0 hx0 hi0 => hcb (hv.inj c b x x0 B s s0 hx hx0 hi hi0)
  refine ⟨fun c y hy => ?_, fun c c' y y' B s s' hy hy' hi hi' => ?_, fun c y B s hy hi => ?_, fun B o hf => ?_⟩
  · by_cases hcb : c = b
    · subst hcb
      refine hnew hg y ?_
      simpa [Cfg.chg, setAt] using hy
    · have hy0 : C.h c = some y := by simpa [Cfg.chg, setAt, hcb] using hy
      have hιc : (C.chg b x' p' w' G G').ι c = C.ι c := by simp [Cfg.chg, setAt, hcb]
      have ho := hv.obj c y hy0
      cases y with
      | row sz es g wr =>
        obtain ⟨h1, h2, h3⟩ := ho
        refine ⟨hg.K g h1, h2, ?_⟩
        rw [hιc]
        rcases h3 with h3 | ⟨B, s, cs, T, hi, hb, hle, hcell⟩
        · exact .inl h3
        · refine .inr ⟨B, s, cs, T, hi, ?_, hle, fun i j e a hi' hj => let ⟨v, h4, h5⟩ := hcell i j e a hi' hj; ⟨v, h4, hg.rep h5⟩⟩
          exact (hc.other B (hv.old c _ B s hy0 hi) (hne c _ B s hcb hy0 hi)).trans hb
      | map es g v =>
        obtain ⟨h1, B, ents, clock, hi, hb, hl, hkv, hborn, hclk⟩ := ho
        refine ⟨hg.K g h1, B, ents, clock, hιc.trans hi, ?_, hl, fun i k v e hi' he => let ⟨h4, h5⟩ := hkv i k v e hi' he; ⟨hg.rep h4, hg.rep h5⟩, hborn, hclk⟩
        exact (hc.other B (hv.old c _ B 0 hy0 hi) (hne c _ B 0 hcb hy0 hi)).trans hb
  · simp only [Cfg.chg, setAt] at hy hy' hi hi'
    by_cases h1 : c = b
    · by_cases h2 : c' = b
      · exact h1.trans h2.symm
      · rw [if_pos h1] at hy hi
        rw [if_neg h2] at hy' hi'
        rcases hc.blk y B s hy hi with h3 | ⟨x, s0, hx, hi0⟩
        · have := hv.old c' y' B s' hy' hi'; omega
        · exact absurd (hv.inj c' b y' x B s' s0 hy' hx hi' hi0) h2
    · by_cases h2 : c' = b
      · rw [if_neg h1] at hy hi
        rw [if_pos h2] at hy' hi'
        rcases hc.blk y' B s' hy' hi' with h3 | ⟨x, s0, hx, hi0⟩
        · have := hv.old c y B s hy hi; omega
        · exact absurd (hv.inj c b y x B s s0 hy hx hi hi0) h1
      · rw [if_neg h1] at hy hi
        rw [if_neg h2] at hy' hi'
        exact hv.inj c c' y y' B s s' hy hy' hi hi'
  · simp only [Cfg.chg, setAt] at hy hi
    by_cases h1 : c = b
    · rw [if_pos h1] at hy hi
      exact hblk y B s hy hi
    · rw [if_neg h1] at hy hi
      exact Nat.lt_of_lt_of_le (hv.old c y B s hy hi) hc.size
  · obtain ⟨h1, h2⟩ := hv.forb B o hf
    refine ⟨Nat.lt_of_lt_of_le h1 hc.size, fun ho => ?_⟩
    rcases (chg_fr hc).own B ho with h3 | h3
    · exact h2 h3
    · exact absurd h1 (Nat.not_lt.2 h3)
end

end Go.AI

namespace Go.AI

def hupd (h : Nat → Option AObj) : List Upd → Nat → Option AObj
  | [] => h
  | (b, o) :: u => hupd (setAt h b o) u

/-- One step of the abstract machine is met by C'. -/
structure Stp (C : Cfg) (G : Nat) (d : Delta) (C' : Cfg) : Prop where
  h : C'.h = hupd C.h d.upd
  K : ∀ g, C'.K g → C.K g ∨ (G ≤ g ∧ g < d.G)
  valid : Valid C'
  grow : Grow C C'
  fr : Fr C C'
  G : G ≤ d.G

def OutV (C : Cfg) (G : Nat) (d : Delta) (r : Result Value) : Prop := ∃ C' v, r = .ok v C'.w ∧ VRep C' d.v v ∧ Stp C G d C'
def OutU (C : Cfg) (G : Nat) (d : Delta) (r : Result Unit) : Prop := ∃ C', r = .ok () C'.w ∧ d.v = .tup [] ∧ Stp C G d C'
def Out (C : Cfg) (G : Nat) (d : Delta) (r : Result Next) : Prop :=
  ∃ C' v, (r = .ok (.value v) C'.w ∨ (r = .ok .skip C'.w ∧ v = undef)) ∧ VRep C' d.v v ∧ Stp C G d C'

theorem rep_undef (C : Cfg) : VRep C (.tup []) undef := .tup [] #[] rfl (by simp)

theorem Stp.same {C : Cfg} (hv : Valid C) (G : Nat) {d : Delta} (hu : d.upd = []) (hG : G ≤ d.G) : Stp C G d C :=
  ⟨by rw [hu]; rfl, fun _ h => .inl h, hv, .refl C, .refl C, hG⟩

theorem OutV.same {C : Cfg} (hv : Valid C) {G : Nat} {d : Delta} {v : Value} {r : Result Value} (hr : r = .ok v C.w) (hrep : VRep C d.v v) (hu : d.upd = []) (hG : G ≤ d.G) : OutV C G d r :=
  ⟨C, v, hr, hrep, .same hv G hu hG⟩

theorem Stp.chg {C : Cfg} (hv : Valid C) {b : Nat} {x' : Option AObj} {p' : Option (Nat × Nat)} {w' : World} {G : Nat} {d : Delta} (hc : Chg C b x' p' w' G d.G) (hG : G ≤ d.G) (hu : d.upd = [(b, x')])
    (hnew : Grow C (C.chg b x' p' w' G d.G) → ∀ y, x' = some y → ObjOk (C.chg b x' p' w' G d.G) b y) : Stp C G d (C.chg b x' p' w' G d.G) :=
  ⟨by rw [hu]; rfl, fun _ h => h, chg_valid hv hc hnew, chg_grow hc, chg_fr hc, hG⟩

/-! ### A new block -/
theorem alloc_old (w : World) (o : Obj) (k : Nat) (h : k < w.heap.size) : (w.alloc o).heap[k]? = w.heap[k]? := by
  show (w.heap.push o)[k]? = _
  simp [Array.getElem?_push, Nat.ne_of_lt h]
theorem alloc_new (w : World) (o : Obj) : (w.alloc o).heap[w.heap.size]? = some o := by
  show (w.heap.push o)[_]? = _
  simp

theorem cell?_of_heap {w w' : World} {B o : Nat} (h : w'.heap[B]? = w.heap[B]?) : w'.cell? ⟨B, o, none⟩ = w.cell? ⟨B, o, none⟩ := World.cell?_of_block (a := ⟨B, o, none⟩) h
theorem shape?_of_heap {w w' : World} {B : Nat} (h : w'.heap[B]? = w.heap[B]?) : w'.shape? B = w.shape? B := by simp [World.shape?, h]
theorem shape_lt {w : World} {B : Nat} {x : TypeId × Nat} (h : w.shape? B = some x) : B < w.heap.size := by
  unfold World.shape? at h
  rcases Nat.lt_or_ge B w.heap.size with h' | h'
  · exact h'
  · simp [Array.getElem?_eq_none h'] at h

theorem chg_alloc {C : Cfg} (hv : Valid C) (b : Nat) {y : AObj} {w1 : World} (hw : w1.heap = C.w.heap) (hos : w1.os = C.w.os) (htape : w1.tape = C.w.tape) (hout : w1.output = C.w.output) (o : Obj)
    {G : Nat} (hf : ¬ C.K G) (hy : y.gen = G) : Chg C b (some y) (some (C.w.heap.size, 0)) (w1.alloc o) G (G + 1) := by
  have hold : ∀ B, B < C.w.heap.size → (w1.alloc o).heap[B]? = C.w.heap[B]? := fun B hB => by
    rw [alloc_old w1 o B (by rw [hw]; exact hB), hw]
  refine ⟨by simp [hw], fun B hB _ => hold B hB, fun x B s hx hi o' v _ hc => ?_, fun x B s y' s' hx hi _ hp => ?_, fun y' B s' _ hp => ?_, fun B z hz => ?_, fun z hz => ?_, hos, htape, hout⟩
  · rw [cell?_of_heap (hold B (hv.old b x B s hx hi))]; exact hc
  · simp only [Option.some.injEq, Prod.mk.injEq] at hp
    have := hv.old b x B s hx hi
    omega
  · simp only [Option.some.injEq, Prod.mk.injEq] at hp
    left; simp [hw]; omega
  · rw [shape?_of_heap (hold B (shape_lt hz))]; exact hz
  · cases hz
    left; rw [hy]; exact ⟨hf, Nat.le_refl _, Nat.lt_succ_self _⟩

/-- A new row of cells. -/
theorem newRow_stp {C : Cfg} (hv : Valid C) (b : Nat) {w1 : World} (hw : w1.heap = C.w.heap) (hos : w1.os = C.w.os) (htape : w1.tape = C.w.tape) (hout : w1.output = C.w.output)
    (cs : Array Value) (T : TypeId) (sz : Nat) (es : List (List AVal)) (wr : Bool) {G : Nat} {d : Delta} (hf : ¬ C.K G) (hd : d.G = G + 1) (hu : d.upd = [(b, some (.row sz es G wr))])
    (hes : ∀ e ∈ es, e.length = sz) (hsz : es.length * sz ≤ cs.size) (hrep : ∀ i j e a, es[i]? = some e → e[j]? = some a → ∃ v, cs[i * sz + j]? = some v ∧ VRep C a v) :
    ∃ C', C'.w = w1.alloc (.cells cs T) ∧ Stp C G d C' ∧ C'.ι b = some (C.w.heap.size, 0) ∧ C'.K G ∧ C'.h b = some (.row sz es G wr) ∧ C'.w.shape? C.w.heap.size = some (T, cs.size) := by
  have hc := chg_alloc (y := .row sz es G wr) hv b hw hos htape hout (.cells cs T) hf rfl
  rw [← hd] at hc
  refine ⟨C.chg b (some (.row sz es G wr)) (some (C.w.heap.size, 0)) (w1.alloc (.cells cs T)) G d.G, rfl, Stp.chg hv hc (by omega) hu fun hg y hy => ?_, ?_, ?_, ?_, ?_⟩
  · cases hy
    refine ⟨.inr ⟨Nat.le_refl _, by omega⟩, hes, .inr ⟨C.w.heap.size, 0, cs, T, by simp [Cfg.chg, setAt], ?_, by omega, fun i j e a hi hj => ?_⟩⟩
    · show (w1.alloc _).heap[C.w.heap.size]? = _
      rw [← hw]; exact alloc_new w1 _
    · obtain ⟨v, h1, h2⟩ := hrep i j e a hi hj
      exact ⟨v, by rw [Nat.zero_add]; exact h1, hg.rep h2⟩
  · simp [Cfg.chg, setAt]
  · exact .inr ⟨Nat.le_refl _, by omega⟩
  · simp [Cfg.chg, setAt]
  · show World.shape? (w1.alloc _) _ = _
    have := alloc_new w1 (.cells cs T)
    rw [hw] at this
    simp [World.shape?, this]

/-! ### A written block -/
/-- The world behind a write into one row. -/
structure Wrote (w : World) (B : Nat) (c c' : Array Value) (T : TypeId) (w' : World) : Prop where
  at_ : w.heap[B]? = some (.cells c T (0, 0))
  now : w'.heap[B]? = some (.cells c' T (0, 0))
  size : c'.size = c.size
  hsize : w'.heap.size = w.heap.size
  other : ∀ k, k ≠ B → w'.heap[k]? = w.heap[k]?
  os : w'.os = w.os
  tape : w'.tape = w.tape
  output : w'.output = w.output

theorem chg_wrote {C : Cfg} {b : Nat} {x y : AObj} {B s s' : Nat} {c c' : Array Value} {T : TypeId} {w' : World} {G G' : Nat} (hx : C.h b = some x) (hi : C.ι b = some (B, s)) (hw : Wrote C.w B c c' T w')
    (hcells : ∀ o v, x.leaves s o → c[o]? = some v → c'[o]? = some v) (hleave : ∀ o, x.leaves s o → y.leaves s' o)
    (hgen : (¬ C.K y.gen ∧ G ≤ y.gen ∧ y.gen < G') ∨ (s' = s ∧ sameKind x y)) : Chg C b (some y) (some (B, s')) w' G G' := by
  refine ⟨by rw [hw.hsize]; exact Nat.le_refl _, fun k hk h => ?_, fun x2 B2 s2 hx2 hi2 o v hl hc => ?_, fun x2 B2 s2 y2 s2' hx2 hi2 hy2 hp o hl => ?_, fun y2 B2 s2 _ hp => ?_, fun k z hz => ?_, fun z hz => ?_, hw.os, hw.tape, hw.output⟩
  · refine hw.other k fun e => ?_
    subst e
    exact h x s hx hi
  · rw [hx] at hx2; rw [hi] at hi2
    cases hx2; cases hi2
    rw [cell_of_row _ _ _ _ _ _ hw.at_] at hc
    rw [cell_of_row _ _ _ _ _ _ hw.now]
    exact hcells o v hl hc
  · rw [hx] at hx2; rw [hi] at hi2
    cases hx2; cases hi2; cases hy2; cases hp
    exact hleave o hl
  · cases hp
    exact .inr ⟨x, s, hx, hi⟩
  · by_cases hk : k = B
    · subst hk
      simp only [World.shape?, hw.at_, hw.now, hw.size] at hz ⊢
      exact hz
    · rw [shape?_of_heap (hw.other k hk)]; exact hz
  · cases hz
    rcases hgen with h | ⟨h1, h2⟩
    · exact .inl h
    · refine .inr ⟨x, hx, ?_, h2⟩
      rw [hi, h1]

/-- A map's block. -/
theorem chg_map {C : Cfg} {b : Nat} {es es' : List (AVal × AVal)} {g v v' : Nat} {B s : Nat} {ents ents' : Array MapEntry} {clock clock' : Nat} {w' : World} {G : Nat} (hx : C.h b = some (.map es g v)) (hi : C.ι b = some (B, s))
    (hat : C.w.heap[B]? = some (.map ents clock)) (hnow : w'.heap[B]? = some (.map ents' clock')) (hsize : w'.heap.size = C.w.heap.size) (hother : ∀ k, k ≠ B → w'.heap[k]? = C.w.heap[k]?)
    (hos : w'.os = C.w.os) (htape : w'.tape = C.w.tape) (hout : w'.output = C.w.output) : Chg C b (some (.map es' g v')) (some (B, s)) w' G G := by
  refine ⟨by rw [hsize]; exact Nat.le_refl _, fun k hk h => ?_, fun x2 B2 s2 hx2 hi2 o u hl hc => ?_, fun x2 B2 s2 y2 s2' hx2 hi2 hy2 hp o hl => ?_, fun y2 B2 s2 _ hp => ?_, fun k z hz => ?_, fun z hz => ?_, hos, htape, hout⟩
  · refine hother k fun e => ?_
    subst e
    exact h _ s hx hi
  · rw [hx] at hx2
    cases hx2
    exact hl.elim
  · rw [hx] at hx2
    cases hx2
    exact hl.elim
  · cases hp
    exact .inr ⟨_, s, hx, hi⟩
  · by_cases hk : k = B
    · subst hk
      simp [World.shape?, hat] at hz
    · rw [shape?_of_heap (hother k hk)]; exact hz
  · cases hz
    exact .inr ⟨_, hx, hi.symm, rfl⟩

/-! ### Abstract changes alone -/
theorem chg_freeze {C : Cfg} {b sz : Nat} {es : List (List AVal)} {g : Nat} {wr : Bool} {G : Nat} (hx : C.h b = some (.row sz es g wr)) : Chg C b (some (.row sz es g false)) (C.ι b) C.w G G := by
  refine ⟨Nat.le_refl _, fun _ _ _ => rfl, fun _ _ _ _ _ _ _ _ h => h, fun x2 B2 s2 y2 s2' hx2 hi2 hy2 hp o hl => ?_, fun y2 B2 s2 hy2 hp => .inr ⟨_, s2, hx, hp⟩, fun _ _ h => h, fun z hz => ?_, rfl, rfl, rfl⟩
  · rw [hx] at hx2; rw [hi2] at hp
    cases hx2; cases hy2; cases hp
    simp only [AObj.leaves] at hl ⊢
    split at hl <;> simp <;> omega
  · cases hz
    exact .inr ⟨_, hx, rfl, by simp [sameKind]⟩

theorem chg_drop (C : Cfg) (b G : Nat) : Chg C b none (C.ι b) C.w G G :=
  ⟨Nat.le_refl _, fun _ _ _ => rfl, fun _ _ _ _ _ _ _ _ h => h, fun _ _ _ _ _ _ _ h => (by cases h), fun _ _ _ h => (by cases h), fun _ _ h => h, fun _ h => (by cases h), rfl, rfl, rfl⟩

/-- A row that holds nothing and has no block yet. -/
theorem chg_virtual {C : Cfg} (b sz : Nat) (wr : Bool) {G : Nat} (hf : ¬ C.K G) : Chg C b (some (.row sz [] G wr)) none C.w G (G + 1) :=
  ⟨Nat.le_refl _, fun _ _ _ => rfl, fun _ _ _ _ _ _ _ _ h => h, fun _ _ _ _ _ _ _ _ h => (by cases h), fun _ _ _ _ h => (by cases h), fun _ _ h => h, fun z hz => (by cases hz; exact .inl ⟨hf, Nat.le_refl _, Nat.lt_succ_self _⟩), rfl, rfl, rfl⟩

theorem freeze_stp {C : Cfg} (hv : Valid C) {b sz : Nat} {es : List (List AVal)} {g : Nat} {wr : Bool} {G : Nat} {d : Delta} (hx : C.h b = some (.row sz es g wr)) (hd : d.G = G) (hu : d.upd = [(b, some (.row sz es g false))]) :
    ∃ C', C'.w = C.w ∧ Stp C G d C' ∧ C'.ι = C.ι ∧ C'.h b = some (.row sz es g false) := by
  have hc := chg_freeze (G := G) hx
  have hc' : Chg C b (some (.row sz es g false)) (C.ι b) C.w G d.G := by rw [hd]; exact hc
  have hι : setAt C.ι b (C.ι b) = C.ι := by funext c; simp only [setAt]; split <;> simp_all
  refine ⟨C.chg b (some (.row sz es g false)) (C.ι b) C.w G d.G, rfl, Stp.chg hv hc' (by omega) hu fun hg y hy => ?_, hι, by simp [Cfg.chg, setAt]⟩
  cases hy
  obtain ⟨h1, h2, h3⟩ := hv.obj b _ hx
  refine ⟨hg.K g h1, h2, ?_⟩
  have hb : (C.chg b (some (.row sz es g false)) (C.ι b) C.w G d.G).ι b = C.ι b := by simp [Cfg.chg, setAt]
  rw [hb]
  rcases h3 with h3 | ⟨B, s, c, T, hi, hb, hle, hcell⟩
  · exact .inl h3
  · exact .inr ⟨B, s, c, T, hi, hb, hle, fun i j e a hi' hj => let ⟨v, h4, h5⟩ := hcell i j e a hi' hj; ⟨v, h4, hg.rep h5⟩⟩

end Go.AI

namespace Go.AI
variable {P : Program} {C : Cfg}

theorem tiOf_some {t : TypeId} {ti : TI} (h : tiOf P t = some ti) :
    ∃ i d z, P.info? t = some i ∧ P.underlying t = some d ∧ i.zero = some z ∧ ti = ⟨i.size, aggOf d, ofVal z, i.bytes, tkOf d⟩ := by
  unfold tiOf at h
  split at h
  · rename_i i d hi hd
    split at h
    · rename_i z hz
      exact ⟨i, d, z, hi, hd, hz, (Option.some.inj h).symm⟩
    · cases h
  · cases h

theorem tk_slice {d : TypeDesc} {e : TypeId} (h : tkOf d = .slice e) : d = .slice e := by cases d <;> simp_all [tkOf]
theorem tk_map {d : TypeDesc} {k e : TypeId} (h : tkOf d = .map k e) : d = .map k e := by cases d <;> simp_all [tkOf]
theorem tk_arr {d : TypeDesc} {n : Nat} {e : TypeId} (h : tkOf d = .arr n e) : d = .array n e := by cases d <;> simp_all [tkOf]
theorem tk_int {d : TypeDesc} {k : IntKind} (h : tkOf d = .int k) : d = .int k := by cases d <;> simp_all [tkOf]
theorem tk_bool {d : TypeDesc} (h : tkOf d = .bool) : d = .bool := by cases d <;> simp_all [tkOf]
theorem tk_strct {d : TypeDesc} {fs : List (Nat × TypeId × Bool)} (h : tkOf d = .strct fs) : ∃ gs, d = .struct gs ∧ fs = gs.toList.map fun f => (f.offset, f.type, f.name == "_") := by
  cases d <;> simp_all [tkOf]

theorem run_isAgg {t : TypeId} {d : TypeDesc} (h : P.underlying t = some d) (w : World) : (isAgg t).run P w = .ok (aggOf d) w := by
  unfold isAgg
  simp only [Sem.run_bind, run_underlying h, Result.andThen_ok]
  cases d <;> simp [aggOf]

theorem run_size {t : TypeId} {i : TypeInfo} (h : P.info? t = some i) (w : World) : (sizeOf t).run P w = .ok i.size w := by
  simp [sizeOf, typeInfo, h]

theorem run_info {t : TypeId} {i : TypeInfo} (h : P.info? t = some i) (w : World) : (typeInfo t).run P w = .ok i w := by
  simp [typeInfo, h]

theorem run_zero {t : TypeId} {i : TypeInfo} {z : Value} (h : P.info? t = some i) (hz : i.zero = some z) (w : World) : (zeroValue t).run P w = .ok z w := by
  simp [zeroValue, typeInfo, h, hz]

/-! ### The reader's steps -/
theorem rd_opt {α β : Type} {x : Option α} {k : α → Rd β} {h : Nat → Option AObj} {d : β} (hr : (ofOpt x k).run h = some d) : ∃ a, x = some a ∧ (k a).run h = some d := by
  cases x with
  | none => simp [ofOpt, Rd.run] at hr
  | some a => exact ⟨a, rfl, hr⟩

theorem rd_row {α : Type} {b g : Nat} {k : Nat → List (List AVal) → Bool → Rd α} {h : Nat → Option AObj} {d : α} (hr : (row? b g k).run h = some d) :
    ∃ sz es wr, h b = some (.row sz es g wr) ∧ (k sz es wr).run h = some d := by
  unfold row? at hr
  simp only [Rd.run] at hr
  cases hb : h b with
  | none => rw [hb] at hr; simp [Rd.run] at hr
  | some x =>
    cases x with
    | row sz es g' wr =>
      rw [hb] at hr
      simp only at hr
      split at hr
      · rename_i e; subst e; exact ⟨sz, es, wr, rfl, hr⟩
      · simp [Rd.run] at hr
    | map _ _ _ => rw [hb] at hr; simp [Rd.run] at hr

theorem rd_map {α : Type} {b g : Nat} {k : List (AVal × AVal) → Nat → Rd α} {h : Nat → Option AObj} {d : α} (hr : (map? b g k).run h = some d) :
    ∃ es v, h b = some (.map es g v) ∧ (k es v).run h = some d := by
  unfold map? at hr
  simp only [Rd.run] at hr
  cases hb : h b with
  | none => rw [hb] at hr; simp [Rd.run] at hr
  | some x =>
    cases x with
    | map es g' v =>
      rw [hb] at hr
      simp only at hr
      split at hr
      · rename_i e; subst e; exact ⟨es, v, rfl, hr⟩
      · simp [Rd.run] at hr
    | row _ _ _ _ => rw [hb] at hr; simp [Rd.run] at hr

theorem rd_if {α : Type} {c : Prop} [Decidable c] {r : Rd α} {h : Nat → Option AObj} {d : α} (hr : (if c then r else .fail).run h = some d) : c ∧ r.run h = some d := by
  split at hr
  · exact ⟨‹_›, hr⟩
  · simp [Rd.run] at hr

theorem rd_ifn {α : Type} {c : Prop} [Decidable c] {r : Rd α} {h : Nat → Option AObj} {d : α} (hr : (if c then .fail else r).run h = some d) : ¬ c ∧ r.run h = some d := by
  split at hr
  · simp [Rd.run] at hr
  · exact ⟨‹_›, hr⟩

theorem rd_val {nx G : Nat} {v : AVal} {h : Nat → Option AObj} {d : Delta} (hr : (valR nx G v).run h = some d) : d = ⟨v, [], nx, G⟩ := by
  simp only [valR, Rd.run, Option.some.injEq] at hr; exact hr.symm

theorem rd_ret {α : Type} {x d : α} {h : Nat → Option AObj} (hr : (Rd.ret x).run h = some d) : d = x := by
  simp only [Rd.run, Option.some.injEq] at hr; exact hr.symm

theorem rd_fail {α : Type} {d : α} {h : Nat → Option AObj} (hr : (Rd.fail : Rd α).run h = some d) : False := by simp [Rd.run] at hr

/-- An operation that leaves all as it was. -/
theorem out_val (hv : Valid C) {nx G : Nat} {a : AVal} {d : Delta} (hd : d = ⟨a, [], nx, G⟩) {v : Value} {r : Result Value} (hr : r = .ok v C.w) (hrep : VRep C a v) : OutV C G d r := by
  subst hd; exact .same hv hr hrep rfl (Nat.le_refl _)

/-! ### Constants -/
theorem ofVal1_rep (v : Value) : VRep C (ofVal1 v) v := by
  cases v with
  | int k n => exact .int k n
  | bool b => exact .bool b
  | string s => exact .str s
  | pointer a => cases a with
    | none => exact .nilp
    | some a => exact .undef _
  | slice a n c =>
    cases a with
    | some a => exact .undef _
    | none =>
      cases n with
      | succ n => exact .undef _
      | zero =>
        cases c with
        | succ c => exact .undef _
        | zero => exact .il [] true none 0 0 0 0 (fun _ _ => undef) (Nat.le_refl _) (fun _ => rfl) (Nat.zero_le _) (fun h => absurd rfl h) (by simp) (by simp) (by simp)
  | map r => cases r with
    | none => exact .im0
    | some r => exact .undef _
  | nilFunc => exact .nilf
  | _ => exact .undef _

theorem ofVal_one (v : Value) (h : ∀ cs, v ≠ .agg cs) : ofVal v = ofVal1 v := by
  cases v <;> first | rfl | exact absurd rfl (h _)

theorem ofVal_rep (v : Value) : VRep C (ofVal v) v := by
  by_cases h : ∀ cs, v ≠ .agg cs
  · rw [ofVal_one v h]; exact ofVal1_rep v
  · obtain ⟨cs, rfl⟩ : ∃ cs, v = .agg cs := by
      cases v with
      | agg cs => exact ⟨cs, rfl⟩
      | _ => exact absurd (fun cs => by simp) h
    refine .agg _ _ (by simp) fun i a v ha hv => ?_
    rw [List.getElem?_map] at ha
    rw [Array.getElem?_toList, hv] at ha
    simp only [Option.map_some, Option.some.injEq] at ha
    subst ha
    exact ofVal1_rep v

theorem ofVal_cells (v : Value) : (ofVal v).cells.length = v.cells.size := by
  cases v with
  | agg cs => simp [ofVal, AVal.cells, Value.cells]
  | pointer a => cases a <;> rfl
  | map r => cases r <;> rfl
  | slice a n c => cases a with
    | some a => rfl
    | none => cases n with
      | succ n => rfl
      | zero => cases c <;> rfl
  | _ => rfl

/-! ### Cells of values -/
theorem cells_rep {a : AVal} {v : Value} (h : VRep C a v) (hu : a.cells.all AVal.sc = true) : a.cells.length = v.cells.size ∧ ∀ (i : Nat) (x : AVal), a.cells[i]? = some x → ∃ y, v.cells[i]? = some y ∧ VRep C x y := by
  have one : ∀ {a : AVal} {v : Value}, VRep C a v → a.cells = [a] → v.cells = #[v] → a.cells.length = v.cells.size ∧ ∀ (i : Nat) (x : AVal), a.cells[i]? = some x → ∃ y, v.cells[i]? = some y ∧ VRep C x y := by
    intro a v h h1 h2
    rw [h1, h2]
    refine ⟨rfl, fun i x hx => ?_⟩
    cases i with
    | zero => simp only [List.getElem?_cons_zero, Option.some.injEq] at hx; subst hx; exact ⟨v, rfl, h⟩
    | succ i => simp at hx
  cases h with
  | agg cs vs hl h =>
    refine ⟨hl, fun i x hx => ?_⟩
    have hi : i < cs.length := (List.getElem?_eq_some_iff.1 hx).1
    obtain ⟨y, hy⟩ : ∃ y, vs[i]? = some y := ⟨vs[i]'(by omega), Array.getElem?_eq_getElem (by omega)⟩
    exact ⟨y, hy, h i x y hx hy⟩
  | undef v => simp [AVal.cells, AVal.sc] at hu
  | tup cs vs hl h => simp [AVal.cells, AVal.sc] at hu
  | int k n => exact one (.int k n) rfl rfl
  | bool b => exact one (.bool b) rfl rfl
  | anyb b => exact one (.anyb b) rfl rfl
  | str s => exact one (.str s) rfl rfl
  | nilp => exact one .nilp rfl rfl
  | ptr b g i off p hk h => exact one (.ptr b g i off p hk h) rfl rfl
  | pim cs off B o vs hv hc => exact one (.pim cs off B o vs hv hc) rfl rfl
  | sl b g lo n p m cap hk h => exact one (.sl b g lo n p m cap hk h) rfl rfl
  | il es ex p cap B o sz vs h1 h2 h3 h4 h5 h6 h7 => exact one (.il es ex p cap B o sz vs h1 h2 h3 h4 h5 h6 h7) rfl rfl
  | mp b g r hk h => exact one (.mp b g r hk h) rfl rfl
  | im0 => exact one .im0 rfl rfl
  | im es B ents clock h1 h2 h3 h4 h5 h6 h7 => exact one (.im es B ents clock h1 h2 h3 h4 h5 h6 h7) rfl rfl
  | fn f fs cs us vs h1 h2 h3 h4 => exact one (.fn f fs cs us vs h1 h2 h3 h4) rfl rfl
  | nilf => exact one .nilf rfl rfl
  | raw v => simp [AVal.cells, AVal.sc] at hu

theorem sc_one {a : AVal} {v : Value} (h : VRep C a v) (hs : a.sc = true) : v.oneCell' = true := by
  cases h <;> first | rfl | (simp [AVal.sc] at hs)

/-- All cells may be stored. -/
theorem cells_one {a : AVal} {v : Value} (h : VRep C a v) (hu : a.cells.all AVal.sc = true) : ∀ y ∈ v.cells.toList, y.oneCell' = true := by
  obtain ⟨hl, hc⟩ := cells_rep h hu
  intro y hy
  obtain ⟨i, hi, rfl⟩ := List.getElem_of_mem hy
  have hi' : i < a.cells.length := by rw [hl]; simpa using hi
  obtain ⟨z, hz, hr⟩ := hc i _ (List.getElem?_eq_getElem hi')
  have : v.cells[i]? = some (v.cells.toList[i]) := by rw [← Array.getElem?_toList]; exact List.getElem?_eq_getElem hi
  rw [this] at hz
  cases hz
  exact sc_one hr (List.all_eq_true.1 hu _ (List.getElem_mem hi'))

/-! ### Loads -/
theorem loadVar_run {w : World} {t : TypeId} {ti : TI} (hti : tiOf P t = some ti) (B o off : Nat) (cs : List AVal) (f : Nat → Value) (hc : ∀ j a, cs[j]? = some a → w.cell? ⟨B, o + j, none⟩ = some (f j))
    (hf : ∀ j a, cs[j]? = some a → VRep C a (f j)) {a : AVal} (hp : partA ti.agg ti.size off cs = some a) : ∃ u, (loadVar t ⟨B, o + off, none⟩).run P w = .ok u w ∧ VRep C a u := by
  obtain ⟨i, d, z, hi, hd, hz, rfl⟩ := tiOf_some hti
  simp only [partA] at hp
  unfold loadVar
  simp only [Sem.run_bind, run_isAgg hd, Result.andThen_ok]
  cases hag : aggOf d with
  | true =>
    rw [hag] at hp
    simp only [if_true] at hp ⊢
    split at hp
    · rename_i hle
      cases hp
      have hl := run_loadCells (P := P) w ⟨B, o + off, none⟩ i.size (fun j => f (off + j)) (fun j hj => by
        have hj' : off + j < cs.length := by omega
        rw [Addr.add_lit, Nat.add_assoc]
        exact hc (off + j) _ (List.getElem?_eq_getElem hj'))
      refine ⟨.agg ((List.range i.size).map fun j => f (off + j)).toArray, by simp [run_size hi, hl], .agg _ _ (by simp; omega) fun j x y hx hy => ?_⟩
      have hj : j < i.size := by
        have := (Array.getElem?_eq_some_iff.1 hy).1
        simpa using this
      rw [List.getElem?_take_of_lt hj, List.getElem?_drop] at hx
      have : y = f (off + j) := by
        simp [hj] at hy
        exact hy.symm
      rw [this]
      exact hf _ _ hx
    · cases hp
  | false =>
    rw [hag] at hp
    simp only [Bool.false_eq_true, if_false] at hp ⊢
    exact ⟨f off, by simp [hc off a hp], hf off a hp⟩

theorem ptr_live {b g i off : Nat} {va : Value} (h : VRep C (.ptr b g i off) va) {sz : Nat} {es : List (List AVal)} {wr : Bool} (hb : C.h b = some (.row sz es g wr)) :
    ∃ B s, C.ι b = some (B, s) ∧ va = .pointer (some ⟨B, s + i * sz + off, none⟩) := by
  cases h with
  | ptr b g i off p hk h =>
    obtain ⟨B, s, h1, rfl⟩ := h sz es wr hb
    exact ⟨B, s, h1, rfl⟩

theorem row_cells (hv : Valid C) {b g sz : Nat} {es : List (List AVal)} {wr : Bool} (hb : C.h b = some (.row sz es g wr)) {B s : Nat} (hi : C.ι b = some (B, s)) :
    ∃ c T, C.w.heap[B]? = some (.cells c T (0, 0)) ∧ s + es.length * sz ≤ c.size ∧ (∀ e ∈ es, e.length = sz) ∧
      ∀ i j e a, es[i]? = some e → e[j]? = some a → ∃ v, c[s + (i * sz + j)]? = some v ∧ VRep C a v := by
  obtain ⟨h1, h2, h3⟩ := hv.obj b _ hb
  rcases h3 with ⟨h3, _⟩ | ⟨B', s', c, T, hi', hat, hle, hcell⟩
  · rw [hi] at h3; cases h3
  · rw [hi] at hi'; cases hi'
    exact ⟨c, T, hat, hle, h2, hcell⟩

theorem load_sound (hv : Valid C) {nx G : Nat} {t : TypeId} {a : AVal} {va : Value} (ha : VRep C a va) {d : Delta} (h : (loadR P nx G t a).run C.h = some d) : OutV C G d ((Instr.loadAt t va).run P C.w) := by
  unfold loadR at h
  replace h := rd_opt h; obtain ⟨ti, hti, h⟩ := h
  cases a with
  | ptr b g i off =>
    replace h := rd_row h; obtain ⟨sz, es, wr, hb, h⟩ := h
    replace h := rd_opt h; obtain ⟨cs, hcs, h⟩ := h
    replace h := rd_opt h; obtain ⟨x, hx, h⟩ := h
    have hd := rd_val h
    obtain ⟨B, s, hi, rfl⟩ := ptr_live ha hb
    obtain ⟨c, T, hat, hle, hsz, hcell⟩ := row_cells hv hb hi
    have hf : ∀ j y, cs[j]? = some y → C.w.cell? ⟨B, s + i * sz + j, none⟩ = some (c.getD (s + (i * sz + j)) undef) ∧ VRep C y (c.getD (s + (i * sz + j)) undef) := by
      intro j y hj
      obtain ⟨v, h1, h2⟩ := hcell i j cs y hcs hj
      rw [cell_of_row _ _ _ _ _ _ hat, Nat.add_assoc]
      simp [Array.getD_eq_getD_getElem?, h1, h2]
    obtain ⟨u, hu, hr⟩ := loadVar_run (w := C.w) hti B (s + i * sz) off cs _ (fun j y hj => (hf j y hj).1) (fun j y hj => (hf j y hj).2) hx
    refine out_val hv hd (v := u) ?_ hr
    simp [Instr.loadAt, Instr.sureAddr, hu]
  | pim cs off =>
    replace h := rd_opt h; obtain ⟨x, hx, h⟩ := h
    have hd := rd_val h
    cases ha with
    | pim cs off B o vs hvs hc =>
      obtain ⟨u, hu, hr⟩ := loadVar_run (w := C.w) hti B o off cs vs (fun j y hj => (hc j y hj).1) hvs hx
      refine out_val hv hd (v := u) ?_ hr
      simp [Instr.loadAt, Instr.sureAddr, hu]
  | _ => exact (rd_fail h).elim

/-! ### Stores -/
theorem setRow_wrote {w : World} {B : Nat} {c c' : Array Value} {T : TypeId} (hat : w.heap[B]? = some (.cells c T (0, 0))) (hs : c'.size = c.size) : Wrote w B c c' T (w.setRow B c') :=
  ⟨hat, setRow_heap w B c c' T (0, 0) hat, hs, size_setRow w B c', fun k hk => setRow_other w B k c' hk, rfl, rfl, rfl⟩

/-- Cells written over a row's. -/
def over (c : Array Value) (o : Nat) (vs : List Value) : Array Value := (c.toList.take o ++ vs ++ c.toList.drop (o + vs.length)).toArray

theorem over_size {c : Array Value} {o : Nat} {vs : List Value} (h : o + vs.length ≤ c.size) : (over c o vs).size = c.size := by
  have : c.toList.length = c.size := by simp
  simp [over]; omega

theorem over_out {c : Array Value} {o : Nat} {vs : List Value} (h : o + vs.length ≤ c.size) {j : Nat} (hj : j < o ∨ o + vs.length ≤ j) : (over c o vs)[j]? = c[j]? := by
  have hl : c.toList.length = c.size := by simp
  unfold over
  rw [List.getElem?_toArray]
  rcases hj with hj | hj
  · rw [List.getElem?_append_left (by simp; omega), List.getElem?_append_left (by simp; omega), List.getElem?_take_of_lt hj, Array.getElem?_toList]
  · rw [List.getElem?_append_right (by simp; omega), List.getElem?_drop, ← Array.getElem?_toList]
    congr 1
    simp
    omega

theorem over_in {c : Array Value} {o : Nat} {vs : List Value} (h : o + vs.length ≤ c.size) {j : Nat} (hj : j < vs.length) : (over c o vs)[o + j]? = vs[j]? := by
  have hl : c.toList.length = c.size := by simp
  unfold over
  rw [List.getElem?_toArray, List.getElem?_append_left (by simp; omega), List.getElem?_append_right (by simp; omega)]
  congr 1
  simp
  omega

theorem storeVar_run {w : World} {t : TypeId} {ti : TI} (hti : tiOf P t = some ti) {B : Nat} {c : Array Value} {T : TypeId} (hat : w.heap[B]? = some (.cells c T (0, 0))) (o : Nat) (v : Value) (hl : v.cells.size = ti.size)
    (hle : o + ti.size ≤ c.size) (h1 : ∀ y ∈ v.cells.toList, y.oneCell' = true) : (storeVar t ⟨B, o, none⟩ v).run P w = .ok () (w.setRow B (over c o v.cells.toList)) := by
  obtain ⟨i, d, z, hi, hd, hz, rfl⟩ := tiOf_some hti
  simp only at hl hle
  have := run_storeCells_at (P := P) B o T v.cells.toList 0 c w hat (by simp; omega) h1
  unfold storeVar
  simp only [Sem.run_bind, run_size hi, Result.andThen_ok, hl, ne_eq, not_true_eq_false, if_false, this, Nat.add_zero, over]

theorem setCs_length {cs vs : List AVal} {off : Nat} (h : off + vs.length ≤ cs.length) : (setCs cs off vs).length = cs.length := by
  simp [setCs]; omega
theorem setCs_in {cs vs : List AVal} {off : Nat} (h : off + vs.length ≤ cs.length) {j : Nat} (hj : j < vs.length) : (setCs cs off vs)[off + j]? = vs[j]? := by
  unfold setCs
  rw [List.getElem?_append_left (by simp; omega), List.getElem?_append_right (by simp; omega)]
  congr 1; simp; omega
theorem setCs_out {cs vs : List AVal} {off : Nat} (h : off + vs.length ≤ cs.length) {j : Nat} (hj : j < off ∨ off + vs.length ≤ j) : (setCs cs off vs)[j]? = cs[j]? := by
  unfold setCs
  rcases hj with hj | hj
  · rw [List.getElem?_append_left (by simp; omega), List.getElem?_append_left (by simp; omega), List.getElem?_take_of_lt hj]
  · rw [List.getElem?_append_right (by simp; omega), List.getElem?_drop]
    congr 1; simp; omega

theorem store_sound (hv : Valid C) {nx G : Nat} {t : TypeId} {a v : AVal} {va vv : Value} (ha : VRep C a va) (hvv : VRep C v vv) {d : Delta} (h : (storeR P nx G t a v).run C.h = some d) : OutU C G d ((Instr.storeAt t va vv).run P C.w) := by
  unfold storeR at h
  replace h := rd_opt h; obtain ⟨ti, hti, h⟩ := h
  cases a with
  | ptr b g i off =>
    replace h := rd_row h; obtain ⟨sz, es, wr, hb, h⟩ := h
    replace h := rd_opt h; obtain ⟨cs, hcs, h⟩ := h
    obtain ⟨⟨hwr, hlen, hle, hsc⟩, h'⟩ := rd_if h
    have hd := rd_ret h'
    subst hwr
    obtain ⟨B, s, hi, rfl⟩ := ptr_live ha hb
    obtain ⟨c, T, hat, hcs', hsz, hcell⟩ := row_cells hv hb hi
    obtain ⟨hcl, hcr⟩ := cells_rep hvv hsc
    have hil : i < es.length := (List.getElem?_eq_some_iff.1 hcs).1
    have hcsl : cs.length = sz := hsz cs (List.mem_of_getElem? hcs)
    have hmul : i * sz + sz ≤ es.length * sz := by rw [← Nat.succ_mul]; exact Nat.mul_le_mul_right _ hil
    have hfit : s + i * sz + off + vv.cells.toList.length ≤ c.size := by simp; omega
    have hrun := storeVar_run (P := P) hti hat (s + i * sz + off) vv (by omega) (by omega) (cells_one hvv hsc)
    subst hd
    have hw := setRow_wrote (c' := over c (s + i * sz + off) vv.cells.toList) hat (over_size hfit)
    have hc : Chg C b (some (.row sz (es.set i (setCs cs off v.cells)) g true)) (some (B, s)) (C.w.setRow B (over c (s + i * sz + off) vv.cells.toList)) G G :=
      chg_wrote hb hi hw (fun o u hl hu => by
        simp only [AObj.leaves, if_true] at hl
        rw [over_out hfit (.inl (by omega))]; exact hu) (fun o hl => hl) (.inr ⟨rfl, by simp [sameKind]⟩)
    refine ⟨_, ?_, rfl, Stp.chg hv hc (Nat.le_refl _) rfl fun hg y hy => ?_⟩
    · simp only [Instr.storeAt, Instr.sureAddr, Sem.run_bind, Sem.run_pure, Result.andThen_ok, hrun, Cfg.chg]
    · cases hy
      obtain ⟨h1, _, _⟩ := hv.obj b _ hb
      refine ⟨hg.K g h1, fun e he => ?_, .inr ⟨B, s, _, T, by simp [Cfg.chg, setAt], hw.now, by rw [hw.size, List.length_set]; exact hcs', fun i' j e x hi' hj => ?_⟩⟩
      · rcases List.mem_or_eq_of_mem_set he with he | rfl
        · exact hsz e he
        · rw [setCs_length (by omega)]; exact hcsl
      · by_cases hii : i' = i
        · subst hii
          rw [List.getElem?_set_self hil] at hi'
          cases hi'
          by_cases hj1 : off ≤ j ∧ j < off + v.cells.length
          · obtain ⟨k, rfl⟩ : ∃ k, j = off + k := ⟨j - off, by omega⟩
            rw [setCs_in (by omega) (by omega)] at hj
            obtain ⟨y, hy1, hy2⟩ := hcr k x hj
            refine ⟨y, ?_, hg.rep hy2⟩
            rw [show s + (i' * sz + (off + k)) = s + i' * sz + off + k by omega, over_in hfit (by simp; omega), Array.getElem?_toList]
            exact hy1
          · rw [setCs_out (by omega) (by omega)] at hj
            obtain ⟨y, hy1, hy2⟩ := hcell i' j cs x hcs hj
            refine ⟨y, ?_, hg.rep hy2⟩
            rw [over_out hfit (by simp; omega)]
            exact hy1
        · rw [List.getElem?_set_ne (Ne.symm hii)] at hi'
          obtain ⟨y, hy1, hy2⟩ := hcell i' j e x hi' hj
          refine ⟨y, ?_, hg.rep hy2⟩
          have hjl : j < sz := by rw [← hsz e (List.mem_of_getElem? hi')]; exact (List.getElem?_eq_some_iff.1 hj).1
          have hnot : s + (i' * sz + j) < s + i * sz + off ∨ s + i * sz + off + vv.cells.toList.length ≤ s + (i' * sz + j) := by
            simp only [Array.length_toList, ← hcl]
            rcases Nat.lt_or_gt_of_ne hii with hlt | hgt
            · left
              have : i' * sz + sz ≤ i * sz := by rw [← Nat.succ_mul]; exact Nat.mul_le_mul_right _ hlt
              omega
            · right
              have : i * sz + sz ≤ i' * sz := by rw [← Nat.succ_mul]; exact Nat.mul_le_mul_right _ hgt
              omega
          rw [over_out hfit hnot]
          exact hy1
  | _ => exact (rd_fail h).elim

end Go.AI
