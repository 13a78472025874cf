/- Joined: M1, M2, M3, M4, M5, M6. -/
import GoSem.Step
import Derived.Laws.Cells
import Derived.Laws.World
import Derived.Laws.Append
import Derived.Laws.StructEq
import Derived.Laws.BytesString
set_option linter.unusedVariables false
set_option linter.unusedSimpArgs false
/- The abstract machine: its values, states, operations and code, and the translation of the model's code into it. Nothing is claimed here. -/
namespace Go.Proofs.YtekhblefchceaaaGreat.AM
open Go
inductive Tok where
  | no | ex | id (τ : Nat)
  deriving DecidableEq, Inhabited
inductive AV where
  | undef
  | bool (b : Bool)
  | int (k : IntKind) (n : Int)
  | str (s : List UInt8)
  | nilp
  | ptr (β off : Nat)
  | ip (l : List AV)
  | vs (l : List AV) (t : Tok)
  | bs (s : List UInt8) (t : Tok)
  | hs (β off len cap : Nat)
  | nilmap
  | map (β : Nat)
  | nilfn
  | fn (f : Nat) (cap : List AV)
  | yld (β : Nat)
  | nilif
  | agg (l : List AV)
  | tup (l : List AV)
  deriving Inhabited
def AV.cells : AV -> List AV
  | .agg l => l
  | v => [v]
def AV.sc : AV -> Bool
  | .undef | .agg _ | .tup _ => false
  | _ => true
inductive Opd where
  | t (i : Nat)
  | c (v : AV)
  deriving Inhabited
inductive EK where
  | bool | ptr | fn | map
  deriving DecidableEq, Inhabited
inductive LK where
  | s | l | m
  deriving DecidableEq, Inhabited
inductive CK where
  | i | b | s
  deriving DecidableEq, Inhabited
inductive AOp where
  | mv (x : Opd)
  | pick (c a b : Opd)
  | alloc (z : List AV)
  | allocT (t : Nat) (z : List AV)
  | box (sz : Nat) (x : Opd)
  | build (z : List AV) (parts : List (Nat × Nat × Opd))
  | lit (sz : Nat) (xs : List Opd)
  | load (ag : Bool) (sz : Nat) (a : Opd)
  | store (sz : Nat) (a v : Opd)
  | nilc (x : Opd)
  | bin (op : BinOp) (x y : Opd)
  | eqv (kd : EK) (neg : Bool) (x y : Opd)
  | eqagg (neg : Bool) (ks : List CK) (x y : Opd)
  | eqnil (neg : Bool) (x : Opd)
  | not (x : Opd)
  | conv (k : IntKind) (x : Opd)
  | b2s (x : Opd)
  | mkfn (f : Nat) (cap : List Opd)
  | mkmap
  | mksl (z : List AV) (bytes : Nat) (len cap : Opd)
  | slice (sz : Nat) (x : Opd) (lo hi mx : Option Opd)
  | sslice (x : Opd) (lo hi : Option Opd)
  | fld (off : Nat) (x : Opd)
  | field (ag : Bool) (off sz : Nat) (x : Opd)
  | idxA (sz : Nat) (x i : Opd)
  | idxP (sz len : Nat) (x i : Opd)
  | idx (ag : Bool) (sz len : Nat) (x i : Opd)
  | idxS (x i : Opd)
  | lookup (ck : CK) (z : AV) (x i : Opd) (ok : Bool)
  | mapup (ck : CK) (m k v : Opd)
  | del (ck : CK) (m k : Opd)
  | range (m : Opd)
  | next (it : Opd)
  | entry (it : Opd)
  | ext (x : Opd) (i : Nat)
  | call (f : Nat) (args : List Opd)
  | callv (x : Opd) (args : List Opd)
  | app (ag : Bool) (sz bytes : Nat) (s x : Opd)
  | appb (s x : Opd)
  | len (k : LK) (x : Opd)
  | copy (sz : Nat) (d s : Opd)
  | min (x y : Opd)
  | bad
  deriving Inhabited
structure AInstr where
  dst : Option Nat
  guard : Option (Nat × Bool)
  op : AOp
  deriving Inhabited
abbrev Im (d s : Nat) : AInstr := ⟨some d, none, .mv (.t s)⟩
abbrev Ic (d : Nat) (v : AV) : AInstr := ⟨some d, none, .mv (.c v)⟩
abbrev Il (d s : Nat) : AInstr := ⟨some d, none, .load false 1 (.t s)⟩
abbrev Ia (d n s : Nat) : AInstr := ⟨some d, none, .load true n (.t s)⟩
abbrev If (d o s : Nat) : AInstr := ⟨some d, none, .fld o (.t s)⟩
abbrev Ie (d s i : Nat) : AInstr := ⟨some d, none, .ext (.t s) i⟩
abbrev Is (n a v : Nat) : AInstr := ⟨none, none, .store n (.t a) (.t v)⟩
abbrev Ib (d : Nat) (op : BinOp) (a b : Nat) : AInstr := ⟨some d, none, .bin op (.t a) (.t b)⟩
abbrev Io (d : Nat) (o : AOp) : AInstr := ⟨some d, none, o⟩
abbrev Iu (o : AOp) : AInstr := ⟨none, none, o⟩
abbrev Ig (d g : Nat) (b : Bool) (o : AOp) : AInstr := ⟨some d, some (g, b), o⟩
inductive ACode where
  | skip
  | seq (a b : ACode)
  | rg (is : List AInstr)
  | qrg (is : List AInstr) (deps : List (List Nat))
  | cond (c : Opd) (a b : ACode)
  | block (id : Nat) (c : ACode)
  | loop (c : ACode)
  | scope (c : ACode)
  | exit (id : Nat)
  | ret
  | rf (f : Opd) (params : List Nat) (asg body : ACode)
  | bad
  deriving Inhabited
inductive RV where
  | tmp (t : Nat)
  | cell (t : Nat) (ag : Bool) (sz : Nat)
  deriving Inhabited
structure AFunc where
  np : Nat
  nt : Nat
  res : List RV
  body : ACode
  deriving Inhabited
structure MEnt where
  key : AV
  val : AV
  born : Nat
  deriving Inhabited
inductive LState where
  | ready | busy | done
  deriving DecidableEq, Inhabited
inductive Blk where
  | arr (c : List AV)
  | typ (t : Nat) (c : List AV)
  | tok
  | map (es : List MEnt) (ck : Nat)
  | iter (m ck : Nat) (seen : List Nat)
  | loop (st : LState) (pend : Option ACode) (ρ : List AV) (params : List Nat) (asg body : ACode)
  deriving Inhabited
structure St where
  H : List (Nat × Blk)
  n : Nat
  deriving Inhabited
def lk : List (Nat × Blk) -> Nat -> Option Blk
  | [], _ => none
  | (a, b) :: r, x => if a = x then some b else lk r x
def upd : List (Nat × Blk) -> Nat -> Blk -> List (Nat × Blk)
  | [], _, _ => []
  | (a, b) :: r, x, y => if a = x then (a, y) :: r else (a, b) :: upd r x y
def del : List (Nat × Blk) -> Nat -> List (Nat × Blk)
  | [], _ => []
  | (a, b) :: r, x => if a = x then del r x else (a, b) :: del r x
def St.new (σ : St) (b : Blk) : St := { H := (σ.n, b) :: σ.H, n := σ.n + 1 }
def St.set (σ : St) (β : Nat) (b : Blk) : St := { σ with H := upd σ.H β b }
abbrev Env := Nat -> AV
def Env.put (ρ : Env) (i : Nat) (v : AV) : Env := fun j => if j = i then v else ρ j
def Env.putO (ρ : Env) (i : Option Nat) (v : AV) : Env := match i with | some i => ρ.put i v | none => ρ
def Opd.ev (ρ : Env) : Opd -> AV
  | .t i => ρ i
  | .c v => v
def Opd.isNil : Opd -> Bool
  | .c (.vs [] .ex) => true
  | _ => false
inductive OR where
  | v (v : AV) (σ : St)
  | call (f : Nat) (args : List AV)
  | yld (β : Nat) (args : List AV)
  | any (l : List (AV × St))
  | bad
  deriving Inhabited
def intOp (op : BinOp) (k : IntKind) (a b : Int) : Option AV :=
  match op with
  | .add => some (.int k (k.wrap (a + b)))
  | .sub => some (.int k (k.wrap (a - b)))
  | .mul => some (.int k (k.wrap (a * b)))
  | .quo => if b = 0 then none else some (.int k (k.wrap (a.tdiv b)))
  | .rem => if b = 0 then none else some (.int k (a.tmod b))
  | .and => some (.int k (k.wrap (BitVec.ofInt k.bits a &&& BitVec.ofInt k.bits b).toNat))
  | .or => some (.int k (k.wrap (BitVec.ofInt k.bits a ||| BitVec.ofInt k.bits b).toNat))
  | .eql => some (.bool (decide (a = b)))
  | .neq => some (.bool (!decide (a = b)))
  | .lss => some (.bool (decide (a < b)))
  | .leq => some (.bool (decide (a <= b)))
  | .gtr => some (.bool (decide (a > b)))
  | .geq => some (.bool (decide (a ≥ b)))
  | _ => none
def strLess : List UInt8 -> List UInt8 -> Bool
  | _, [] => false
  | [], _ :: _ => true
  | a :: x, b :: y => a < b || (a == b && strLess x y)
def strOp (op : BinOp) (a b : List UInt8) : Option AV :=
  match op with
  | .add => if a.length + b.length <= 2 ^ 62 then some (.str (a ++ b)) else none
  | .eql => some (.bool (a == b))
  | .neq => some (.bool (!(a == b)))
  | .lss => some (.bool (strLess a b))
  | .gtr => some (.bool (!(strLess a b || a == b)))
  | _ => none
def eqSc : CK -> AV -> AV -> Option Bool
  | .b, .bool a, .bool b => some (a == b)
  | .i, .int k a, .int k' b => if k = k' then some (decide (a = b)) else none
  | .s, .str a, .str b => some (a == b)
  | _, _, _ => none
def eqK : EK -> AV -> AV -> Option Bool
  | .bool, .bool a, .bool b => some (a == b)
  | .ptr, .nilp, .nilp => some true
  | .ptr, .nilp, .ptr _ _ => some false
  | .ptr, .ptr _ _, .nilp => some false
  | .ptr, .nilp, .ip _ => some false
  | .ptr, .ip _, .nilp => some false
  | .ptr, .ptr β i, .ptr γ j => if β = γ then some (decide (i = j)) else none
  | .fn, .nilfn, .nilfn => some true
  | .fn, .nilfn, .fn _ _ => some false
  | .fn, .fn _ _, .nilfn => some false
  | .map, .nilmap, .nilmap => some true
  | .map, .nilmap, .map _ => some false
  | .map, .map _, .nilmap => some false
  | _, _, _ => none
def eqList : List CK -> List AV -> List AV -> Option Bool
  | [], [], [] => some true
  | k :: ks, x :: xs, y :: ys =>
    match eqSc k x y with
    | some true => eqList ks xs ys
    | some false => some false
    | none => none
  | _, _, _ => none
def binA (op : BinOp) (x y : AV) : Option AV :=
  match x, y with
  | .int k a, .int k' b =>
    match op with
    | .shl => if b < 0 then none else some (.int k (k.wrap (a * 2 ^ (min b.toNat k.bits))))
    | .shr => if b < 0 then none else some (.int k (a.fdiv (2 ^ (min b.toNat k.bits))))
    | op => if k = k' then intOp op k a b else none
  | .str a, .str b => strOp op a b
  | _, _ => none
def allSc (l : List AV) : Bool := l.all AV.sc
def AV.isVs : AV -> Bool
  | .vs _ _ => true
  | _ => false
def noVs (l : List AV) : Bool := l.all fun x => !x.isVs
def putCells (z : List AV) (off : Nat) (cs : List AV) : List AV := z.take off ++ cs ++ z.drop (off + cs.length)
def buildA (ρ : Env) : List AV -> List (Nat × Nat × Opd) -> Option (List AV)
  | z, [] => some z
  | z, (off, sz, x) :: r =>
    let cs := (x.ev ρ).cells
    if cs.length = sz /\ allSc cs = true /\ off + sz <= z.length then buildA ρ (putCells z off cs) r else none
def elemsOf (ag : Bool) (sz : Nat) : Nat -> List AV -> List AV
  | 0, _ => []
  | n + 1, c => (if ag then .agg (c.take sz) else c.headD .undef) :: elemsOf ag sz n (c.drop sz)
def fitSz (sz : Nat) (l : List AV) : Bool := l.all fun e => e.cells.length == sz && allSc e.cells
def readAll (σ : St) (ag : Bool) (sz : Nat) : AV -> Option (List AV)
  | .vs l _ => if fitSz sz l then some l else none
  | .hs β off len _ =>
    match lk σ.H β with
    | some (.arr c) => if off + len * sz <= c.length /\ (ag = true \/ sz = 1) /\ allSc c = true then some (elemsOf ag sz len (c.drop off)) else none
    | _ => none
  | _ => none
def St.retok (σ : St) : Tok -> Option St
  | .no => none
  | .ex => some (σ.new .tok)
  | .id τ => match lk σ.H τ with
    | some .tok => some ({ σ with H := del σ.H τ }.new .tok)
    | _ => none
def maxBytes : Nat := 2 ^ 44
def byteTy : Nat := 5
def natOf : AV -> Option Nat
  | .int _ n => if 0 <= n then some n.toNat else none
  | _ => none
def optNat (ρ : Env) (d : Nat) : Option Opd -> Option Nat
  | none => some d
  | some x => natOf (x.ev ρ)
def findKeyA (ck : CK) (k : AV) : List MEnt -> Nat -> Option (Option (Nat × AV))
  | [], _ => some none
  | e :: es, i =>
    match eqSc ck k e.key with
    | some true => some (some (i, e.val))
    | some false => findKeyA ck k es (i + 1)
    | none => none
def isKey : AV -> Bool
  | .int _ _ | .str _ | .bool _ => true
  | _ => false
def evalOp (ρ : Env) (σ : St) : AOp -> OR
  | .mv x => .v (x.ev ρ) σ
  | .pick c a b => match c.ev ρ with | .bool t => .v (if t then a.ev ρ else b.ev ρ) σ | _ => .bad
  | .alloc z => .v (.ptr σ.n 0) (σ.new (.arr z))
  | .box sz x => let cs := (x.ev ρ).cells; if cs.length = sz /\ allSc cs = true then .v (.ptr σ.n 0) (σ.new (.arr cs)) else .bad
  | .build z ps => match buildA ρ z ps with | some cs => .v (.agg cs) σ | none => .bad
  | .lit sz xs => let l := xs.map (·.ev ρ); if fitSz sz l then .v (.vs l .ex) σ else .bad
  | .load ag sz a =>
    match a.ev ρ with
    | .ptr β off =>
      match lk σ.H β with
      | some (.arr c) =>
        if ag then (if off + sz <= c.length then .v (.agg ((c.drop off).take sz)) σ else .bad)
        else match c[off]? with | some v => .v v σ | none => .bad
      | some (.typ _ c) =>
        if ag then (if off + sz <= c.length then .v (.agg ((c.drop off).take sz)) σ else .bad)
        else match c[off]? with | some v => .v v σ | none => .bad
      | _ => .bad
    | .ip l =>
      if ag then (if sz <= l.length then .v (.agg (l.take sz)) σ else .bad)
      else match l with | v :: _ => .v v σ | [] => .bad
    | _ => .bad
  | .store sz a v =>
    match a.ev ρ with
    | .ptr β off =>
      match lk σ.H β with
      | some (.arr c) =>
        let cs := (v.ev ρ).cells
        if cs.length = sz /\ allSc cs = true /\ off + sz <= c.length then .v (.tup []) (σ.set β (.arr (putCells c off cs))) else .bad
      | some (.typ t c) =>
        let cs := (v.ev ρ).cells
        if cs.length = sz /\ allSc cs = true /\ off + sz <= c.length /\ (noVs cs || v.isNil) = true then .v (.tup []) (σ.set β (.typ t (putCells c off cs))) else .bad
      | _ => .bad
    | _ => .bad
  | .nilc x => match x.ev ρ with | .ptr β o => .v (.ptr β o) σ | .ip l => .v (.ip l) σ | _ => .bad
  | .bin op x y => match binA op (x.ev ρ) (y.ev ρ) with | some v => .v v σ | none => .bad
  | .eqv kd neg x y => match eqK kd (x.ev ρ) (y.ev ρ) with | some t => .v (.bool (t != neg)) σ | none => .bad
  | .eqagg neg ks x y =>
    match x.ev ρ, y.ev ρ with
    | .agg a, .agg b => if a.length = ks.length /\ b.length = ks.length then (match eqList ks a b with | some t => .v (.bool (t != neg)) σ | none => .bad) else .bad
    | _, _ => .bad
  | .eqnil neg x =>
    match x.ev ρ with
    | .vs [] _ => .any [(.bool true, σ), (.bool false, σ)]
    | .vs (_ :: _) _ => .v (.bool neg) σ
    | .hs _ _ _ _ => .v (.bool neg) σ
    | _ => .bad
  | .not x => match x.ev ρ with | .bool t => .v (.bool (!t)) σ | _ => .bad
  | .conv k x => match x.ev ρ with | .int _ n => .v (.int k (k.wrap n)) σ | _ => .bad
  | .b2s x => match x.ev ρ with | .bs s _ => .v (.str s) σ | .vs [] _ => .v (.str []) σ | _ => .bad
  | .mkfn f cap => .v (.fn f (cap.map (·.ev ρ))) σ
  | .mkmap => .v (.map σ.n) (σ.new (.map [] 0))
  | .mksl z bytes len cap =>
    match natOf (len.ev ρ), natOf (cap.ev ρ) with
    | some l, some c =>
      if l <= c /\ c * (bytes + 1) <= maxBytes then .v (.hs σ.n 0 l c) (σ.new (.arr (List.replicate c z).flatten)) else .bad
    | _, _ => .bad
  | .slice sz x lo hi mx =>
    match x.ev ρ with
    | .vs l t =>
      match optNat ρ 0 lo, optNat ρ l.length hi, optNat ρ l.length mx with
      | some lo, some hi, some m =>
        if lo <= hi /\ hi <= m /\ m <= l.length /\ fitSz sz l = true then
          .v (.vs ((l.take hi).drop lo) (if mx.isSome then (if m = hi then .ex else .no) else if hi = l.length then (if lo < hi then t else if t = .ex then .ex else .no) else .no)) σ
        else .bad
      | _, _, _ => .bad
    | .hs β off len cap =>
      if mx.isSome then .bad else
      match optNat ρ 0 lo, optNat ρ len hi with
      | some lo, some hi => if lo <= hi /\ hi <= cap /\ hi <= len /\ lo < cap then .v (.hs β (off + lo * sz) (hi - lo) (cap - lo)) σ else .bad
      | _, _ => .bad
    | _ => .bad
  | .sslice x lo hi =>
    match x.ev ρ with
    | .str s =>
      match optNat ρ 0 lo, optNat ρ s.length hi with
      | some lo, some hi => if lo <= hi /\ hi <= s.length then .v (.str ((s.take hi).drop lo)) σ else .bad
      | _, _ => .bad
    | _ => .bad
  | .fld off x => match x.ev ρ with | .ptr β o => .v (.ptr β (o + off)) σ | .ip l => .v (.ip (l.drop off)) σ | _ => .bad
  | .field ag off sz x =>
    match x.ev ρ with
    | .agg l => if ag then (if off + sz <= l.length then .v (.agg ((l.drop off).take sz)) σ else .bad)
      else match l[off]? with | some v => .v v σ | none => .bad
    | _ => .bad
  | .idxA sz x i =>
    match natOf (i.ev ρ) with
    | some i =>
      match x.ev ρ with
      | .vs l _ => match l[i]? with | some e => if e.cells.length = sz then .v (.ip e.cells) σ else .bad | none => .bad
      | .hs β off len _ => if i < len then .v (.ptr β (off + i * sz)) σ else .bad
      | _ => .bad
    | none => .bad
  | .idxP sz len x i =>
    match natOf (i.ev ρ), x.ev ρ with
    | some i, .ptr β o => if i < len then .v (.ptr β (o + i * sz)) σ else .bad
    | _, _ => .bad
  | .idx ag sz len x i =>
    match natOf (i.ev ρ), x.ev ρ with
    | some i, .agg l =>
      if i < len then
        if ag then (if i * sz + sz <= l.length then .v (.agg ((l.drop (i * sz)).take sz)) σ else .bad)
        else match l[i * sz]? with | some v => .v v σ | none => .bad
      else .bad
    | _, _ => .bad
  | .idxS x i =>
    match natOf (i.ev ρ), x.ev ρ with
    | some i, .str s => match s[i]? with | some b => .v (.int .u8 b.toNat) σ | none => .bad
    | _, _ => .bad
  | .lookup ck z x i ok =>
    let done (r : Option (Option (Nat × AV))) : OR := match r with
      | some (some (_, v)) => .v (if ok then .tup [v, .bool true] else v) σ
      | some none => .v (if ok then .tup [z, .bool false] else z) σ
      | none => .bad
    if isKey (i.ev ρ) then
      match x.ev ρ with
      | .nilmap => done (some none)
      | .map β => match lk σ.H β with
        | some (.map es _) => done (findKeyA ck (i.ev ρ) es 0)
        | _ => .bad
      | _ => .bad
    else .bad
  | .mapup kk m k v =>
    if isKey (k.ev ρ) then
      match m.ev ρ with
      | .map β => match lk σ.H β with
        | some (.map es ck) =>
          match findKeyA kk (k.ev ρ) es 0 with
          | some (some (i, _)) => .v (.tup []) (σ.set β (.map (es.modify i fun e => { e with key := k.ev ρ, val := v.ev ρ }) ck))
          | some none => .v (.tup []) (σ.set β (.map (es ++ [⟨k.ev ρ, v.ev ρ, ck⟩]) (ck + 1)))
          | none => .bad
        | _ => .bad
      | _ => .bad
    else .bad
  | .del kk m k =>
    if isKey (k.ev ρ) then
      match m.ev ρ with
      | .map β => match lk σ.H β with
        | some (.map es ck) =>
          match findKeyA kk (k.ev ρ) es 0 with
          | some (some (i, _)) => .v (.tup []) (σ.set β (.map (es.eraseIdx i) ck))
          | some none => .v (.tup []) σ
          | none => .bad
        | _ => .bad
      | _ => .bad
    else .bad
  | .range m =>
    match m.ev ρ with
    | .map β => match lk σ.H β with
      | some (.map _ ck) => .v (.ptr σ.n 0) (σ.new (.iter β ck []))
      | _ => .bad
    | _ => .bad
  | .next it =>
    match it.ev ρ with
    | .ptr r 0 =>
      match lk σ.H r with
      | some (.iter m ck seen) =>
        match lk σ.H m with
        | some (.map es ck') =>
          if ck' = ck then
            match es.filter (fun e => !seen.contains e.born) with
            | [] => .v (.tup [.bool false]) σ
            | left => .any (left.map fun e => (.tup [.bool true, e.key, e.val], σ.set r (.iter m ck (seen ++ [e.born]))))
          else .bad
        | _ => .bad
      | _ => .bad
    | _ => .bad
  | .entry it =>
    match it.ev ρ with
    | .ptr r 0 =>
      match lk σ.H r with
      | some (.iter m ck seen) =>
        match lk σ.H m, seen.getLast? with
        | some (.map es ck'), some s =>
          if ck' = ck then
            match es.find? (fun e => e.born == s) with
            | some e => .v (.tup [e.key, e.val]) σ
            | none => .bad
          else .bad
        | _, _ => .bad
      | _ => .bad
    | _ => .bad
  | .ext x i => match x.ev ρ with | .tup l => (match l[i]? with | some v => .v v σ | none => .bad) | _ => .bad
  | .call f args => .call f (args.map (·.ev ρ))
  | .callv x args =>
    match x.ev ρ with
    | .fn f cap => .call f (args.map (·.ev ρ) ++ cap)
    | .yld β => .yld β (args.map (·.ev ρ))
    | _ => .bad
  | .app ag sz bytes s x =>
    match readAll σ ag sz (x.ev ρ), s.ev ρ with
    | some new, .vs l t =>
      if new = [] then .v (.vs l t) σ
      else if fitSz sz l && fitSz sz new && decide ((l.length + new.length) * (bytes + 1) <= maxBytes) then
        match σ.retok t with
        | some σ' => .v (.vs (l ++ new) (.id σ.n)) σ'
        | none => .bad
      else .bad
    | some new, .hs β off len cap =>
      match lk σ.H β with
      | some (.arr c) =>
        if len + new.length <= cap /\ off + (len + new.length) * sz <= c.length /\ fitSz sz new = true then
          .v (.hs β off (len + new.length) cap) (σ.set β (.arr (putCells c (off + len * sz) (new.flatMap AV.cells))))
        else .bad
      | _ => .bad
    | _, _ => .bad
  | .appb s x =>
    let fin (l : List UInt8) (t : Tok) (x : List UInt8) : OR :=
      if l.length + x.length <= maxBytes / 4 then
        match σ.retok t with
        | some σ' => .v (.bs (l ++ x) (.id σ.n)) σ'
        | none => .bad
      else .bad
    match s.ev ρ, x.ev ρ with
    | .bs l t, .str x => if x = [] then .v (.bs l t) σ else fin l t x
    | .vs [] t, .str x => if x = [] then .v (.vs [] t) σ else fin [] t x
    | _, _ => .bad
  | .len k x =>
    match k, x.ev ρ with
    | .l, .vs l _ => .v (.int .i64 l.length) σ
    | .l, .bs l _ => .v (.int .i64 l.length) σ
    | .s, .str l => .v (.int .i64 l.length) σ
    | .l, .hs _ _ len _ => .v (.int .i64 len) σ
    | .m, .nilmap => .v (.int .i64 0) σ
    | .m, .map β => match lk σ.H β with
      | some (.map es _) => .v (.int .i64 es.length) σ
      | _ => .bad
    | _, _ => .bad
  | .copy sz d s =>
    match d.ev ρ with
    | .hs β off len _ =>
      match lk σ.H β, readAll σ true sz (s.ev ρ) with
      | some (.arr c), some l =>
        if l.length <= len /\ off + len * sz <= c.length then
          .v (.int .i64 l.length) (σ.set β (.arr (putCells c off (l.flatMap AV.cells))))
        else .bad
      | _, _ => .bad
    | _ => .bad
  | .min x y => match x.ev ρ, y.ev ρ with | .int k a, .int k' b => if k = k' then .v (.int k (if b < a then b else a)) σ else .bad | _, _ => .bad
  | .bad => .bad
  | .allocT t z => .v (.ptr σ.n 0) (σ.new (.typ t z))
def optL : Option Opd -> List Opd
  | none => []
  | some x => [x]
def AOp.opds : AOp -> List Opd
  | .mv x | .box _ x | .load _ _ x | .nilc x | .eqnil _ x | .not x | .conv _ x | .b2s x | .fld _ x | .field _ _ _ x | .range x | .next x | .entry x | .ext x _ | .len _ x => [x]
  | .pick c a b => [c, a, b]
  | .alloc _ | .allocT _ _ | .mkmap | .bad => []
  | .build _ ps => ps.map (·.2.2)
  | .lit _ xs => xs
  | .store _ a v => [a, v]
  | .bin _ x y | .eqv _ _ x y | .eqagg _ _ x y | .idxA _ x y | .idxP _ _ x y | .idx _ _ _ x y | .idxS x y | .app _ _ _ x y | .appb x y | .copy _ x y | .min x y
  | .lookup _ _ x y _ | .del _ x y | .mksl _ _ x y => [x, y]
  | .mkfn _ cap => cap
  | .slice _ x lo hi mx => x :: (optL lo ++ optL hi ++ optL mx)
  | .sslice x lo hi => x :: (optL lo ++ optL hi)
  | .mapup _ m k v => [m, k, v]
  | .call _ args => args
  | .callv x args => x :: args
def AOp.reads (o : AOp) : List Nat := o.opds.filterMap fun | .t i => some i | .c _ => none
def AInstr.looks (i : AInstr) : List Nat := i.op.reads ++ (match i.guard with | some (s, _) => [s] | none => [])
def wanted (ρ : Env) : Option (Nat × Bool) -> Option Bool
  | none => some true
  | some (s, want) => match ρ s with
    | .bool b => some (b == want)
    | .tup [] => some false
    | _ => none
end Go.Proofs.YtekhblefchceaaaGreat.AM

/- The translation of the model's code into the abstract machine's code. Nothing is claimed here. -/
namespace Go.Proofs.YtekhblefchceaaaGreat.AM
open Go
def valSc : Value -> Option AV
  | .bool b => some (.bool b)
  | .int k n => some (.int k n)
  | .string s => some (.str s.data.toList)
  | .pointer none => some .nilp
  | .slice none 0 0 => some (.vs [] .ex)
  | .map none => some .nilmap
  | .nilFunc => some .nilfn
  | .nilIface => some .nilif
  | _ => none
def valScs : List Value -> Option (List AV)
  | [] => some []
  | v :: r => match valSc v, valScs r with
    | some x, some l => some (x :: l)
    | _, _ => none
def valAV : Value -> Option AV
  | .agg cs => (valScs cs.toList).map .agg
  | v => valSc v
section
variable (P : Program)
def cOpd (nt : Nat) : Operand -> Option Opd
  | .tmp t => if t < nt then some (.t t) else none
  | .const v => (valAV v).map .c
  | .func f => some (.c (.fn f []))
  | .global _ => none
def cOpds (nt : Nat) : List Operand -> Option (List Opd)
  | [] => some []
  | x :: r => match cOpd nt x, cOpds nt r with
    | some y, some l => some (y :: l)
    | _, _ => none
def cOpdO (nt : Nat) : Option Operand -> Option (Option Opd)
  | none => some none
  | some x => (cOpd nt x).map some
def szOf (t : TypeId) : Option Nat := (P.info? t).map (·.size)
def zeroCellsOf (t : TypeId) : Option (List AV) :=
  match P.info? t with
  | some i => match i.zero with
    | some z => if z.cells.size = i.size then valScs z.cells.toList else none
    | none => none
  | none => none
def zeroAVOf (t : TypeId) : Option AV :=
  match P.info? t with
  | some i => match i.zero with
    | some z => valAV z
    | none => none
  | none => none
def aggOf (t : TypeId) : Option Bool :=
  match P.underlying t with
  | some (.struct _) | some (.array _ _) => some true
  | some _ => some false
  | none => none
def fieldOf (t : TypeId) (f : Nat) : Option (Nat × TypeId × Nat) :=
  match P.underlying t with
  | some (.struct fs) => match fs[f]? with
    | some g => match szOf P g.type with
      | some s => some (g.offset, g.type, s)
      | none => none
    | none => none
  | _ => none
def keyKind (t : TypeId) : Option CK :=
  match P.underlying t with
  | some (.int _) => some .i
  | some .bool => some .b
  | some .string => some .s
  | _ => none
def kindsFs (fl : TypeId -> Option (List CK)) : List Field -> Nat -> Option (List CK)
  | [], _ => some []
  | f :: r, off =>
    if f.name != "_" && f.offset == off then
      match fl f.type with
      | some k => match kindsFs fl r (off + k.length) with
        | some l => some (k ++ l)
        | none => none
      | none => none
    else none
def kindsRep (k : List CK) : Nat -> List CK
  | 0 => []
  | n + 1 => k ++ kindsRep k n
def kinds : Nat -> TypeId -> Option (List CK)
  | 0, _ => none
  | d + 1, t =>
    match (match P.underlying t with
      | some (.int _) => some [.i]
      | some .bool => some [.b]
      | some .string => some [.s]
      | some (.struct fs) => if P.stoodInHeld t then none else kindsFs (kinds d) fs.toList 0
      | some (.array len e) => (kinds d e).map (kindsRep · len)
      | _ => none : Option (List CK)) with
    | some l => if szOf P t = some l.length then some l else none
    | none => none
def okFields (t : TypeId) : Bool :=
  match P.underlying t with
  | some (.struct fs) => fs.toList.all fun f => (szOf P f.type).isSome
  | some (.array _ e) => (szOf P e).isSome
  | _ => false
def cBuild (nt : Nat) (t : TypeId) : List (Nat × Operand) -> Option (List (Nat × Nat × Opd))
  | [] => some []
  | (i, x) :: r =>
    match cOpd nt x, cBuild nt t r with
    | some y, some l =>
      match P.underlying t with
      | some (.struct _) => match fieldOf P t i with
        | some (off, _, s) => some ((off, s, y) :: l)
        | none => none
      | some (.array _ e) => match szOf P e with
        | some s => some ((i * s, s, y) :: l)
        | none => none
      | _ => none
    | _, _ => none
def cLit (nt : Nat) : Nat -> List (Nat × Operand) -> Option (List Opd)
  | _, [] => some []
  | k, (i, x) :: r => if i = k then match cOpd nt x, cLit nt (k + 1) r with
    | some y, some l => some (y :: l)
    | _, _ => none
    else none
def cCall (nt : Nat) (c : Call) : Option AOp :=
  match cOpds nt c.args.toList with
  | none => none
  | some args =>
    match c.callee with
    | .value (.func f) => some (.call f args)
    | .value x => (cOpd nt x).map (.callv · args)
    | .invoke _ _ => none
    | .builtin b =>
      match b, args, c.argTypes[0]? with
      | .len, [x], some t => match P.underlying t with
        | some .string => some (.len .s x)
        | some (.slice _) => some (.len .l x)
        | some (.map _ _) => some (.len .m x)
        | _ => none
      | .min, [x, y], some _ => some (.min x y)
      | .delete, [m, k], some t => match P.underlying t with
        | some (.map kt _) => (keyKind P kt).map (.del · m k)
        | _ => none
      | .copy, [d, s], some t => match P.underlying t with
        | some (.slice e) => match szOf P e with
          | some z => if z ≠ 0 then some (.copy z d s) else none
          | none => none
        | _ => none
      | .append, [s, x], some t =>
        match P.underlying t, (c.argTypes[1]?).bind P.underlying with
        | some (.slice e), some .string => match P.info? e with
          | some i => if i.size = 1 /\ i.bytes <= 1 /\ (zeroCellsOf P e).isSome = true /\ e = byteTy then some (.appb s x) else none
          | none => none
        | some (.slice e), some (.slice e') =>
          match P.info? e, aggOf P e, szOf P e' with
          | some i, some ag, some s' => if i.size = s' /\ i.size ≠ 0 /\ (zeroCellsOf P e).isSome = true then some (.app ag i.size i.bytes s x) else none
          | _, _, _ => none
        | _, _ => none
      | _, _, _ => none
def eqOp : BinOp -> Option Bool
  | .eql => some false
  | .neq => some true
  | _ => none
def allocOf (t : Nat) (z : List AV) : AOp := match z with
  | [.nilp, .vs [] .ex] => .allocT t z
  | _ => .alloc z
def cOp? (nt : Nat) (o : Oper) : Option AOp :=
  let d := cOpd nt
  match o.op with
  | .move x | .assign x => (d x).map .mv
  | .pick c a b => match d c, d a, d b with | some c, some a, some b => some (.pick c a b) | _, _, _ => none
  | .alloc t => (zeroCellsOf P t).map (allocOf t)
  | .box t x => match szOf P t, d x with | some s, some x => some (.box s x) | _, _ => none
  | .build t parts => match aggOf P t, zeroCellsOf P t, cBuild P nt t parts.toList with
    | some true, some z, some l => if okFields P t then some (.build z l) else none
    | _, _, _ => none
  | .buildSlice t len parts => match P.underlying t with
    | some (.slice e) => match szOf P e, cLit nt 0 parts.toList with
      | some s, some l => if l.length = len /\ s ≠ 0 /\ len * s <= 1000 /\ (zeroCellsOf P e).isSome = true then some (.lit s l) else none
      | _, _ => none
    | _ => none
  | .load t a => match aggOf P t, szOf P t, d a with | some g, some s, some a => some (.load g s a) | _, _, _ => none
  | .store t a v => match szOf P t, d a, d v with | some s, some a, some v => some (.store s a v) | _, _, _ => none
  | .nilCheck x => (d x).map .nilc
  | .binOp op t x y _ =>
    match d x, d y with
    | some x, some y =>
      match P.underlying t with
      | some (.int _) | some .string => some (.bin op x y)
      | some .bool => (eqOp op).map (.eqv .bool · x y)
      | some (.func _ _ _) => (eqOp op).map (.eqv .fn · x y)
      | some (.map _ _) => (eqOp op).map (.eqv .map · x y)
      | some (.pointer e) => if (szOf P e).getD 0 ≠ 0 then (eqOp op).map (.eqv .ptr · x y) else none
      | some (.slice _) => match op, y with
        | .eql, .c (.vs [] .ex) => some (.eqnil false x)
        | .neq, .c (.vs [] .ex) => some (.eqnil true x)
        | _, _ => none
      | some (.struct _) | some (.array _ _) =>
        match kinds P 5 t with
        | some s => if P.eqGuardType P.depth t then none else (eqOp op).map (.eqagg · s x y)
        | none => none
      | _ => none
    | _, _ => none
  | .unOp op _ x => if op matches .not then (d x).map .not else none
  | .convert src dst x =>
    match d x with
    | some x =>
      match P.underlying src, P.underlying dst with
      | some (.int _), some (.int k) => some (.conv k x)
      | some (.slice e), some .string => if P.underlying e matches some (.int .u8) then some (.b2s x) else none
      | _, _ => none
    | none => none
  | .makeFunc fn first captured =>
    match fn, first.toList, cOpds nt captured.toList with
    | .func f, [], some l => some (.mkfn f l)
    | _, _, _ => none
  | .makeMap t r => match P.underlying t with
    | some (.map _ _) => match r with
      | none | some (.const (.int _ _)) => some .mkmap
      | _ => none
    | _ => none
  | .makeSlice t l c =>
    match P.underlying t with
    | some (.slice e) => match P.info? e, zeroCellsOf P e, d l, d c with
      | some i, some z, some l, some c => if i.size ≠ 0 then some (.mksl z i.bytes l c) else none
      | _, _, _, _ => none
    | _ => none
  | .slice t x lo hi mx =>
    match d x, cOpdO nt lo, cOpdO nt hi, cOpdO nt mx with
    | some x, some lo, some hi, some mx =>
      match P.underlying t with
      | some .string => if mx.isNone then some (.sslice x lo hi) else none
      | some (.slice e) => match szOf P e with
        | some s => if s ≠ 0 /\ (mx.isSome = true -> hi.isSome = true) then some (.slice s x lo hi mx) else none
        | none => none
      | _ => none
    | _, _, _, _ => none
  | .fieldAddr t x f => match fieldOf P t f, d x with
    | some (off, _, s), some x => if s ≠ 0 then some (.fld off x) else none
    | _, _ => none
  | .field t x f => match fieldOf P t f, d x with
    | some (off, ft, s), some x => (aggOf P ft).map fun g => .field g off s x
    | _, _ => none
  | .indexAddr t x i => match P.underlying t, d x, d i with
    | some (.slice e), some x, some i => match szOf P e with
      | some s => if s ≠ 0 then some (.idxA s x i) else none
      | none => none
    | some (.array len e), some x, some i => match szOf P e with
      | some s => if s ≠ 0 then some (.idxP s len x i) else none
      | none => none
    | _, _, _ => none
  | .index t x i => match P.underlying t, d x, d i with
    | some (.array len e), some x, some i => match szOf P e, aggOf P e with
      | some s, some g => if s ≠ 0 then some (.idx g s len x i) else none
      | _, _ => none
    | some .string, some x, some i => some (.idxS x i)
    | _, _, _ => none
  | .lookup t x i ok => match P.underlying t, d x, d i with
    | some (.map k e), some x, some i => match keyKind P k, zeroAVOf P e with
      | some c, some z => some (.lookup c z x i ok)
      | _, _ => none
    | _, _, _ => none
  | .mapUpdate t m k v | .insert t m k v => match P.underlying t, d m, d k, d v with
    | some (.map kt _), some m, some k, some v => (keyKind P kt).map (.mapup · m k v)
    | _, _, _, _ => none
  | .range t x => match P.underlying t, d x with
    | some (.map _ _), some x => some (.range x)
    | _, _ => none
  | .next it isString => if isString then none else (d it).map .next
  | .entry it => (d it).map .entry
  | .extract x i => (d x).map (.ext · i)
  | .call c => cCall P nt c
  | _ => none
def cOp (nt : Nat) (o : Oper) : AOp := (cOp? P nt o).getD .bad
def cInstr (nt : Nat) (ops : Array Oper) (o : Oper) : AInstr :=
  match o.guard with
  | none => { dst := o.dst, guard := none, op := cOp P nt o }
  | some (j, want) =>
    match (ops[j]?).bind (·.dst) with
    | some s => if s < nt then { dst := o.dst, guard := some (s, want), op := cOp P nt o } else { dst := o.dst, guard := none, op := .bad }
    | none => { dst := o.dst, guard := none, op := .bad }
def okDst (nt : Nat) (ops : List Oper) : Bool := ops.all fun o => match o.dst with | some d => decide (d < nt) | none => true
def pureOp : AOp -> Bool
  | .mv _ | .pick _ _ _ | .build _ _ | .lit _ _ | .nilc _ | .bin _ _ _ | .eqv _ _ _ _ | .eqagg _ _ _ _ | .not _ | .conv _ _ | .b2s _ | .mkfn _ _
  | .sslice _ _ _ | .slice _ _ _ _ _ | .fld _ _ | .field _ _ _ _ | .idxA _ _ _ | .idxP _ _ _ _ | .idx _ _ _ _ _ | .idxS _ _ | .ext _ _ | .min _ _ => true
  | _ => false
def readOp : AOp -> Bool
  | .load _ _ _ | .lookup _ _ _ _ _ | .len _ _ => true
  | _ => false
def disj (a b : AInstr) : Bool :=
  (match a.dst with | some d => !(b.looks.contains d) && (match b.dst with | some e => decide (d ≠ e) | none => true) | none => true) &&
  (match b.dst with | some d => !(a.looks.contains d) | none => true)
def calmPair (a b : AInstr) : Bool := disj a b && (pureOp a.op || pureOp b.op || (readOp a.op && readOp b.op))
def depsOf (ops : List Oper) : List (List Nat) := ops.map fun o => (o.after.toList.filter (Region.binds .any ·)).map (·.on)
def ancs : List Nat -> List (List Nat) -> List Nat
  | acc, [] => acc
  | acc, d :: r => ancs (acc ++ [d.foldr (fun e s => 2 ^ e ||| acc.getD e 0 ||| s) 0]) r
def calm (as : List AInstr) (deps : List (List Nat)) : Bool :=
  let an := ancs [] deps
  (List.range as.length).all fun j => (deps.getD j []).all (fun e => decide (e < j)) && (List.range j).all fun i => (an.getD j 0).testBit i || calmPair (as.getD i default) (as.getD j default)
def cCode (nt : Nat) : Code -> ACode
  | .skip => .skip
  | .label _ => .skip
  | .seq a b => .seq (cCode nt a) (cCode nt b)
  | .cond c a b => match cOpd nt c with
    | some c => .cond c (cCode nt a) (cCode nt b)
    | none => .bad
  | .block id c => .block id (cCode nt c)
  | .loop c => .loop (cCode nt c)
  | .scope c => .scope (cCode nt c)
  | .exit id => .exit id
  | .ret => .ret
  | .region _ ops draw =>
    let as := ops.toList.map (cInstr P nt ops)
    if okDst nt ops.toList then
      if draw then (if calm as (depsOf ops.toList) then .rg as else .qrg as (depsOf ops.toList)) else .rg as
    else .bad
  | .rangeFunc f params asg body => match cOpd nt f with
    | some f => if params.toList.all (· < nt) then .rf f params.toList (cCode nt asg) (cCode nt body) else .bad
    | none => .bad
  | _ => .bad
def cRes : List ResultVar -> Option (List RV)
  | [] => some []
  | .tmp t :: r => (cRes r).map (.tmp t :: ·)
  | .cell t ty :: r => match aggOf P ty, szOf P ty, cRes r with
    | some g, some s, some l => some (.cell t g s :: l)
    | _, _, _ => none
def cFunc (fn : Func) : Option AFunc :=
  match fn.body, cRes P fn.results.toList with
  | some b, some r =>
    if (fn.results.toList.all fun x => match x with | .tmp t => decide (t < fn.ntmps) | .cell t _ => decide (t < fn.ntmps)) then
      some { np := fn.params.size + fn.nfree, nt := fn.ntmps, res := r, body := cCode P fn.ntmps b }
    else none
  | _, _ => none
end
inductive Ex where
  | nrm | ext (id : Nat) | ret
  deriving DecidableEq, Inhabited
def envOf (args : List AV) : Env := fun i => args.getD i (.tup [])
def resOf (ρ : Env) (σ : St) : List RV -> Option (List AV)
  | [] => some []
  | .tmp t :: r => (resOf ρ σ r).map (ρ t :: ·)
  | .cell t ag sz :: r =>
    match evalOp ρ σ (.load ag sz (.t t)), resOf ρ σ r with
    | .v v _, some l => some (v :: l)
    | _, _ => none
def resAV : List AV -> AV
  | [v] => v
  | l => .tup l
end Go.Proofs.YtekhblefchceaaaGreat.AM

/- How an abstract state lies in the model's memory: the relation, and that it is kept where memory grows or a live block is written. -/
namespace Go.Proofs.YtekhblefchceaaaGreat.AM
open Go
theorem lk_upd {H : List (Nat × Blk)} {β γ : Nat} {b : Blk} : lk (upd H β b) γ = if β = γ then (lk H γ).map fun _ => b else lk H γ := by
  induction H with
  | nil => simp [upd, lk]
  | cons p r ih =>
    obtain ⟨a, c⟩ := p
    by_cases h : a = β
    · subst h
      by_cases h2 : a = γ
      · subst h2; simp [upd, lk]
      · simp [upd, lk, h2]
    · by_cases h2 : a = γ
      · subst h2
        have h3 : β ≠ a := fun e => h e.symm
        simp [upd, lk, h, h3]
      · simp [upd, lk, h, h2, ih]
theorem lk_del {H : List (Nat × Blk)} {β γ : Nat} : lk (del H β) γ = if γ = β then none else lk H γ := by
  induction H with
  | nil => simp [del, lk]
  | cons p r ih =>
    obtain ⟨a, c⟩ := p
    by_cases h1 : a = β
    · subst h1
      by_cases h2 : γ = a
      · subst h2; simp [del, ih]
      · have h3 : a ≠ γ := fun e => h2 e.symm
        simp [del, lk, ih, h2, h3]
    · by_cases h2 : a = γ
      · subst h2; simp [del, lk, h1]
      · simp [del, lk, h1, h2, ih]
structure Gh where
  bl : Nat -> Nat
  fr : Nat -> Nat
  tp : Nat -> Nat
  ty : Nat -> Nat
abbrev Heap := Array Obj
def hc (h : Heap) (b i : Nat) : Option Value :=
  match h[b]? with
  | some (.cells c _ _) => c[i]?
  | _ => none
theorem hc_cell (w : World) (b i : Nat) : w.cell? ⟨b, i, none⟩ = hc w.heap b i := by
  unfold World.cell? hc
  cases w.heap[b]? with
  | none => rfl
  | some o => cases o <;> rfl
def Mut (g : Gh) (H : List (Nat × Blk)) (b i : Nat) : Prop := ∃ β k, lk H β = some k /\ g.bl β = b /\ (k = .tok -> g.fr β <= i)
def IC (g : Gh) (H : List (Nat × Blk)) (h : Heap) (b i : Nat) (v : Value) : Prop := hc h b i = some v /\ ¬ Mut g H b i
def DO (g : Gh) (H : List (Nat × Blk)) (h : Heap) (b : Nat) (o : Obj) : Prop :=
  h[b]? = some o /\ ∀ β k, lk H β = some k -> g.bl β ≠ b
def TokR (g : Gh) (n : Nat) (l : Nat) (b off sz len cap : Nat) : Tok -> Prop
  | .no => True
  | .ex => cap = len
  | .id τ => (l = 0 /\ cap = len) \/ (τ < n /\ (cap = len \/ (l ≠ 0 /\ g.bl τ = b /\ g.fr τ = off + len * sz /\ off + cap * sz <= g.tp τ)))
def TokB (g : Gh) (n : Nat) (b off len cap : Nat) (t : Tok) : Prop :=
  TokR g n 1 b off 1 len cap t /\ (match t with | .id τ => g.bl τ = b /\ off = 0 /\ g.ty τ = byteTy /\ len <= g.fr τ | _ => True)
inductive VR (g : Gh) (n : Nat) (ic : Nat -> Nat -> Value -> Prop) : AV -> Value -> Prop where
  | undef (v) : VR g n ic .undef v
  | bool (b) : VR g n ic (.bool b) (.bool b)
  | int (k i) : VR g n ic (.int k i) (.int k i)
  | str (s : List UInt8) : VR g n ic (.str s) (.string ⟨s.toArray⟩)
  | nilp : VR g n ic .nilp (.pointer none)
  | ptr (β off) (h : β < n) : VR g n ic (.ptr β off) (.pointer (some ⟨g.bl β, off, none⟩))
  | ip (l : List AV) (b off : Nat) (cs : Nat -> Value) (h1 : ∀ i, i < l.length -> ic b (off + i) (cs i))
      (h2 : ∀ (i : Nat) (x : AV), l[i]? = some x -> VR g n ic x (cs i)) : VR g n ic (.ip l) (.pointer (some ⟨b, off, none⟩))
  | vsn (t : Tok) : VR g n ic (.vs [] t) (.slice none 0 0)
  | vs (l : List AV) (t : Tok) (b off cap sz : Nat) (cs : Nat -> Nat -> Value) (hsz : ∀ e, e ∈ l -> e.cells.length = sz) (hcap : l.length <= cap)
      (h1 : ∀ i j, i < l.length -> j < sz -> ic b (off + i * sz + j) (cs i j))
      (h2 : ∀ (i j : Nat) (e x : AV), l[i]? = some e -> e.cells[j]? = some x -> VR g n ic x (cs i j))
      (ht : TokR g n l.length b off sz l.length cap t) : VR g n ic (.vs l t) (.slice (some ⟨b, off, none⟩) l.length cap)
  | bs (s : List UInt8) (t : Tok) (b off cap : Nat) (hcap : s.length <= cap)
      (h1 : ∀ (i : Nat) (x : UInt8), s[i]? = some x -> ic b (off + i) (.int .u8 x.toNat))
      (ht : TokB g n b off s.length cap t) : VR g n ic (.bs s t) (.slice (some ⟨b, off, none⟩) s.length cap)
  | hs (β off len cap : Nat) (h : β < n) : VR g n ic (.hs β off len cap) (.slice (some ⟨g.bl β, off, none⟩) len cap)
  | nilmap : VR g n ic .nilmap (.map none)
  | map (β) (h : β < n) : VR g n ic (.map β) (.map (some (g.bl β)))
  | nilfn : VR g n ic .nilfn .nilFunc
  | fn (f : Nat) (l : List AV) (cs : Array Value) (hl : l.length = cs.size) (h : ∀ (i : Nat) (x : AV) (c : Value), l[i]? = some x -> cs[i]? = some c -> VR g n ic x c) :
      VR g n ic (.fn f l) (.func (.func f) #[] cs)
  | yld (β) (h : β < n) : VR g n ic (.yld β) (.func (.yield (g.bl β)) #[] #[])
  | nilif : VR g n ic .nilif .nilIface
  | agg (l : List AV) (cs : Array Value) (hl : l.length = cs.size) (h : ∀ (i : Nat) (x : AV) (c : Value), l[i]? = some x -> cs[i]? = some c -> VR g n ic x c) :
      VR g n ic (.agg l) (.agg cs)
  | tup (l : List AV) (cs : Array Value) (hl : l.length = cs.size) (h : ∀ (i : Nat) (x : AV) (c : Value), l[i]? = some x -> cs[i]? = some c -> VR g n ic x c) :
      VR g n ic (.tup l) (.tuple cs)
def Gh.le (g g' : Gh) (n : Nat) : Prop := ∀ β, β < n -> g'.bl β = g.bl β /\ g'.fr β = g.fr β /\ g'.tp β = g.tp β /\ g'.ty β = g.ty β
theorem TokR.mono {g g' : Gh} {n n' l b off sz len cap : Nat} {t : Tok} (hn : n <= n') (hg : g.le g' n) (h : TokR g n l b off sz len cap t) :
    TokR g' n' l b off sz len cap t := by
  cases t with
  | no => trivial
  | ex => exact h
  | id τ =>
    rcases h with h | ⟨h1, h2⟩
    · exact .inl h
    refine .inr ⟨by omega, ?_⟩
    obtain ⟨e1, e2, e3, _⟩ := hg τ h1
    rw [e1, e2, e3]; exact h2
theorem TokB.mono {g g' : Gh} {n n' b off len cap : Nat} {t : Tok} (hn : n <= n') (hg : g.le g' n) (h : TokB g n b off len cap t) : TokB g' n' b off len cap t := by
  refine ⟨h.1.mono hn hg, ?_⟩
  cases t with
  | no => trivial
  | ex => trivial
  | id τ =>
    have hτ : τ < n := by rcases h.1 with h | h; exact absurd h.1 (by decide); exact h.1
    obtain ⟨e1, e2, e3, e4⟩ := hg τ hτ
    show g'.bl τ = b /\ off = 0 /\ g'.ty τ = byteTy /\ len <= g'.fr τ
    rw [e1, e2, e4]; exact h.2
theorem VR.mono {g g' : Gh} {n n' : Nat} {ic ic' : Nat -> Nat -> Value -> Prop} (hn : n <= n') (hg : g.le g' n) (hi : ∀ b i v, ic b i v -> ic' b i v)
    {x : AV} {v : Value} (h : VR g n ic x v) : VR g' n' ic' x v := by
  induction h with
  | undef v => exact .undef v
  | bool b => exact .bool b
  | int k i => exact .int k i
  | str s => exact .str s
  | nilp => exact .nilp
  | ptr β off h => rw [<- (hg β h).1]; exact .ptr β off (by omega)
  | ip l b off cs h1 _ ih => exact .ip l b off cs (fun i hl => hi _ _ _ (h1 i hl)) ih
  | vsn t => exact .vsn t
  | vs l t b off cap sz cs hsz hcap h1 _ ht ih => exact .vs l t b off cap sz cs hsz hcap (fun i j hl hj => hi _ _ _ (h1 i j hl hj)) ih (ht.mono hn hg)
  | bs s t b off cap hcap h1 ht => exact .bs s t b off cap hcap (fun i x hx => hi _ _ _ (h1 i x hx)) (ht.mono hn hg)
  | hs β off len cap h => rw [<- (hg β h).1]; exact .hs β off len cap (by omega)
  | nilmap => exact .nilmap
  | map β h => rw [<- (hg β h).1]; exact .map β (by omega)
  | nilfn => exact .nilfn
  | fn f l cs hl _ ih => exact .fn f l cs hl ih
  | yld β h => rw [<- (hg β h).1]; exact .yld β (by omega)
  | nilif => exact .nilif
  | agg l cs hl _ ih => exact .agg l cs hl ih
  | tup l cs hl _ ih => exact .tup l cs hl ih
section
variable (P : Program)
def BR (g : Gh) (n : Nat) (ic : Nat -> Nat -> Value -> Prop) (β : Nat) : Blk -> Option Obj -> Prop
  | .arr c, o => ∃ cs e, o = some (.cells cs e (0, 0)) /\ cs.size = c.length /\ ∀ (i : Nat) (x : AV) (v : Value), c[i]? = some x -> cs[i]? = some v -> VR g n ic x v
  | .typ t c, o => ∃ cs, o = some (.cells cs t (0, 0)) /\ cs.size = c.length /\ ∀ (i : Nat) (x : AV) (v : Value), c[i]? = some x -> cs[i]? = some v -> VR g n ic x v /\ (x.isVs = true -> v = .slice none 0 0)
  | .tok, o => ∃ cs e z, o = some (.cells cs e z) /\ e = g.ty β /\ cs.size = g.tp β /\ g.fr β <= cs.size /\ z.2 <= g.fr β
  | .map es ck, o => ∃ ces, o = some (.map ces ck) /\ ces.size = es.length /\
      (∀ (i : Nat) (e : MEnt) (ce : MapEntry), es[i]? = some e -> ces[i]? = some ce -> VR g n ic e.key ce.key /\ VR g n ic e.val ce.val /\ ce.born = e.born /\ isKey e.key = true /\ e.born < ck) /\
      (es.map (·.born)).Nodup
  | .iter m ck seen, o => m < n /\ o = some (.mapIter (some (g.bl m)) ck seen.toArray ck)
  | .loop st pend ρ params asg body, o => ∃ L : Loop, o = some (.loop L) /\ L.tmps.size = ρ.length /\
      (∀ (i : Nat) (x : AV) (v : Value), ρ[i]? = some x -> L.tmps[i]? = some v -> VR g n ic x v) /\ L.params.toList = params /\
      cCode P ρ.length L.assign = asg /\ cCode P ρ.length L.body = body /\
      (match st with | .ready => L.state = .ready | .busy => L.state = .busy | .done => L.state = .done) /\
      (match pend, L.pending with
        | none, none => True
        | some (.exit i), some (.exit j) => i = j
        | some .ret, some .ret => True
        | _, _ => False)
structure Rel (g : Gh) (σ : St) (h : Heap) : Prop where
  lt : ∀ β k, lk σ.H β = some k -> β < σ.n
  inj : ∀ β γ k k', lk σ.H β = some k -> lk σ.H γ = some k' -> g.bl β = g.bl γ -> β = γ
  blk : ∀ β k, lk σ.H β = some k -> BR P g σ.n (IC g σ.H h) β k h[g.bl β]?
end
def KC (h h' : Heap) : Prop := ∀ (b : Nat) c e z, h[b]? = some (Obj.cells c e z) -> ∃ c' z', h'[b]? = some (Obj.cells c' e z') /\ c'.size = c.size
theorem KC.refl (h : Heap) : KC h h := fun _ c _ z hc => ⟨c, z, hc, rfl⟩
theorem KC.trans {h h' h'' : Heap} (a : KC h h') (b : KC h' h'') : KC h h'' := fun x c e z hc =>
  let ⟨c1, z1, h1, s1⟩ := a x c e z hc
  let ⟨c2, z2, h2, s2⟩ := b x c1 e z1 h1
  ⟨c2, z2, h2, s2.trans s1⟩
structure Evo (g : Gh) (σ : St) (h : Heap) (g' : Gh) (σ' : St) (h' : Heap) : Prop where
  en : σ.n <= σ'.n
  eg : g.le g' σ.n
  eic : ∀ b i v, IC g σ.H h b i v -> IC g' σ'.H h' b i v
  edo : ∀ b o, DO g σ.H h b o -> DO g' σ'.H h' b o
  esz : h.size <= h'.size
  ekc : KC h h'
theorem Gh.le_refl (g : Gh) (n : Nat) : g.le g n := fun _ _ => ⟨rfl, rfl, rfl, rfl⟩
theorem Evo.refl (g : Gh) (σ : St) (h : Heap) : Evo g σ h g σ h := ⟨Nat.le_refl _, g.le_refl _, fun _ _ _ h => h, fun _ _ h => h, Nat.le_refl _, KC.refl _⟩
theorem Evo.trans {g g' g'' : Gh} {σ σ' σ'' : St} {h h' h'' : Heap} (a : Evo g σ h g' σ' h') (b : Evo g' σ' h' g'' σ'' h'') : Evo g σ h g'' σ'' h'' where
  en := Nat.le_trans a.en b.en
  eg := fun β hβ => by
    obtain ⟨e1, e2, e3, e4⟩ := a.eg β hβ
    obtain ⟨f1, f2, f3, f4⟩ := b.eg β (Nat.lt_of_lt_of_le hβ a.en)
    exact ⟨f1.trans e1, f2.trans e2, f3.trans e3, f4.trans e4⟩
  eic := fun b' i v h => b.eic b' i v (a.eic b' i v h)
  edo := fun b' o h => b.edo b' o (a.edo b' o h)
  esz := Nat.le_trans a.esz b.esz
  ekc := a.ekc.trans b.ekc
theorem VR.evo {g g' : Gh} {σ σ' : St} {h h' : Heap} (e : Evo g σ h g' σ' h') {x : AV} {v : Value} (hv : VR g σ.n (IC g σ.H h) x v) :
    VR g' σ'.n (IC g' σ'.H h') x v := hv.mono e.en e.eg e.eic
variable {P : Program}
theorem BR.mono {g g' : Gh} {n n' : Nat} {ic ic' : Nat -> Nat -> Value -> Prop} {β : Nat} {k : Blk} {o : Option Obj} (hn : n <= n') (hg : g.le g' n) (hβ : β < n)
    (hi : ∀ b i v, ic b i v -> ic' b i v) (h : BR P g n ic β k o) : BR P g' n' ic' β k o := by
  cases k with
  | arr c => obtain ⟨cs, e, ho, hs, hv⟩ := h; exact ⟨cs, e, ho, hs, fun i x v h1 h2 => (hv i x v h1 h2).mono hn hg hi⟩
  | typ t c => obtain ⟨cs, ho, hs, hv⟩ := h; exact ⟨cs, ho, hs, fun i x v h1 h2 => ⟨(hv i x v h1 h2).1.mono hn hg hi, (hv i x v h1 h2).2⟩⟩
  | tok => obtain ⟨cs, e, z, ho, h0, h1, h2, h3⟩ := h; obtain ⟨e1, e2, e3, e4⟩ := hg β hβ; exact ⟨cs, e, z, ho, by rw [e4]; exact h0, by omega, by omega, by omega⟩
  | map es ck =>
    obtain ⟨ces, ho, hs, hv, hn'⟩ := h
    refine ⟨ces, ho, hs, fun i e ce h1 h2 => ?_, hn'⟩
    obtain ⟨a, b, c, d⟩ := hv i e ce h1 h2
    exact ⟨a.mono hn hg hi, b.mono hn hg hi, c, d⟩
  | iter m ck seen => obtain ⟨h1, h2⟩ := h; exact ⟨by omega, by rw [h2, (hg m h1).1]⟩
  | loop st pend ρ params asg body =>
    obtain ⟨L, ho, h2, h3, h4⟩ := h
    exact ⟨L, ho, h2, fun i x v a b => (h3 i x v a b).mono hn hg hi, h4⟩
theorem BR.lt {g : Gh} {n : Nat} {ic : Nat -> Nat -> Value -> Prop} {β : Nat} {k : Blk} {h : Heap} {b : Nat} (hb : BR P g n ic β k h[b]?) : b < h.size := by
  have : ∃ o, h[b]? = some o := by
    cases k with
    | arr c => obtain ⟨cs, e, ho, _⟩ := hb; exact ⟨_, ho⟩
    | typ t c => obtain ⟨cs, ho, _⟩ := hb; exact ⟨_, ho⟩
    | tok => obtain ⟨cs, e, z, ho, _⟩ := hb; exact ⟨_, ho⟩
    | map es ck => obtain ⟨ces, ho, _⟩ := hb; exact ⟨_, ho⟩
    | iter m ck seen => obtain ⟨_, ho⟩ := hb; exact ⟨_, ho⟩
    | loop st pend ρ params asg body => obtain ⟨L, ho, _⟩ := hb; exact ⟨_, ho⟩
  obtain ⟨o, ho⟩ := this
  exact (Array.getElem?_eq_some_iff.1 ho).1
theorem Rel.bl_lt {g : Gh} {σ : St} {h : Heap} (r : Rel P g σ h) {β : Nat} {k : Blk} (hk : lk σ.H β = some k) : g.bl β < h.size := (r.blk β k hk).lt
theorem hc_push {h : Heap} {o : Obj} {b i : Nat} (hb : b < h.size) : hc (h.push o) b i = hc h b i := by
  unfold hc; rw [Array.getElem?_push_lt hb, Array.getElem?_eq_getElem hb]
theorem hc_lt {h : Heap} {b i : Nat} {v : Value} (hv : hc h b i = some v) : b < h.size := by
  unfold hc at hv
  cases ho : h[b]? with
  | none => simp [ho] at hv
  | some o => exact (Array.getElem?_eq_some_iff.1 ho).1
theorem kc_push {h : Heap} (o : Obj) : KC h (h.push o) := fun b c e z hc => ⟨c, z, by rw [Array.getElem?_push_lt (Array.getElem?_eq_some_iff.1 hc).1, <- Array.getElem?_eq_getElem]; exact hc, rfl⟩
theorem evo_push {g : Gh} {σ : St} {h : Heap} (o : Obj) : Evo g σ h g σ (h.push o) where
  en := Nat.le_refl _
  eg := g.le_refl _
  eic := fun b i v ⟨h1, h2⟩ => ⟨by rw [hc_push (hc_lt h1)]; exact h1, h2⟩
  edo := fun b o' ⟨h1, h3⟩ => ⟨by rw [Array.getElem?_push_lt (Array.getElem?_eq_some_iff.1 h1).1, <- Array.getElem?_eq_getElem]; exact h1, h3⟩
  esz := by simp
  ekc := kc_push o
theorem rel_push {g : Gh} {σ : St} {h : Heap} (o : Obj) (r : Rel P g σ h) : Rel P g σ (h.push o) where
  lt := r.lt
  inj := r.inj
  blk := fun β k hk => by
    have hb := r.bl_lt hk
    rw [Array.getElem?_push_lt hb, <- Array.getElem?_eq_getElem]
    exact (r.blk β k hk).mono (Nat.le_refl _) (g.le_refl _) (r.lt β k hk) (evo_push (g := g) (σ := σ) o).eic
def Gh.at (g : Gh) (β b fr tp : Nat) (ty : Nat := 0) : Gh :=
  { bl := fun x => if x = β then b else g.bl x, fr := fun x => if x = β then fr else g.fr x, tp := fun x => if x = β then tp else g.tp x, ty := fun x => if x = β then ty else g.ty x }
theorem Gh.le_at (g : Gh) (n b fr tp : Nat) {ty : Nat} : g.le (g.at n b fr tp ty) n := fun β hβ => by
  have : β ≠ n := by omega
  simp [Gh.at, this]
theorem rel_newT {g : Gh} {σ : St} {h : Heap} (o : Obj) (k : Blk) (H : List (Nat × Blk)) (fr tp ty : Nat) (r : Rel P g σ h)
    (sub : ∀ β b, lk H β = some b -> lk σ.H β = some b)
    (hb : BR P (g.at σ.n h.size fr tp ty) (σ.n + 1) (IC g σ.H h) σ.n k (some o)) :
    Rel P (g.at σ.n h.size fr tp ty) ⟨(σ.n, k) :: H, σ.n + 1⟩ (h.push o) /\
    Evo g σ h (g.at σ.n h.size fr tp ty) ⟨(σ.n, k) :: H, σ.n + 1⟩ (h.push o) := by
  have gn : (g.at σ.n h.size fr tp ty).bl σ.n = h.size := by simp [Gh.at]
  have go : ∀ β, β < σ.n -> (g.at σ.n h.size fr tp ty).bl β = g.bl β := fun β hβ => (g.le_at σ.n h.size fr tp β hβ).1
  have lkc : ∀ β b, lk ((σ.n, k) :: H) β = some b -> (β = σ.n /\ b = k) \/ (β < σ.n /\ lk σ.H β = some b) := by
    intro β b hβ
    by_cases e : σ.n = β
    · subst e; simp [lk] at hβ; exact .inl ⟨rfl, hβ.symm⟩
    · simp [lk, e] at hβ; exact .inr ⟨r.lt β b (sub β b hβ), sub β b hβ⟩
  have ev : Evo g σ h (g.at σ.n h.size fr tp ty) ⟨(σ.n, k) :: H, σ.n + 1⟩ (h.push o) := by
    refine ⟨Nat.le_succ _, g.le_at _ _ _ _, ?_, ?_, by simp, kc_push o⟩
    · rintro b i v ⟨h1, h2⟩
      refine ⟨by rw [hc_push (hc_lt h1)]; exact h1, ?_⟩
      rintro ⟨β, k', hk, hbl, hfr⟩
      rcases lkc β k' hk with ⟨rfl, rfl⟩ | ⟨hlt, hk'⟩
      · rw [gn] at hbl; have := hc_lt h1; omega
      · rw [go β hlt] at hbl
        refine h2 ⟨β, k', hk', hbl, fun ht => ?_⟩
        have := hfr ht
        rwa [(g.le_at σ.n h.size fr tp β hlt).2.1] at this
    · rintro b o' ⟨h1, h3⟩
      have hlt' := (Array.getElem?_eq_some_iff.1 h1).1
      refine ⟨by rw [Array.getElem?_push_lt hlt', <- Array.getElem?_eq_getElem]; exact h1, fun β k' hk => ?_⟩
      rcases lkc β k' hk with ⟨rfl, rfl⟩ | ⟨hlt, hk'⟩
      · rw [gn]; omega
      · rw [go β hlt]; exact h3 β k' hk'
  refine ⟨⟨?_, ?_, ?_⟩, ev⟩
  · intro β b hβ
    rcases lkc β b hβ with ⟨rfl, _⟩ | ⟨hlt, _⟩
    · exact Nat.lt_succ_self _
    · exact Nat.lt_succ_of_lt hlt
  · intro β γ b c hβ hγ e
    rcases lkc β b hβ with ⟨rfl, _⟩ | ⟨hlt, hk⟩ <;> rcases lkc γ c hγ with ⟨rfl, _⟩ | ⟨hlt', hk'⟩
    · rfl
    · rw [gn, go γ hlt'] at e; have := r.bl_lt hk'; omega
    · rw [gn, go β hlt] at e; have := r.bl_lt hk; omega
    · rw [go β hlt, go γ hlt'] at e; exact r.inj β γ b c hk hk' e
  · intro β b hβ
    rcases lkc β b hβ with ⟨rfl, rfl⟩ | ⟨hlt, hk⟩
    · rw [gn]
      have : (h.push o)[h.size]? = some o := by simp
      rw [this]
      exact hb.mono (Nat.le_refl _) (Gh.le_refl _ _) (Nat.lt_succ_self _) ev.eic
    · rw [go β hlt]
      have hb' := r.bl_lt hk
      rw [Array.getElem?_push_lt hb', <- Array.getElem?_eq_getElem]
      exact (r.blk β b hk).mono ev.en ev.eg hlt ev.eic
theorem rel_new {g : Gh} {σ : St} {h : Heap} (o : Obj) (k : Blk) (H : List (Nat × Blk)) (fr tp : Nat) (r : Rel P g σ h)
    (sub : ∀ β b, lk H β = some b -> lk σ.H β = some b)
    (hb : BR P (g.at σ.n h.size fr tp) (σ.n + 1) (IC g σ.H h) σ.n k (some o)) :
    Rel P (g.at σ.n h.size fr tp) ⟨(σ.n, k) :: H, σ.n + 1⟩ (h.push o) /\
    Evo g σ h (g.at σ.n h.size fr tp) ⟨(σ.n, k) :: H, σ.n + 1⟩ (h.push o) := rel_newT o k H fr tp 0 r sub hb
theorem rel_set {g : Gh} {σ : St} {h : Heap} {β : Nat} {k₀ : Blk} (r : Rel P g σ h) (hk : lk σ.H β = some k₀) (hk₀ : k₀ ≠ .tok) (k : Blk) (hkt : k ≠ .tok) (h' : Heap)
    (hsz : h'.size = h.size) (hoth : ∀ b, b ≠ g.bl β -> h'[b]? = h[b]?)
    (hb : BR P g σ.n (IC g σ.H h) β k h'[g.bl β]?) (hkc : ∀ c e z, h[g.bl β]? = some (.cells c e z) -> ∃ c' z', h'[g.bl β]? = some (.cells c' e z') /\ c'.size = c.size) :
    Rel P g (σ.set β k) h' /\ Evo g σ h g (σ.set β k) h' := by
  have lkc : ∀ γ c, lk (upd σ.H β k) γ = some c -> (γ = β /\ c = k) \/ (γ ≠ β /\ lk σ.H γ = some c) := by
    intro γ c hγ
    rw [lk_upd] at hγ
    by_cases e : β = γ
    · subst e; simp [hk] at hγ; exact .inl ⟨rfl, hγ.symm⟩
    · rw [if_neg e] at hγ; exact .inr ⟨fun x => e x.symm, hγ⟩
  have lkb : lk (upd σ.H β k) β = some k := by rw [lk_upd, if_pos rfl, hk]; rfl
  have ev : Evo g σ h g (σ.set β k) h' := by
    refine ⟨Nat.le_refl _, g.le_refl _, ?_, ?_, by omega, fun b c e z hc => ?_⟩
    rotate_right
    · by_cases hbb : b = g.bl β
      · subst hbb; exact hkc c e z hc
      · exact ⟨c, z, by rw [hoth b hbb]; exact hc, rfl⟩
    · rintro b i v ⟨h1, h2⟩
      have hne : b ≠ g.bl β := fun e => h2 ⟨β, k₀, hk, e.symm, fun x => absurd x hk₀⟩
      refine ⟨by unfold hc; rw [hoth b hne]; exact h1, ?_⟩
      rintro ⟨γ, c, hγ, hbl, hfr⟩
      rcases lkc γ c hγ with ⟨rfl, rfl⟩ | ⟨_, hγ'⟩
      · exact hne hbl.symm
      · exact h2 ⟨γ, c, hγ', hbl, hfr⟩
    · rintro b o ⟨h1, h3⟩
      have hne : b ≠ g.bl β := fun e => h3 β k₀ hk e.symm
      refine ⟨by rw [hoth b hne]; exact h1, fun γ c hγ => ?_⟩
      rcases lkc γ c hγ with ⟨rfl, rfl⟩ | ⟨_, hγ'⟩
      · exact fun e => hne e.symm
      · exact h3 γ c hγ'
  refine ⟨⟨?_, ?_, ?_⟩, ev⟩
  · intro γ c hγ
    rcases lkc γ c hγ with ⟨rfl, _⟩ | ⟨_, h2⟩
    · exact r.lt _ _ hk
    · exact r.lt _ _ h2
  · intro γ δ c d hγ hδ e
    rcases lkc γ c hγ with ⟨rfl, _⟩ | ⟨_, h2⟩ <;> rcases lkc δ d hδ with ⟨rfl, _⟩ | ⟨_, h3⟩
    · rfl
    · exact r.inj _ _ _ _ hk h3 e
    · exact r.inj _ _ _ _ h2 hk e
    · exact r.inj _ _ _ _ h2 h3 e
  · intro γ c hγ
    rcases lkc γ c hγ with ⟨rfl, rfl⟩ | ⟨hne, h2⟩
    · exact hb.mono (Nat.le_refl _) (g.le_refl _) (r.lt _ _ hk) ev.eic
    · have : g.bl γ ≠ g.bl β := fun e => hne (r.inj _ _ _ _ h2 hk e)
      rw [hoth _ this]
      exact (r.blk γ c h2).mono (Nat.le_refl _) (g.le_refl _) (r.lt _ _ h2) ev.eic
theorem rel_drop {g : Gh} {σ : St} {h : Heap} (H : List (Nat × Blk)) (n : Nat) (hn : σ.n <= n) (r : Rel P g σ h) (sub : ∀ β b, lk H β = some b -> lk σ.H β = some b) :
    Rel P g ⟨H, n⟩ h /\ Evo g σ h g ⟨H, n⟩ h := by
  have mu : ∀ b i, Mut g H b i -> Mut g σ.H b i := fun b i ⟨β, k, hk, hr⟩ => ⟨β, k, sub β k hk, hr⟩
  have ev : Evo g σ h g ⟨H, n⟩ h := ⟨hn, g.le_refl _, fun b i v ⟨h1, h2⟩ => ⟨h1, fun m => h2 (mu b i m)⟩, fun b o ⟨h1, h3⟩ => ⟨h1, fun β k hk => h3 β k (sub β k hk)⟩, Nat.le_refl _, KC.refl _⟩
  refine ⟨⟨fun β k hk => ?_, fun β γ k k' hk hk' => r.inj β γ k k' (sub _ _ hk) (sub _ _ hk'), fun β k hk => ?_⟩, ev⟩
  · exact Nat.lt_of_lt_of_le (r.lt β k (sub _ _ hk)) hn
  · exact (r.blk β k (sub _ _ hk)).mono hn (g.le_refl _) (r.lt β k (sub _ _ hk)) ev.eic
theorem rel_tok {g : Gh} {σ : St} {h : Heap} {τ : Nat} (r : Rel P g σ h) (hk : lk σ.H τ = some .tok) (h' : Heap) (fr : Nat)
    (hsz : h'.size = h.size) (hoth : ∀ b, b ≠ g.bl τ -> h'[b]? = h[b]?)
    (hcs : ∀ cs e z, h[g.bl τ]? = some (.cells cs e z) -> ∃ cs', h'[g.bl τ]? = some (.cells cs' e z) /\ cs'.size = cs.size /\ ∀ i, i < g.fr τ -> cs'[i]? = cs[i]?)
    (hfr : g.fr τ <= fr) (htp : fr <= g.tp τ) :
    Rel P (g.at σ.n (g.bl τ) fr (g.tp τ) (g.ty τ)) ⟨(σ.n, .tok) :: del σ.H τ, σ.n + 1⟩ h' /\
    Evo g σ h (g.at σ.n (g.bl τ) fr (g.tp τ) (g.ty τ)) ⟨(σ.n, .tok) :: del σ.H τ, σ.n + 1⟩ h' := by
  have hτ := r.lt _ _ hk
  obtain ⟨cs, e, z, ho, hs0, hs1, hs2, hs3⟩ := r.blk _ _ hk
  obtain ⟨cs', ho', hcz, hcl⟩ := hcs cs e z ho
  have gn : (g.at σ.n (g.bl τ) fr (g.tp τ) (g.ty τ)).bl σ.n = g.bl τ := by simp [Gh.at]
  have gf : (g.at σ.n (g.bl τ) fr (g.tp τ) (g.ty τ)).fr σ.n = fr := by simp [Gh.at]
  have gt : (g.at σ.n (g.bl τ) fr (g.tp τ) (g.ty τ)).tp σ.n = g.tp τ := by simp [Gh.at]
  have gy : (g.at σ.n (g.bl τ) fr (g.tp τ) (g.ty τ)).ty σ.n = g.ty τ := by simp [Gh.at]
  have go : ∀ β, β < σ.n -> (g.at σ.n (g.bl τ) fr (g.tp τ) (g.ty τ)).bl β = g.bl β := fun β hβ => (g.le_at σ.n _ _ _ β hβ).1
  have lkc : ∀ β b, lk ((σ.n, .tok) :: del σ.H τ) β = some b -> (β = σ.n /\ b = .tok) \/ (β < σ.n /\ β ≠ τ /\ lk σ.H β = some b) := by
    intro β b hβ
    by_cases e : σ.n = β
    · subst e; simp [lk] at hβ; exact .inl ⟨rfl, hβ.symm⟩
    · simp only [lk, e, if_false, lk_del] at hβ
      by_cases e2 : β = τ
      · simp [e2] at hβ
      · rw [if_neg e2] at hβ; exact .inr ⟨r.lt β b hβ, e2, hβ⟩
  have ev : Evo g σ h (g.at σ.n (g.bl τ) fr (g.tp τ) (g.ty τ)) ⟨(σ.n, .tok) :: del σ.H τ, σ.n + 1⟩ h' := by
    refine ⟨Nat.le_succ _, g.le_at _ _ _ _, ?_, ?_, by omega, fun b c e z hc => ?_⟩
    rotate_right
    · by_cases hbb : b = g.bl τ
      · subst hbb
        obtain ⟨c', h1, h2, _⟩ := hcs c e z hc
        exact ⟨c', z, h1, h2⟩
      · exact ⟨c, z, by rw [hoth b hbb]; exact hc, rfl⟩
    · rintro b i v ⟨h1, h2⟩
      by_cases hb : b = g.bl τ
      · subst hb
        have hi : i < g.fr τ := by
          rcases Nat.lt_or_ge i (g.fr τ) with hi | hi
          · exact hi
          · exact absurd ⟨τ, .tok, hk, rfl, fun _ => hi⟩ h2
        refine ⟨?_, ?_⟩
        · unfold hc at h1 ⊢; rw [ho] at h1; rw [ho']; simp only at h1 ⊢; rw [hcl i hi]; exact h1
        · rintro ⟨β, k, hk', hbl, hfr'⟩
          rcases lkc β k hk' with ⟨rfl, rfl⟩ | ⟨hlt, hne, hk2⟩
          · have := hfr' rfl; rw [gf] at this; omega
          · rw [go β hlt] at hbl; exact hne (r.inj _ _ _ _ hk2 hk hbl)
      · refine ⟨by unfold hc; rw [hoth b hb]; exact h1, ?_⟩
        rintro ⟨β, k, hk', hbl, hfr'⟩
        rcases lkc β k hk' with ⟨rfl, rfl⟩ | ⟨hlt, hne, hk2⟩
        · rw [gn] at hbl; exact hb hbl.symm
        · rw [go β hlt] at hbl
          refine h2 ⟨β, k, hk2, hbl, fun ht => ?_⟩
          have := hfr' ht
          rwa [(g.le_at σ.n _ _ _ β hlt).2.1] at this
    · rintro b o ⟨h1, h3⟩
      have hb : b ≠ g.bl τ := fun e' => h3 τ _ hk e'.symm
      refine ⟨by rw [hoth b hb]; exact h1, fun β k hk' => ?_⟩
      rcases lkc β k hk' with ⟨rfl, rfl⟩ | ⟨hlt, hne, hk2⟩
      · rw [gn]; exact fun e' => hb e'.symm
      · rw [go β hlt]; exact h3 β k hk2
  refine ⟨⟨?_, ?_, ?_⟩, ev⟩
  · intro β b hβ
    rcases lkc β b hβ with ⟨rfl, _⟩ | ⟨hlt, _⟩
    · exact Nat.lt_succ_self _
    · exact Nat.lt_succ_of_lt hlt
  · intro β γ b c hβ hγ e'
    rcases lkc β b hβ with ⟨rfl, _⟩ | ⟨hlt, hne, hk1⟩ <;> rcases lkc γ c hγ with ⟨rfl, _⟩ | ⟨hlt', hne', hk2⟩
    · rfl
    · rw [gn, go γ hlt'] at e'; exact absurd (r.inj _ _ _ _ hk2 hk e'.symm) hne'
    · rw [gn, go β hlt] at e'; exact absurd (r.inj _ _ _ _ hk1 hk e') hne
    · rw [go β hlt, go γ hlt'] at e'; exact r.inj _ _ _ _ hk1 hk2 e'
  · intro β b hβ
    rcases lkc β b hβ with ⟨rfl, rfl⟩ | ⟨hlt, hne, hk2⟩
    · rw [gn]
      exact ⟨cs', e, z, ho', by rw [gy]; exact hs0, by rw [gt]; omega, by rw [gf]; omega, by rw [gf]; omega⟩
    · rw [go β hlt]
      have : g.bl β ≠ g.bl τ := fun e' => hne (r.inj _ _ _ _ hk2 hk e')
      rw [hoth _ this]
      exact (r.blk β b hk2).mono ev.en ev.eg hlt ev.eic
structure EvoW (g : Gh) (σ : St) (w : World) (g' : Gh) (σ' : St) (w' : World) : Prop extends Evo g σ w.heap g' σ' w'.heap where
  os : w'.os = w.os
  out : w'.output = w.output
theorem EvoW.refl (g : Gh) (σ : St) (w : World) : EvoW g σ w g σ w := ⟨Evo.refl _ _ _, rfl, rfl⟩
theorem EvoW.trans {g g' g'' : Gh} {σ σ' σ'' : St} {w w' w'' : World} (a : EvoW g σ w g' σ' w') (b : EvoW g' σ' w' g'' σ'' w'') : EvoW g σ w g'' σ'' w'' := ⟨a.toEvo.trans b.toEvo, b.os.trans a.os, b.out.trans a.out⟩
end Go.Proofs.YtekhblefchceaaaGreat.AM

/- The operations of the abstract machine are those of the model: memory. -/
namespace Go.Proofs.YtekhblefchceaaaGreat.AM
open Go
theorem addr_add (b off j : Nat) : (⟨b, off, none⟩ : Addr).add j = ⟨b, off + j, none⟩ := by
  unfold Addr.add
  by_cases h : j = 0
  · subst h; simp
  · simp [h]
section
variable {P : Program} {w : World}
theorem run_load_hc {b i : Nat} {v : Value} (h : hc w.heap b i = some v) : (load ⟨b, i, none⟩).run P w = .ok v w := by
  simp [run_load, hc_cell, h]
theorem run_cells {b off : Nat} (cs : List Value) (h : ∀ j v, cs[j]? = some v -> hc w.heap b (off + j) = some v) :
    (loadCells ⟨b, off, none⟩ cs.length).run P w = .ok cs.toArray w :=
  run_loadCells_list w _ cs (fun j v hj => by rw [addr_add, hc_cell]; exact h j v hj)
theorem info_of_sz {t : TypeId} {s : Nat} (h : szOf P t = some s) : ∃ i, P.info? t = some i /\ i.size = s := by
  unfold szOf at h
  cases hi : P.info? t with
  | none => simp [hi] at h
  | some i => simp [hi] at h; exact ⟨i, rfl, h⟩
theorem run_sizeOf {t : TypeId} {s : Nat} (h : szOf P t = some s) : (sizeOf t).run P w = .ok s w := by
  obtain ⟨i, hi, hs⟩ := info_of_sz h
  simp [sizeOf, typeInfo, hi, hs]
theorem run_under {t : TypeId} {d : TypeDesc} (h : P.underlying t = some d) : (underlying t).run P w = .ok d w := by
  simp [underlying, h]
theorem run_isAgg {t : TypeId} {a : Bool} (h : aggOf P t = some a) : (isAgg t).run P w = .ok a w := by
  unfold aggOf at h
  cases hd : P.underlying t with
  | none => simp [hd] at h
  | some d =>
    rw [hd] at h
    cases d <;> simp at h <;> subst h <;> simp [isAgg, run_under hd]
theorem run_loadVar_one {t : TypeId} {b off : Nat} {v : Value} (ha : aggOf P t = some false) (h : hc w.heap b off = some v) :
    (loadVar t ⟨b, off, none⟩).run P w = .ok v w := by
  simp [loadVar, run_isAgg ha, -run_load]; exact run_load_hc h
theorem run_loadVar_agg {t : TypeId} {b off : Nat} (cs : List Value) (ha : aggOf P t = some true) (hs : szOf P t = some cs.length)
    (h : ∀ j v, cs[j]? = some v -> hc w.heap b (off + j) = some v) : (loadVar t ⟨b, off, none⟩).run P w = .ok (.agg cs.toArray) w := by
  simp [loadVar, run_isAgg ha, run_sizeOf hs, run_cells cs h]
theorem heap_setCell_self {b k : Nat} {v : Value} {cs : Array Value} {e : TypeId} {z : Nat × Nat} (h : w.heap[b]? = some (.cells cs e z)) :
    (w.setCell ⟨b, k, none⟩ v).heap[b]? = some (.cells (cs.setIfInBounds k v) e z) := by
  simp [World.setCell, Array.getElem?_modify, h]
theorem heap_setCell_other {b k b' : Nat} {v : Value} (h : b' ≠ b) : (w.setCell ⟨b, k, none⟩ v).heap[b']? = w.heap[b']? := by
  simp [World.setCell, Array.getElem?_modify, Ne.symm h]
theorem run_stores {b off : Nat} {e : TypeId} {z : Nat × Nat} : ∀ (vs : List Value) (i : Nat) (w : World) (cs : Array Value), w.heap[b]? = some (.cells cs e z) ->
    off + i + vs.length <= cs.size -> (∀ v ∈ vs, v.oneCell' = true) -> (∀ j, off + i <= j -> j < off + i + vs.length -> ¬ (z.1 <= j /\ j < z.2)) ->
    ∃ w' cs', (storeCells ⟨b, off, none⟩ vs i).run P w = .ok () w' /\ (w'.os = w.os /\ w'.output = w.output) /\ w'.heap.size = w.heap.size /\ (∀ b', b' ≠ b -> w'.heap[b']? = w.heap[b']?) /\
      w'.heap[b]? = some (.cells cs' e z) /\ cs'.size = cs.size /\
      ∀ k : Nat, cs'[k]? = if off + i <= k /\ k < off + i + vs.length then vs[k - (off + i)]? else cs[k]?
  | [], i, w, cs, h, _, _, _ => ⟨w, cs, by simp [storeCells], ⟨rfl, rfl⟩, rfl, fun _ _ => rfl, h, rfl, fun k => by
      rw [if_neg (by simp)]⟩
  | v :: vs, i, w, cs, h, hl, hv, hz => by
    simp only [List.length_cons] at hl hz
    have hv0 := hv v (by simp)
    have hk : off + i < cs.size := by omega
    have hcell : w.cell? ⟨b, off + i, none⟩ = some cs[off + i] := by
      rw [hc_cell]; unfold hc; rw [h]; simp [hk]
    have hfz : w.frozen? ⟨b, off + i, none⟩ = false := by
      have := hz (off + i) (Nat.le_refl _) (by omega)
      unfold World.frozen?; rw [h]
      simp only [Bool.and_eq_false_iff, decide_eq_false_iff_not]
      rcases Nat.lt_or_ge (off + i) z.1 with h1 | h1
      · left; omega
      · right; exact fun h2 => this ⟨h1, h2⟩
    have h' := heap_setCell_self (w := w) (k := off + i) (v := v) h
    obtain ⟨w', cs', hr, how, hs, ho, hb, hcz, hc'⟩ := run_stores (b := b) (off := off) vs (i + 1) (w.setCell ⟨b, off + i, none⟩ v) (cs.setIfInBounds (off + i) v) h'
      (by simp; omega) (fun x hx => hv x (by simp [hx])) (fun j h1 h2 => hz j (by omega) (by omega))
    refine ⟨w', cs', ?_, ⟨how.1.trans rfl, how.2.trans rfl⟩, ?_, ?_, hb, ?_, ?_⟩
    · have e1 : (store ((⟨b, off, none⟩ : Addr).add i) v).run P w = .ok () (w.setCell ⟨b, off + i, none⟩ v) := by
        rw [addr_add, run_store P w _ v .plain hv0, hcell, hfz]; rfl
      simp only [storeCells, Sem.run_bind, e1, Result.andThen, hr]
    · rw [hs]; simp [World.setCell]
    · intro b' hb'; rw [ho b' hb', heap_setCell_other hb']
    · rw [hcz]; simp
    · intro k
      rw [hc' k, Array.getElem?_setIfInBounds]
      by_cases h1 : off + i = k
      · subst h1; simp [hk]; omega
      · by_cases h2 : off + (i + 1) <= k /\ k < off + (i + 1) + vs.length
        · rw [if_pos h2, if_pos (by simp; omega)]
          have : k - (off + i) = k - (off + (i + 1)) + 1 := by omega
          rw [this, List.getElem?_cons_succ]
        · rw [if_neg h2, if_neg h1, if_neg (by simp; omega)]
end
theorem VR.one {g : Gh} {n : Nat} {ic : Nat -> Nat -> Value -> Prop} {x : AV} {v : Value} (h : VR g n ic x v) (hs : x.sc = true) : v.oneCell' = true := by
  cases h <;> first | rfl | (simp [AV.sc] at hs)
theorem VR.cells {g : Gh} {n : Nat} {ic : Nat -> Nat -> Value -> Prop} {x : AV} {v : Value} (h : VR g n ic x v) (hs : allSc x.cells = true) :
    v.cells.size = x.cells.length /\ ∀ (i : Nat) (y : AV) (c : Value), x.cells[i]? = some y -> v.cells[i]? = some c -> VR g n ic y c := by
  cases h with
  | agg l cs hl h => exact ⟨by simp [Value.cells, AV.cells, hl], fun i y c h1 h2 => h i y c h1 h2⟩
  | undef v => simp [AV.cells, allSc, AV.sc] at hs
  | tup l cs hl h => simp [AV.cells, allSc, AV.sc] at hs
  | _ =>
    refine ⟨rfl, fun i y c h1 h2 => ?_⟩
    cases i with
    | zero => simp [AV.cells, Value.cells] at h1 h2; subst h1; subst h2; constructor <;> assumption
    | succ i => simp [AV.cells] at h1
theorem getElem?_putCells {z cs : List AV} {off k : Nat} (h : off + cs.length <= z.length) :
    (putCells z off cs)[k]? = if off <= k /\ k < off + cs.length then cs[k - off]? else z[k]? := by
  unfold putCells
  by_cases h1 : k < off
  · rw [if_neg (by omega), List.append_assoc, List.getElem?_append_left (by simp; omega), List.getElem?_take_of_lt h1]
  · by_cases h2 : k < off + cs.length
    · rw [if_pos (by omega), List.getElem?_append_left (by simp; omega), List.getElem?_append_right (by simp; omega)]
      simp only [List.length_take]; congr 1; omega
    · rw [if_neg (by omega), List.getElem?_append_right (by simp; omega), List.getElem?_drop]
      congr 1; simp; omega
theorem length_putCells {z cs : List AV} {off : Nat} (h : off + cs.length <= z.length) : (putCells z off cs).length = z.length := by
  simp [putCells]; omega
section
variable (P : Program)
def Good (g : Gh) (σ : St) (w : World) (res : Result Value) (v : AV) (σ' : St) : Prop :=
  ∃ cv w' g', res = .ok cv w' /\ Rel P g' σ' w'.heap /\ VR g' σ'.n (IC g' σ'.H w'.heap) v cv /\ EvoW g σ w g' σ' w'
end
variable {P : Program} {g : Gh} {σ : St} {w : World}
theorem Good.pure {res : Result Value} {v : AV} {cv : Value} (r : Rel P g σ w.heap) (h : res = .ok cv w) (hv : VR g σ.n (IC g σ.H w.heap) v cv) : Good P g σ w res v σ :=
  ⟨cv, w, g, h, r, hv, EvoW.refl _ _ _⟩
theorem good_new {e : TypeId} {x : AV} {cv : Value} (r : Rel P g σ w.heap) (hv : VR g σ.n (IC g σ.H w.heap) x cv) (hs : allSc x.cells = true) :
    Good P g σ w (.ok (.pointer (some ⟨w.heap.size, 0, none⟩)) { w with heap := w.heap.push (.cells cv.cells e) }) (.ptr σ.n 0) (σ.new (.arr x.cells)) := by
  obtain ⟨h1, h2⟩ := hv.cells hs
  have := rel_new (P := P) (.cells cv.cells e) (.arr x.cells) σ.H 0 0 r (fun _ _ h => h)
    ⟨cv.cells, e, rfl, h1, fun i y c a b => (h2 i y c a b).mono (Nat.le_succ _) (g.le_at _ _ _ _) (fun _ _ _ h => h)⟩
  refine ⟨_, _, _, rfl, this.1, ?_, this.2, rfl, rfl⟩
  have e1 : (⟨w.heap.size, 0, none⟩ : Addr) = ⟨(g.at σ.n w.heap.size 0 0).bl σ.n, 0, none⟩ := by simp [Gh.at]
  rw [e1]
  exact .ptr σ.n 0 (Nat.lt_succ_self _)
theorem good_newT {e : TypeId} {x : AV} {cv : Value} (r : Rel P g σ w.heap) (hv : VR g σ.n (IC g σ.H w.heap) x cv) (hs : allSc x.cells = true)
    (hnv : ∀ (i : Nat) (y : AV) (c : Value), x.cells[i]? = some y -> cv.cells[i]? = some c -> y.isVs = true -> c = .slice none 0 0) :
    Good P g σ w (.ok (.pointer (some ⟨w.heap.size, 0, none⟩)) { w with heap := w.heap.push (.cells cv.cells e) }) (.ptr σ.n 0) (σ.new (.typ e x.cells)) := by
  obtain ⟨h1, h2⟩ := hv.cells hs
  have := rel_new (P := P) (.cells cv.cells e) (.typ e x.cells) σ.H 0 0 r (fun _ _ h => h)
    ⟨cv.cells, rfl, h1, fun i y c a b => ⟨(h2 i y c a b).mono (Nat.le_succ _) (g.le_at _ _ _ _) (fun _ _ _ h => h), hnv i y c a b⟩⟩
  refine ⟨_, _, _, rfl, this.1, ?_, this.2, rfl, rfl⟩
  have e1 : (⟨w.heap.size, 0, none⟩ : Addr) = ⟨(g.at σ.n w.heap.size 0 0).bl σ.n, 0, none⟩ := by simp [Gh.at]
  rw [e1]
  exact .ptr σ.n 0 (Nat.lt_succ_self _)
theorem snd_box {t : TypeId} {s : Nat} {x : AV} {cv : Value} (r : Rel P g σ w.heap) (hv : VR g σ.n (IC g σ.H w.heap) x cv)
    (hs : x.cells.length = s /\ allSc x.cells = true) :
    Good P g σ w ((Instr.box t cv).run P w) (.ptr σ.n 0) (σ.new (.arr x.cells)) := by
  have := good_new (e := t) r hv hs.2
  simpa [Instr.box, newVar, newRow] using this
theorem vr_scs : ∀ (l : List Value) (m : List AV), valScs l = some m -> m.length = l.length /\ allSc m = true /\
    ∀ (i : Nat) (x : AV) (v : Value), m[i]? = some x -> l[i]? = some v -> ∀ g n ic, VR g n ic x v
  | [], m, h => by simp [valScs] at h; subst h; exact ⟨rfl, rfl, fun i x v h => by simp at h⟩
  | v :: l, m, h => by
    simp only [valScs] at h
    cases h1 : valSc v with
    | none => simp [h1] at h
    | some x =>
      cases h2 : valScs l with
      | none => simp [h1, h2] at h
      | some m' =>
        simp [h1, h2] at h; subst h
        obtain ⟨a, b, c⟩ := vr_scs l m' h2
        have hx : x.sc = true /\ ∀ g n ic, VR g n ic x v := by
          unfold valSc at h1
          split at h1 <;> simp at h1 <;> subst h1 <;> refine ⟨rfl, fun g n ic => ?_⟩
          · exact .bool _
          · exact .int _ _
          · rename_i s
            have : s = ⟨s.data.toList.toArray⟩ := by cases s; simp
            conv => rhs; rw [this]
            exact .str _
          · exact .nilp
          · exact .vsn _
          · exact .nilmap
          · exact .nilfn
          · exact .nilif
        refine ⟨by simp [a], by simp [allSc, hx.1]; simpa [allSc] using b, fun i y u hy hu => ?_⟩
        cases i with
        | zero => simp at hy hu; subst hy; subst hu; exact hx.2
        | succ i => simp at hy hu; exact c i y u hy hu
theorem vs_scs : ∀ (l : List Value) (m : List AV), valScs l = some m -> ∀ (i : Nat) (x : AV) (v : Value), m[i]? = some x -> l[i]? = some v -> x.isVs = true -> v = .slice none 0 0
  | [], m, h, i, x, v, h1, h2, h3 => by simp at h2
  | v :: l, m, h, i, x, u, h1, h2, h3 => by
    simp only [valScs] at h
    cases hx : valSc v with
    | none => simp [hx] at h
    | some y =>
      cases hm : valScs l with
      | none => simp [hx, hm] at h
      | some m' =>
        simp [hx, hm] at h; subst h
        cases i with
        | zero =>
          simp at h1 h2; subst h1; subst h2
          unfold valSc at hx
          split at hx <;> simp at hx <;> subst hx <;> first | rfl | simp [AV.isVs] at h3
        | succ i => exact vs_scs l m' hm i x u (by simpa using h1) (by simpa using h2) h3
theorem vr_valSc {v : Value} {x : AV} (h : valSc v = some x) : x.sc = true /\ ∀ g n ic, VR g n ic x v := by
  have := vr_scs [v] [x] (by simp [valScs, h])
  exact ⟨by simpa [allSc] using this.2.1, fun g n ic => this.2.2 0 x v rfl rfl g n ic⟩
theorem vr_valAV {v : Value} {x : AV} (h : valAV v = some x) : ∀ g n ic, VR g n ic x v := by
  cases v with
  | agg cs =>
    simp only [valAV, Option.map_eq_some_iff] at h
    obtain ⟨l, h1, rfl⟩ := h
    obtain ⟨a, b, c⟩ := vr_scs _ _ h1
    intro g n ic
    exact .agg l cs (by simpa using a) fun i x v h2 h3 => c i x v h2 (by simpa using h3) g n ic
  | _ => simp only [valAV] at h; exact (vr_valSc h).2
theorem snd_alloc {t : TypeId} {z : List AV} (r : Rel P g σ w.heap) (hz : zeroCellsOf P t = some z) :
    Good P g σ w ((Instr.alloc t true (.tuple #[])).run P w) (.ptr σ.n 0) (σ.new (.arr z)) := by
  unfold zeroCellsOf at hz
  cases hi : P.info? t with
  | none => simp [hi] at hz
  | some i =>
    cases hzz : i.zero with
    | none => simp [hi, hzz] at hz
    | some v =>
      simp only [hi, hzz] at hz
      split at hz
      · rename_i hsz
        obtain ⟨a, b, c⟩ := vr_scs _ _ hz
        have hv : VR g σ.n (IC g σ.H w.heap) (.agg z) (.agg v.cells) := .agg z v.cells (by simpa using a) fun i x u h2 h3 => c i x u h2 (by simpa using h3) _ _ _
        have := good_new (e := t) r hv b
        simpa [Instr.alloc, zeroValue, typeInfo, hi, hzz, newVar, newRow, Value.cells, AV.cells] using this
      · simp at hz
theorem snd_allocT {t : TypeId} {z : List AV} (r : Rel P g σ w.heap) (hz : zeroCellsOf P t = some z) :
    Good P g σ w ((Instr.alloc t true (.tuple #[])).run P w) (.ptr σ.n 0) (σ.new (.typ t z)) := by
  unfold zeroCellsOf at hz
  cases hi : P.info? t with
  | none => simp [hi] at hz
  | some i =>
    cases hzz : i.zero with
    | none => simp [hi, hzz] at hz
    | some v =>
      simp only [hi, hzz] at hz
      split at hz
      · rename_i hsz
        obtain ⟨a, b, c⟩ := vr_scs _ _ hz
        have hv : VR g σ.n (IC g σ.H w.heap) (.agg z) (.agg v.cells) := .agg z v.cells (by simpa using a) fun i x u h2 h3 => c i x u h2 (by simpa using h3) _ _ _
        have := good_newT (e := t) r hv b (fun i y c h2 h3 => vs_scs _ _ hz i y c h2 (by simpa [Value.cells] using h3))
        simpa [Instr.alloc, zeroValue, typeInfo, hi, hzz, newVar, newRow, Value.cells, AV.cells] using this
      · simp at hz
theorem rel_arr {β : Nat} {c : List AV} (r : Rel P g σ w.heap) (hk : lk σ.H β = some (.arr c)) :
    ∃ cs e, w.heap[g.bl β]? = some (.cells cs e (0, 0)) /\ cs.size = c.length /\ ∀ (i : Nat) (x : AV) (v : Value), c[i]? = some x -> cs[i]? = some v -> VR g σ.n (IC g σ.H w.heap) x v :=
  r.blk _ _ hk
theorem rel_typ {β t : Nat} {c : List AV} (r : Rel P g σ w.heap) (hk : lk σ.H β = some (.typ t c)) :
    ∃ cs, w.heap[g.bl β]? = some (.cells cs t (0, 0)) /\ cs.size = c.length /\ ∀ (i : Nat) (x : AV) (v : Value), c[i]? = some x -> cs[i]? = some v -> VR g σ.n (IC g σ.H w.heap) x v /\ (x.isVs = true -> v = .slice none 0 0) :=
  r.blk _ _ hk
theorem hc_of {h : Heap} {b : Nat} {cs : Array Value} {e : TypeId} {z : Nat × Nat} (ho : h[b]? = some (.cells cs e z)) (i : Nat) : hc h b i = cs[i]? := by
  unfold hc; rw [ho]
theorem load_at {t : TypeId} {ag : Bool} {s : Nat} {x v : AV} {σ' : St} {a : Value} {ρ : Env} {y : Opd} (hy : y.ev ρ = x) (r : Rel P g σ w.heap) (hx : VR g σ.n (IC g σ.H w.heap) x a)
    (hag : aggOf P t = some ag) (hs : szOf P t = some s) (he : evalOp ρ σ (.load ag s y) = .v v σ') :
    ∃ ad cv, a = .pointer (some ad) /\ (loadVar t ad).run P w = .ok cv w /\ VR g σ.n (IC g σ.H w.heap) v cv /\ σ' = σ := by
  simp only [evalOp, hy] at he
  cases hx with
  | ptr β off hβ =>
    simp only at he
    split at he
    · rename_i c hk
      obtain ⟨cs, e, ho, hsz, hv⟩ := rel_arr r hk
      cases ag with
      | true =>
        simp only [if_true] at he
        split at he
        · rename_i hle
          simp only [OR.v.injEq] at he
          obtain ⟨rfl, rfl⟩ := he
          have hl : ((cs.toList.drop off).take s).length = s := by simp; omega
          have hrun := run_loadVar_agg (P := P) (w := w) (b := g.bl β) (off := off) (t := t) ((cs.toList.drop off).take s) hag (by rw [hl]; exact hs) (fun j v hj => by
            rw [hc_of ho]
            rw [List.getElem?_take] at hj
            split at hj
            · rw [List.getElem?_drop] at hj; simpa using hj
            · simp at hj)
          refine ⟨_, _, rfl, hrun, .agg _ _ (by simp; omega) fun i x u h1 h2 => ?_, rfl⟩
          rw [List.getElem?_take] at h1
          split at h1
          · rename_i hi
            rw [List.getElem?_drop] at h1
            rw [List.getElem?_toArray, List.getElem?_take, if_pos hi, List.getElem?_drop] at h2
            exact hv _ x u h1 (by simpa using h2)
          · simp at h1
        · simp at he
      | false =>
        simp only [Bool.false_eq_true, if_false] at he
        split at he
        · rename_i v' hv'
          simp only [OR.v.injEq] at he
          obtain ⟨rfl, rfl⟩ := he
          have hlt : off < cs.size := by rw [hsz]; exact (List.getElem?_eq_some_iff.1 hv').1
          have hcv : cs[off]? = some cs[off] := by simp [hlt]
          have hrun := run_loadVar_one (P := P) (w := w) (t := t) hag (by rw [hc_of ho]; exact hcv)
          exact ⟨_, _, rfl, hrun, hv off _ _ hv' hcv, rfl⟩
        · simp at he
    · rename_i t' c hk
      obtain ⟨cs, ho, hsz, hv0⟩ := rel_typ r hk
      have hv := fun i x v h1 h2 => (hv0 i x v h1 h2).1
      cases ag with
      | true =>
        simp only [if_true] at he
        split at he
        · rename_i hle
          simp only [OR.v.injEq] at he
          obtain ⟨rfl, rfl⟩ := he
          have hl : ((cs.toList.drop off).take s).length = s := by simp; omega
          have hrun := run_loadVar_agg (P := P) (w := w) (b := g.bl β) (off := off) (t := t) ((cs.toList.drop off).take s) hag (by rw [hl]; exact hs) (fun j v hj => by
            rw [hc_of ho]
            rw [List.getElem?_take] at hj
            split at hj
            · rw [List.getElem?_drop] at hj; simpa using hj
            · simp at hj)
          refine ⟨_, _, rfl, hrun, .agg _ _ (by simp; omega) fun i x u h1 h2 => ?_, rfl⟩
          rw [List.getElem?_take] at h1
          split at h1
          · rename_i hi
            rw [List.getElem?_drop] at h1
            rw [List.getElem?_toArray, List.getElem?_take, if_pos hi, List.getElem?_drop] at h2
            exact hv _ x u h1 (by simpa using h2)
          · simp at h1
        · simp at he
      | false =>
        simp only [Bool.false_eq_true, if_false] at he
        split at he
        · rename_i v' hv'
          simp only [OR.v.injEq] at he
          obtain ⟨rfl, rfl⟩ := he
          have hlt : off < cs.size := by rw [hsz]; exact (List.getElem?_eq_some_iff.1 hv').1
          have hcv : cs[off]? = some cs[off] := by simp [hlt]
          have hrun := run_loadVar_one (P := P) (w := w) (t := t) hag (by rw [hc_of ho]; exact hcv)
          exact ⟨_, _, rfl, hrun, hv off _ _ hv' hcv, rfl⟩
        · simp at he
    · simp at he
  | ip l b off cs h1 h2 =>
    simp only at he
    cases ag with
    | true =>
      simp only [if_true] at he
      split at he
      · rename_i hle
        simp only [OR.v.injEq] at he
        obtain ⟨rfl, rfl⟩ := he
        have hrun := run_loadVar_agg (P := P) (w := w) (b := b) (off := off) (t := t) ((List.range s).map cs) hag (by simpa using hs) (fun j v hj => by
          have hjs : j < s := by have := (List.getElem?_eq_some_iff.1 hj).1; simpa using this
          rw [List.getElem?_map, List.getElem?_range hjs] at hj
          simp at hj; subst hj
          exact (h1 j (by omega)).1)
        refine ⟨_, _, rfl, hrun, .agg _ _ (by simp; omega) fun i x u h3 h4 => ?_, rfl⟩
        rw [List.getElem?_take] at h3
        split at h3
        · rename_i hi
          have : u = cs i := by
            simp [hi] at h4; exact h4.symm
          rw [this]; exact h2 i x h3
        · simp at h3
      · simp at he
    | false =>
      simp only [Bool.false_eq_true, if_false] at he
      split at he
      · rename_i v' l'
        simp only [OR.v.injEq] at he
        obtain ⟨rfl, rfl⟩ := he
        have := (h1 0 (by simp)).1
        have hrun := run_loadVar_one (P := P) (w := w) (t := t) hag (by simpa using this)
        exact ⟨_, _, rfl, hrun, h2 0 _ rfl, rfl⟩
      · simp at he
  | _ => simp at he
theorem snd_load {t : TypeId} {ag : Bool} {s : Nat} {x v : AV} {σ' : St} {a : Value} {ρ : Env} {y : Opd} (hy : y.ev ρ = x) (r : Rel P g σ w.heap) (hx : VR g σ.n (IC g σ.H w.heap) x a)
    (hag : aggOf P t = some ag) (hs : szOf P t = some s) (he : evalOp ρ σ (.load ag s y) = .v v σ') : Good P g σ w ((Instr.loadAt t a).run P w) v σ' := by
  obtain ⟨ad, cv, rfl, hrun, hv, rfl⟩ := load_at hy r hx hag hs he
  exact Good.pure r (by simpa [Instr.loadAt, Instr.sureAddr] using hrun) hv
end Go.Proofs.YtekhblefchceaaaGreat.AM

/- The operations of the abstract machine are those of the model: stores, places, parts, numbers, strings. -/
namespace Go.Proofs.YtekhblefchceaaaGreat.AM
open Go
variable {P : Program} {g : Gh} {σ : St} {w : World}
abbrev VRs (g : Gh) (σ : St) (w : World) := VR g σ.n (IC g σ.H w.heap)
def GoodU (P : Program) (g : Gh) (σ : St) (w : World) (res : Result Unit) (σ' : St) : Prop :=
  ∃ w' g', res = .ok () w' /\ Rel P g' σ' w'.heap /\ EvoW g σ w g' σ' w'
theorem arr_write {β off : Nat} {c ncs : List AV} (r : Rel P g σ w.heap) (hk : lk σ.H β = some (.arr c)) (hle : off + ncs.length <= c.length) (vs : List Value)
    (hlen : vs.length = ncs.length) (hvr : ∀ (i : Nat) (x : AV) (v : Value), ncs[i]? = some x -> vs[i]? = some v -> VRs g σ w x v) (hone : ∀ v ∈ vs, v.oneCell' = true) :
    GoodU P g σ w ((storeCells ⟨g.bl β, off, none⟩ vs).run P w) (σ.set β (.arr (putCells c off ncs))) := by
  obtain ⟨cs, e, ho, hsz, hv⟩ := rel_arr r hk
  obtain ⟨w', cs', hr, how, hs, hoth, hb, hcz, hcs⟩ := run_stores (P := P) (off := off) vs 0 w cs ho (by omega) hone (fun j _ _ h => by simp at h)
  have := rel_set (P := P) r hk (by simp) (.arr (putCells c off ncs)) (by simp) w'.heap hs hoth
    ⟨cs', e, hb, by rw [hcz, hsz, length_putCells hle], fun i x v h1 h2 => by
      rw [getElem?_putCells hle] at h1
      rw [hcs i] at h2
      simp only [Nat.add_zero, hlen] at h2
      split at h1
      · rename_i hh; rw [if_pos hh] at h2; exact hvr _ x v h1 h2
      · rename_i hh; rw [if_neg hh] at h2; exact hv i x v h1 h2⟩ (fun c0 e0 z0 h0 => by
      rw [ho] at h0
      simp only [Option.some.injEq, Obj.cells.injEq] at h0
      obtain ⟨rfl, rfl, rfl⟩ := h0
      exact ⟨cs', _, hb, hcz⟩)
  exact ⟨w', g, hr, this.1, ⟨this.2, how.1, how.2⟩⟩
theorem typ_write {β off t : Nat} {c ncs : List AV} (r : Rel P g σ w.heap) (hk : lk σ.H β = some (.typ t c)) (hle : off + ncs.length <= c.length) (vs : List Value)
    (hlen : vs.length = ncs.length) (hvr : ∀ (i : Nat) (x : AV) (v : Value), ncs[i]? = some x -> vs[i]? = some v -> VRs g σ w x v) (hone : ∀ v ∈ vs, v.oneCell' = true) (hnv : ∀ (i : Nat) (x : AV) (v : Value), ncs[i]? = some x -> vs[i]? = some v -> x.isVs = true -> v = .slice none 0 0) :
    GoodU P g σ w ((storeCells ⟨g.bl β, off, none⟩ vs).run P w) (σ.set β (.typ t (putCells c off ncs))) := by
  obtain ⟨cs, ho, hsz, hv⟩ := rel_typ r hk
  obtain ⟨w', cs', hr, how, hs, hoth, hb, hcz, hcs⟩ := run_stores (P := P) (off := off) vs 0 w cs ho (by omega) hone (fun j _ _ h => by simp at h)
  have := rel_set (P := P) r hk (by simp) (.typ t (putCells c off ncs)) (by simp) w'.heap hs hoth
    ⟨cs', hb, by rw [hcz, hsz, length_putCells hle], fun i x v h1 h2 => by
      rw [getElem?_putCells hle] at h1
      rw [hcs i] at h2
      simp only [Nat.add_zero, hlen] at h2
      split at h1
      · rename_i hh; rw [if_pos hh] at h2; exact ⟨hvr _ x v h1 h2, hnv _ x v h1 h2⟩
      · rename_i hh; rw [if_neg hh] at h2; exact hv i x v h1 h2⟩ (fun c0 e0 z0 h0 => by
      rw [ho] at h0
      simp only [Option.some.injEq, Obj.cells.injEq] at h0
      obtain ⟨rfl, rfl, rfl⟩ := h0
      exact ⟨cs', _, hb, hcz⟩)
  exact ⟨w', g, hr, this.1, ⟨this.2, how.1, how.2⟩⟩
theorem cells_one {x : AV} {v : Value} {g : Gh} {n : Nat} {ic : Nat -> Nat -> Value -> Prop} (h : VR g n ic x v) (hs : allSc x.cells = true) : ∀ u ∈ v.cells.toList, u.oneCell' = true := by
  intro u hu
  obtain ⟨h1, h2⟩ := h.cells hs
  obtain ⟨i, hi, rfl⟩ := List.mem_iff_getElem.1 hu
  have hi' : i < x.cells.length := by rw [<- h1]; simpa using hi
  have hy := List.getElem?_eq_getElem hi'
  have hi2 : i < v.cells.size := by simpa using hi
  have hvr := h2 i _ (v.cells.toList[i]) hy (by simp [hi2])
  refine hvr.one ?_
  simp only [allSc, List.all_eq_true] at hs
  exact hs _ (List.getElem_mem hi')
theorem snd_store {t : TypeId} {s : Nat} {σ' : St} {a cv : Value} {v : AV} {ρ : Env} {y z : Opd} (r : Rel P g σ w.heap) (ha : VRs g σ w (y.ev ρ) a) (hv : VRs g σ w (z.ev ρ) cv)
    (hs : szOf P t = some s) (hn : z.isNil = true -> z.ev ρ = .vs [] .ex /\ cv = .slice none 0 0) (he : evalOp ρ σ (.store s y z) = .v v σ') : v = .tup [] /\ GoodU P g σ w ((Instr.storeAt t a cv).run P w) σ' := by
  simp only [evalOp] at he
  generalize y.ev ρ = ya at *
  generalize z.ev ρ = x at *
  cases ha with
  | ptr β off hβ =>
    simp only at he
    split at he
    · rename_i c hk
      split at he
      · rename_i h3
        simp only [OR.v.injEq] at he
        obtain ⟨rfl, rfl⟩ := he
        obtain ⟨h4, h5, h6⟩ := h3
        obtain ⟨h7, h8⟩ := hv.cells h5
        have := arr_write (P := P) (off := off) r hk (by omega) cv.cells.toList (by simpa using h7) (fun i x v a b => h8 i x v a (by simpa using b)) (cells_one hv h5)
        refine ⟨rfl, ?_⟩
        have hsz : cv.cells.size = s := by omega
        obtain ⟨w', g', hr, h9⟩ := this
        exact ⟨w', g', by simp [Instr.storeAt, Instr.sureAddr, storeVar, run_sizeOf hs, hsz, hr], h9⟩
      · simp at he
    · rename_i t' c hk
      split at he
      · rename_i h3
        simp only [OR.v.injEq] at he
        obtain ⟨rfl, rfl⟩ := he
        obtain ⟨h4, h5, h6, h6b⟩ := h3
        obtain ⟨h7, h8⟩ := hv.cells h5
        have := typ_write (P := P) (off := off) r hk (by omega) cv.cells.toList (by simpa using h7) (fun i x v a b => h8 i x v a (by simpa using b)) (cells_one hv h5) (fun i y u h1 h2 h3 => by
          rcases Bool.or_eq_true_iff.1 h6b with h | h
          · have := List.all_eq_true.1 h y (List.mem_of_getElem? h1)
            rw [h3] at this; simp at this
          · obtain ⟨rfl, rfl⟩ := hn h
            simp only [AV.cells, Value.cells] at h1 h2
            cases i with
            | zero => simp at h2; exact h2.symm
            | succ i => simp at h2)
        refine ⟨rfl, ?_⟩
        have hsz : cv.cells.size = s := by omega
        obtain ⟨w', g', hr, h9⟩ := this
        exact ⟨w', g', by simp [Instr.storeAt, Instr.sureAddr, storeVar, run_sizeOf hs, hsz, hr], h9⟩
      · simp at he
    · simp at he
  | _ => simp at he
theorem snd_nilc {v : AV} {σ' : St} {a : Value} {ρ : Env} {y : Opd} {o : Oper} {x : Operand} {ρc : Operand -> Value} (ho : o.op = .nilCheck x) (hx : ρc x = a) (ha : VRs g σ w (y.ev ρ) a)
    (he : evalOp ρ σ (.nilc y) = .v v σ') : σ' = σ /\ VRs g σ w v a /\ (execOp ρc o).run P w = .ok (.value a) w := by
  simp only [evalOp] at he
  generalize y.ev ρ = ya at *
  cases ha with
  | ptr β off hβ => simp at he; obtain ⟨rfl, rfl⟩ := he; exact ⟨rfl, .ptr β off hβ, by simp [execOp, ho, hx]⟩
  | ip l b off cs h1 h2 => simp at he; obtain ⟨rfl, rfl⟩ := he; exact ⟨rfl, .ip l b off cs h1 h2, by simp [execOp, ho, hx]⟩
  | _ => simp at he
theorem VR.drop {g : Gh} {n : Nat} {ic : Nat -> Nat -> Value -> Prop} {l : List AV} {b off k : Nat} (cs : Nat -> Value) (h1 : ∀ i, i < l.length -> ic b (off + i) (cs i))
    (h2 : ∀ (i : Nat) (x : AV), l[i]? = some x -> VR g n ic x (cs i)) : VR g n ic (.ip (l.drop k)) (.pointer (some ⟨b, off + k, none⟩)) :=
  .ip _ _ _ (fun i => cs (k + i)) (fun i hi => by simp at hi; have := h1 (k + i) (by omega); rwa [<- Nat.add_assoc] at this) (fun i x hx => by rw [List.getElem?_drop] at hx; exact h2 _ x hx)
theorem fieldOf_some {t : TypeId} {f off : Nat} {ft : TypeId} {s : Nat} (h : fieldOf P t f = some (off, ft, s)) :
    ∃ (fs : Array Field) (fd : Field), P.underlying t = some (.struct fs) /\ fs[f]? = some fd /\ fd.offset = off /\ fd.type = ft /\ szOf P ft = some s := by
  unfold fieldOf at h
  split at h
  · rename_i fs hu
    split at h
    · rename_i fd hf
      split at h
      · rename_i s' hs
        simp at h
        obtain ⟨rfl, rfl, rfl⟩ := h
        exact ⟨fs, fd, hu, hf, rfl, rfl, hs⟩
      · simp at h
    · simp at h
  · simp at h
theorem snd_fld {t : TypeId} {f off : Nat} {ft : TypeId} {s : Nat} {v : AV} {σ' : St} {a : Value} {ρ : Env} {y : Opd} (r : Rel P g σ w.heap) (ha : VRs g σ w (y.ev ρ) a)
    (hf : fieldOf P t f = some (off, ft, s)) (hs : s ≠ 0) (he : evalOp ρ σ (.fld off y) = .v v σ') : Good P g σ w ((Instr.fieldAt t a f).run P w) v σ' := by
  obtain ⟨fs, fd, hu, hfd, rfl, rfl, hsz⟩ := fieldOf_some hf
  have hrun : ∀ ad : Addr, (Instr.fieldAt t (.pointer (some ad)) f).run P w = .ok (.pointer (some (ad.add fd.offset))) w := by
    intro ad
    simp [Instr.fieldAt, run_under hu, hfd, Instr.sureAddr, fieldPlace, run_sizeOf hsz, hs]
  simp only [evalOp] at he
  generalize y.ev ρ = ya at *
  cases ha with
  | ptr β o hβ =>
    simp at he; obtain ⟨rfl, rfl⟩ := he
    exact Good.pure r (by rw [hrun, addr_add]) (.ptr β _ hβ)
  | ip l b o cs h1 h2 =>
    simp at he; obtain ⟨rfl, rfl⟩ := he
    exact Good.pure r (by rw [hrun, addr_add]) (VR.drop cs h1 h2)
  | _ => simp at he
theorem natOf_some {x : AV} {i : Nat} {v : Value} {g : Gh} {n : Nat} {ic : Nat -> Nat -> Value -> Prop} (h : natOf x = some i) (hv : VR g n ic x v) : ∃ k, v = .int k (i : Int) := by
  cases hv <;> simp [natOf] at h
  rename_i k j
  obtain ⟨h1, rfl⟩ := h
  exact ⟨k, by rw [Int.toNat_of_nonneg h1]⟩
theorem snd_idxA {t e : TypeId} {s : Nat} {v : AV} {σ' : St} {a ia : Value} {ρ : Env} {y z : Opd} (r : Rel P g σ w.heap) (ha : VRs g σ w (y.ev ρ) a) (hi : VRs g σ w (z.ev ρ) ia)
    (hu : P.underlying t = some (.slice e)) (hsz : szOf P e = some s) (he : evalOp ρ σ (.idxA s y z) = .v v σ') : Good P g σ w ((Instr.indexAt t a ia).run P w) v σ' := by
  simp only [evalOp] at he
  split at he
  · rename_i i hn
    obtain ⟨k, rfl⟩ := natOf_some hn hi
    have hrun : ∀ (ad : Addr) (len cap : Nat), i < len -> (Instr.indexAt t (.slice (some ad) len cap) (.int k (i : Int))).run P w = .ok (.pointer (some (ad.add (i * s)))) w := by
      intro ad len cap hl
      simp [Instr.indexAt, asIntOf, run_under hu, run_sizeOf hsz, hl]
    generalize y.ev ρ = ya at *
    cases ha with
    | vsn t => simp at he
    | vs l t b off cap sz cs h0 hcap h1 h2 ht =>
      simp only at he
      split at he
      · rename_i x hx
        split at he
        · rename_i hxs
          simp at he; obtain ⟨rfl, rfl⟩ := he
          have hil := (List.getElem?_eq_some_iff.1 hx).1
          have hxm : x ∈ l := List.mem_of_getElem? hx
          have hss : sz = s := by rw [<- h0 x hxm, hxs]
          subst hss
          refine Good.pure r (by rw [hrun _ _ _ hil, addr_add]) (.ip _ _ _ (cs i) (fun j hj => h1 i j hil (by omega)) (fun j y hy => h2 i j x y hx hy))
        · simp at he
      · simp at he
    | hs β off len cap hβ =>
      simp only at he
      split at he
      · rename_i hl
        simp at he; obtain ⟨rfl, rfl⟩ := he
        exact Good.pure r (by rw [hrun _ _ _ hl, addr_add]) (.ptr β _ hβ)
      · simp at he
    | _ => simp at he
  · simp at he
theorem snd_idxP {t e : TypeId} {s len : Nat} {v : AV} {σ' : St} {a ia : Value} {ρ : Env} {y z : Opd} (r : Rel P g σ w.heap) (ha : VRs g σ w (y.ev ρ) a) (hi : VRs g σ w (z.ev ρ) ia)
    (hu : P.underlying t = some (.array len e)) (hsz : szOf P e = some s) (he : evalOp ρ σ (.idxP s len y z) = .v v σ') : Good P g σ w ((Instr.indexAt t a ia).run P w) v σ' := by
  simp only [evalOp] at he
  split at he
  · rename_i i β o hn hy
    rw [hy] at ha
    obtain ⟨k, rfl⟩ := natOf_some hn hi
    cases ha with
    | ptr β o hβ =>
      split at he
      · rename_i hl
        simp at he; obtain ⟨rfl, rfl⟩ := he
        refine Good.pure r ?_ (.ptr β _ hβ)
        rw [<- addr_add]
        simp [Instr.indexAt, Instr.sureAddr, asIntOf, run_under hu, run_sizeOf hsz, hl]
      · simp at he
  · simp at he
theorem run_part_agg {t : TypeId} {cs : Array Value} {off s : Nat} (ha : aggOf P t = some true) (hs : szOf P t = some s) : (part t cs off).run P w = .ok (.agg (cs.extract off (off + s))) w := by
  simp [part, run_isAgg ha, run_sizeOf hs]
theorem run_part_one {t : TypeId} {cs : Array Value} {off : Nat} {v : Value} (ha : aggOf P t = some false) (h : cs[off]? = some v) : (part t cs off).run P w = .ok v w := by
  simp [part, run_isAgg ha, h]
theorem vr_part {g : Gh} {n : Nat} {ic : Nat -> Nat -> Value -> Prop} {l : List AV} {cs : Array Value} (hl : l.length = cs.size)
    (h : ∀ (i : Nat) (x : AV) (c : Value), l[i]? = some x -> cs[i]? = some c -> VR g n ic x c) (off s : Nat) (hle : off + s <= l.length) :
    VR g n ic (.agg ((l.drop off).take s)) (.agg (cs.extract off (off + s))) := by
  refine .agg _ _ (by simp; omega) fun i x c h1 h2 => ?_
  rw [List.getElem?_take] at h1
  split at h1
  · rename_i hi
    rw [List.getElem?_drop] at h1
    rw [Array.getElem?_extract] at h2
    split at h2
    · exact h _ x c h1 h2
    · simp at h2
  · simp at h1
theorem snd_part {t : TypeId} {ag : Bool} {off s : Nat} {l : List AV} {cs : Array Value} {v : AV} {σ' : St} (r : Rel P g σ w.heap) (hl : l.length = cs.size)
    (h : ∀ (i : Nat) (x : AV) (c : Value), l[i]? = some x -> cs[i]? = some c -> VRs g σ w x c) (hag : aggOf P t = some ag) (hs : szOf P t = some s)
    (he : (if ag then (if off + s <= l.length then OR.v (.agg ((l.drop off).take s)) σ else .bad) else match l[off]? with | some v => .v v σ | none => .bad) = .v v σ') :
    Good P g σ w ((part t cs off).run P w) v σ' := by
  cases ag with
  | true =>
    simp only [if_true] at he
    split at he
    · rename_i hle
      simp at he; obtain ⟨rfl, rfl⟩ := he
      exact Good.pure r (run_part_agg hag hs) (vr_part hl h _ _ hle)
    · simp at he
  | false =>
    simp only [Bool.false_eq_true, if_false] at he
    split at he
    · rename_i v' hv'
      simp at he; obtain ⟨rfl, rfl⟩ := he
      have hlt : off < cs.size := by rw [<- hl]; exact (List.getElem?_eq_some_iff.1 hv').1
      have hcv : cs[off]? = some cs[off] := by simp [hlt]
      exact Good.pure r (run_part_one hag hcv) (h off _ _ hv' hcv)
    · simp at he
theorem snd_field {t : TypeId} {f off : Nat} {ft : TypeId} {ag : Bool} {s : Nat} {v : AV} {σ' : St} {a : Value} {ρ : Env} {y : Opd} (r : Rel P g σ w.heap) (ha : VRs g σ w (y.ev ρ) a)
    (hf : fieldOf P t f = some (off, ft, s)) (hag : aggOf P ft = some ag) (he : evalOp ρ σ (.field ag off s y) = .v v σ') : Good P g σ w ((Instr.field t a f).run P w) v σ' := by
  obtain ⟨fs, fd, hu, hfd, rfl, rfl, hsz⟩ := fieldOf_some hf
  simp only [evalOp] at he
  generalize y.ev ρ = ya at *
  cases ha with
  | agg l cs hl h =>
    simp only at he
    have := snd_part (P := P) (w := w) r hl h hag hsz he
    simpa [Instr.field, run_under hu, hfd, asAgg] using this
  | _ => simp at he
theorem snd_idx {t e : TypeId} {ag : Bool} {s len : Nat} {v : AV} {σ' : St} {a ia : Value} {ρ : Env} {y z : Opd} (r : Rel P g σ w.heap) (ha : VRs g σ w (y.ev ρ) a) (hi : VRs g σ w (z.ev ρ) ia)
    (hu : P.underlying t = some (.array len e)) (hsz : szOf P e = some s) (hag : aggOf P e = some ag) (he : evalOp ρ σ (.idx ag s len y z) = .v v σ') :
    Good P g σ w ((Instr.index t a ia).run P w) v σ' := by
  simp only [evalOp] at he
  split at he
  · rename_i i l hn hy
    rw [hy] at ha
    obtain ⟨k, rfl⟩ := natOf_some hn hi
    cases ha with
    | agg l cs hl h =>
      split at he
      · rename_i hlt
        have := snd_part (P := P) (w := w) r hl h hag hsz he
        simpa [Instr.index, asIntOf, run_under hu, run_sizeOf hsz, hlt] using this
      · simp at he
  · simp at he
theorem snd_idxS {t : TypeId} {v : AV} {σ' : St} {a ia : Value} {ρ : Env} {y z : Opd} (r : Rel P g σ w.heap) (ha : VRs g σ w (y.ev ρ) a) (hi : VRs g σ w (z.ev ρ) ia)
    (hu : P.underlying t = some .string) (he : evalOp ρ σ (.idxS y z) = .v v σ') : Good P g σ w ((Instr.index t a ia).run P w) v σ' := by
  simp only [evalOp] at he
  split at he
  · rename_i i s hn hy
    rw [hy] at ha
    obtain ⟨k, rfl⟩ := natOf_some hn hi
    cases ha with
    | str s =>
      split at he
      · rename_i b hb
        simp at he; obtain ⟨rfl, rfl⟩ := he
        have hlt := (List.getElem?_eq_some_iff.1 hb).1
        have hb' : (⟨s.toArray⟩ : ByteArray)[i]? = some b := by
          have hsz : (⟨s.toArray⟩ : ByteArray).size = s.length := by simp [ByteArray.size]
          rw [getElem?_pos (⟨s.toArray⟩ : ByteArray) i (by rw [hsz]; exact hlt)]
          have := (List.getElem?_eq_some_iff.1 hb).2
          simp [<- this, ByteArray.getElem_eq_getElem_data]
        refine Good.pure r ?_ (.int _ _)
        simp [Instr.index, asIntOf, run_under hu, hb']
      · simp at he
  · simp at he
theorem snd_ext {v : AV} {σ' : St} {a : Value} {ρ : Env} {y : Opd} {i : Nat} (r : Rel P g σ w.heap) (ha : VRs g σ w (y.ev ρ) a) (he : evalOp ρ σ (.ext y i) = .v v σ') :
    Good P g σ w ((Instr.extract a i).run P w) v σ' := by
  simp only [evalOp] at he
  generalize y.ev ρ = ya at *
  cases ha with
  | tup l cs hl h =>
    simp only at he
    split at he
    · rename_i v' hv'
      simp at he; obtain ⟨rfl, rfl⟩ := he
      have hlt : i < cs.size := by rw [<- hl]; exact (List.getElem?_eq_some_iff.1 hv').1
      have hcv : cs[i]? = some cs[i] := by simp [hlt]
      exact Good.pure r (by simp only [Instr.extract, hcv]; rfl) (h i _ _ hv' hcv)
    · simp at he
  | _ => simp at he
end Go.Proofs.YtekhblefchceaaaGreat.AM

/- The operations of the abstract machine are those of the model: numbers, strings, comparisons. -/
namespace Go.Proofs.YtekhblefchceaaaGreat.AM
open Go
variable {P : Program} {g : Gh} {σ : St} {w : World}
theorem run_eqGuard_one {op : BinOp} {t : TypeId} {X Y : Operand} {a b : Value} (h : a.oneCell' = true) (hn : a ≠ .nilIface) : (eqGuard op t X Y a b).run P w = .ok () w := by
  unfold eqGuard
  cases a <;> first
    | (simp [Value.oneCell'] at h; done)
    | (exact absurd rfl hn)
    | (cases op <;> rfl)
theorem blist (s : List UInt8) : (⟨s.toArray⟩ : ByteArray).toList = s := by
  rw [ByteArray.toList_eq]
theorem strLess_eq : ∀ a b, Op.bytesLess a b = strLess a b
  | _, [] => by unfold Op.bytesLess strLess; rfl
  | [], _ :: _ => by unfold Op.bytesLess strLess; rfl
  | a :: x, b :: y => by unfold Op.bytesLess strLess; rw [strLess_eq x y]
theorem snd_bin {op : BinOp} {t : TypeId} {X Y : Operand} {x y v : AV} {a b : Value} (hx : VRs g σ w x a) (hy : VRs g σ w y b) (he : binA op x y = some v) :
    ∃ cv, (do eqGuard op t X Y a b; binOp op t a b : Sem Value).run P w = .ok cv w /\ VRs g σ w v cv := by
  cases hx with
  | int k i =>
    cases hy with
    | int k' j =>
      have hg : (eqGuard op t X Y (.int k i) (.int k' j)).run P w = .ok () w := run_eqGuard_one rfl (by simp)
      simp only [Sem.run_bind, hg, Result.andThen_ok]
      simp only [binA] at he
      cases op <;> simp only [binOp] at he ⊢
      case shl =>
        split at he
        · simp at he
        · rename_i h; simp at he; subst he; exact ⟨_, by simp [Op.shift, h], .int _ _⟩
      case shr =>
        split at he
        · simp at he
        · rename_i h; simp at he; subst he; exact ⟨_, by simp [Op.shift, h], .int _ _⟩
      all_goals
        split at he
        · rename_i hk
          subst hk
          simp only [intOp] at he
          first
          | (simp at he; done)
          | (split at he
             · simp at he
             · rename_i h
               simp at he; subst he
               exact ⟨_, by simp [Op.intDiv, h], .int _ _⟩)
          | (simp only [Option.some.injEq] at he; subst he
             refine ⟨_, by simp only [ne_eq, not_true_eq_false, if_false, Op.intArith, Op.intBits, Op.intCmp]; rfl, ?_⟩
             first | exact .int _ _ | exact .bool _)
        · simp at he
    | _ => simp [binA] at he
  | str s =>
    cases hy with
    | str s' =>
      have hg : (eqGuard op t X Y (.string ⟨s.toArray⟩) (.string ⟨s'.toArray⟩)).run P w = .ok () w := run_eqGuard_one rfl (by simp)
      simp only [Sem.run_bind, hg, Result.andThen_ok]
      simp only [binA] at he
      cases op <;> simp only [strOp] at he <;> simp only [binOp, Op.stringOp, blist, strLess_eq]
      case add =>
        split at he
        · rename_i hl
          simp at he; subst he
          have h1 : ¬ (((⟨s.toArray⟩ : ByteArray).size + (⟨s'.toArray⟩ : ByteArray).size : Nat) : Int) > IntKind.i64.max := by
            simp [ByteArray.size, IntKind.max, IntKind.signed, IntKind.bits]; omega
          refine ⟨_, by rw [if_neg h1]; rfl, ?_⟩
          have h2 : (⟨s.toArray⟩ : ByteArray) ++ ⟨s'.toArray⟩ = ⟨(s ++ s').toArray⟩ := by
            apply ByteArray.ext
            simp
          rw [h2]; exact .str _
        · simp at he
      all_goals first
        | (simp at he; done)
        | (simp only [Option.some.injEq] at he; subst he
           exact ⟨_, rfl, .bool _⟩)
    | _ => simp [binA] at he
  | _ => cases hy <;> simp [binA] at he
theorem run_sameAddr_same {b o o' : Nat} : (sameAddr ⟨b, o, none⟩ ⟨b, o', none⟩).run P w = .ok (decide (o = o')) w := by
  simp only [sameAddr, BEq.rfl, if_true, Sem.run_pure]
  congr 1
  by_cases h : o = o'
  · subst h; simp
  · have : (⟨b, o, none⟩ : Addr) ≠ ⟨b, o', none⟩ := fun e => h (by injection e)
    simp [h]
theorem eqOp_some {op : BinOp} {neg : Bool} (h : eqOp op = some neg) : (neg = false /\ op = .eql) \/ (neg = true /\ op = .neq) := by
  cases op <;> simp [eqOp] at h <;> subst h <;> simp
theorem run_eqlneq {op : BinOp} {neg : Bool} {t : TypeId} {X Y : Operand} {a b : Value} {r : Bool} (hop : eqOp op = some neg) (h1 : a.oneCell' = true) (hn : a ≠ .nilIface)
    (hs : ∀ k i, a ≠ .int k i) (hs2 : ∀ s, a ≠ .string s) (hs3 : ∀ k i, a ≠ .float k i) (hs4 : ∀ k i j, a ≠ .complex k i j)
    (he : (Op.equal t a b).run P w = .ok r w) :
    (do eqGuard op t X Y a b; binOp op t a b : Sem Value).run P w = .ok (.bool (r != neg)) w := by
  have hg : (eqGuard op t X Y a b).run P w = .ok () w := run_eqGuard_one h1 hn
  simp only [Sem.run_bind, hg, Result.andThen_ok]
  rcases eqOp_some hop with ⟨rfl, rfl⟩ | ⟨rfl, rfl⟩
  all_goals
    cases a <;> first
      | (exact absurd rfl (hs _ _))
      | (exact absurd rfl (hs2 _))
      | (exact absurd rfl (hs3 _ _))
      | (exact absurd rfl (hs4 _ _ _))
      | (simp [Value.oneCell'] at h1; done)
      | (simp only [binOp, Sem.run_bind, he, Result.andThen_ok, Sem.run_pure]; cases r <;> rfl)
theorem run_equal {t : TypeId} {a b : Value} {r : Bool} (h : ∀ d, (Op.equalIn (d + 1) t a b).run P w = .ok r w) : (Op.equal t a b).run P w = .ok r w := h 9999
theorem eqIn_ptr {t e : TypeId} {x y : AV} {r : Bool} {a b : Value} (hx : VRs g σ w x a) (hy : VRs g σ w y b) (hu : P.underlying t = some (.pointer e)) {s : Nat} (hs : szOf P e = some s) (hs0 : s ≠ 0)
    (he : eqK .ptr x y = some r) (d : Nat) : (Op.equalIn (d + 1) t a b).run P w = .ok r w := by
  cases hx <;> cases hy <;> simp only [eqK] at he <;> first
    | (simp at he; done)
    | (simp only [Option.some.injEq] at he; subst he; simp [Op.equalIn, run_under hu]; done)
    | (split at he
       · rename_i hβ
         subst hβ
         simp only [Option.some.injEq] at he; subst he
         simp [Op.equalIn, run_under hu, run_sizeOf hs, hs0, run_sameAddr_same]
       · simp at he)
theorem eqIn_bool {t : TypeId} {x y : AV} {r : Bool} {a b : Value} (hx : VRs g σ w x a) (hy : VRs g σ w y b) (hu : P.underlying t = some .bool)
    (he : eqK .bool x y = some r) (d : Nat) : (Op.equalIn (d + 1) t a b).run P w = .ok r w := by
  cases hx <;> cases hy <;> simp only [eqK] at he <;> first
    | (simp at he; done)
    | (simp only [Option.some.injEq] at he; subst he; simp [Op.equalIn, run_under hu]; done)
theorem eqIn_fn {t : TypeId} {ps rs : Array TypeId} {va : Bool} {x y : AV} {r : Bool} {a b : Value} (hx : VRs g σ w x a) (hy : VRs g σ w y b) (hu : P.underlying t = some (.func ps rs va))
    (he : eqK .fn x y = some r) (d : Nat) : (Op.equalIn (d + 1) t a b).run P w = .ok r w := by
  cases hx <;> cases hy <;> simp only [eqK] at he <;> first
    | (simp at he; done)
    | (simp only [Option.some.injEq] at he; subst he; simp [Op.equalIn, run_under hu]; done)
theorem eqIn_map {t kt et : TypeId} {x y : AV} {r : Bool} {a b : Value} (hx : VRs g σ w x a) (hy : VRs g σ w y b) (hu : P.underlying t = some (.map kt et))
    (he : eqK .map x y = some r) (d : Nat) : (Op.equalIn (d + 1) t a b).run P w = .ok r w := by
  cases hx <;> cases hy <;> simp only [eqK] at he <;> first
    | (simp at he; done)
    | (simp only [Option.some.injEq] at he; subst he; simp [Op.equalIn, run_under hu]; done)
theorem snd_eqv {op : BinOp} {neg : Bool} {t : TypeId} {X Y : Operand} {x y : AV} {r : Bool} {a b : Value} {kd : EK} (hx : VRs g σ w x a) (hop : eqOp op = some neg)
    (he : eqK kd x y = some r) (hrun : ∀ d, (Op.equalIn (d + 1) t a b).run P w = .ok r w) :
    (do eqGuard op t X Y a b; binOp op t a b : Sem Value).run P w = .ok (.bool (r != neg)) w := by
  refine run_eqlneq hop ?_ ?_ ?_ ?_ ?_ ?_ (run_equal hrun)
  all_goals
    cases kd <;> cases hx <;> first
      | rfl
      | (simp; done)
      | (simp [eqK] at he; done)
theorem eqList_append : ∀ (k1 k2 : List CK) (a b c d : List AV), a.length = k1.length -> c.length = k1.length ->
    eqList (k1 ++ k2) (a ++ b) (c ++ d) = (match eqList k1 a c with | some true => eqList k2 b d | x => x)
  | [], k2, [], b, [], d, _, _ => rfl
  | k :: k1, k2, x :: a, b, y :: c, d, h, h' => by
    simp only [List.cons_append, eqList]
    have := eqList_append k1 k2 a b c d (by simpa using h) (by simpa using h')
    rw [this]
    cases eqSc k x y with
    | none => rfl
    | some t => cases t <;> rfl
  | [], _, _ :: _, _, _, _, h, _ => by simp at h
  | [], _, [], _, _ :: _, _, _, h => by simp at h
  | _ :: _, _, [], _, _, _, h, _ => by simp at h
  | _ :: _, _, _ :: _, _, [], _, _, h => by simp at h
def Bears (P : Program) (g : Gh) (σ : St) (w : World) (t : TypeId) (l : List AV) (X : Value) : Prop :=
  (aggOf P t = some true /\ ∃ xs : Array Value, X = .agg xs /\ l.length = xs.size /\ ∀ (i : Nat) (x : AV) (c : Value), l[i]? = some x -> xs[i]? = some c -> VRs g σ w x c) \/
  (aggOf P t = some false /\ ∃ x, l = [x] /\ VRs g σ w x X)
theorem bears_part {t : TypeId} {l : List AV} {xs : Array Value} {off k : Nat} (hl : l.length = xs.size)
    (h : ∀ (i : Nat) (x : AV) (c : Value), l[i]? = some x -> xs[i]? = some c -> VRs g σ w x c) (hs : szOf P t = some k) (hle : off + k <= l.length) {ag : Bool} (hag : aggOf P t = some ag)
    (hone : ag = false -> k = 1) : ∃ X, (part t xs off).run P w = .ok X w /\ Bears P g σ w t ((l.drop off).take k) X := by
  cases ag with
  | true =>
    refine ⟨_, run_part_agg hag hs, .inl ⟨hag, _, rfl, ?_, ?_⟩⟩
    · simp; omega
    · have := vr_part hl h off k hle
      cases this with
      | agg _ _ _ h => exact h
  | false =>
    obtain rfl := hone rfl
    have h1 : off < xs.size := by omega
    have h2 : off < l.length := by omega
    refine ⟨xs[off], run_part_one hag (by simp [h1]), .inr ⟨hag, l[off], ?_, h off _ _ (by simp [h2]) (by simp [h1])⟩⟩
    rw [List.drop_eq_getElem_cons h2]; rfl
theorem kinds_agg {d : Nat} {t : TypeId} {ks : List CK} (h : kinds P d t = some ks) : ∃ ag, aggOf P t = some ag /\ szOf P t = some ks.length /\ (ag = false -> ks.length = 1) := by
  cases d with
  | zero => simp [kinds] at h
  | succ d =>
    unfold kinds at h
    unfold aggOf
    split at h
    · rename_i l hl
      split at h
      · rename_i hs
        simp at h; subst h
        cases hu : P.underlying t with
        | none => simp [hu] at hl
        | some ds =>
          rw [hu] at hl
          cases ds <;> simp only at hl ⊢ <;> first
            | (simp at hl; done)
            | (simp only [Option.some.injEq] at hl; subst hl; exact ⟨false, rfl, hs, fun _ => rfl⟩)
            | exact ⟨true, rfl, hs, fun h => by simp at h⟩
      · simp at h
    · simp at h
theorem eqOne {q r : Bool} (h : (match some q with | some true => eqList [] [] [] | some false => some false | none => none) = some r) : q = r := by
  cases q <;> simpa [eqList] using h
theorem eqIn_kinds : ∀ (d : Nat) (t : TypeId) (ks : List CK), kinds P d t = some ks -> ∀ (e : Nat), d <= e -> ∀ (l m : List AV) (X Y : Value) (r : Bool), l.length = ks.length -> m.length = ks.length ->
    Bears P g σ w t l X -> Bears P g σ w t m Y -> eqList ks l m = some r -> (Op.equalIn e t X Y).run P w = .ok r w
  | 0, t, ks, hf, _, _, _, _, _, _, _, _, _, _, _, _ => by simp [kinds] at hf
  | d + 1, t, ks, hf, 0, he, _, _, _, _, _, _, _, _, _, _ => by omega
  | d + 1, t, ks, hf, e + 1, he, l, m, X, Y, r, hl, hm, hX, hY, hr => by
    have ih := eqIn_kinds d
    unfold kinds at hf
    split at hf
    case h_2 => simp at hf
    rename_i ks' hks
    split at hf
    case isFalse => simp at hf
    rename_i hs
    simp only [Option.some.injEq] at hf
    subst hf
    cases hu : P.underlying t with
    | none => simp [hu] at hks
    | some ds =>
      rw [hu] at hks
      have one : aggOf P t = some false -> ∃ x y, l = [x] /\ m = [y] /\ VRs g σ w x X /\ VRs g σ w y Y := by
        intro ha
        rcases hX with ⟨h1, _⟩ | ⟨_, x, rfl, hx⟩
        · rw [ha] at h1; simp at h1
        · rcases hY with ⟨h1, _⟩ | ⟨_, y, rfl, hy⟩
          · rw [ha] at h1; simp at h1
          · exact ⟨x, y, rfl, rfl, hx, hy⟩
      have two : aggOf P t = some true -> ∃ xs ys : Array Value, X = .agg xs /\ Y = .agg ys /\ l.length = xs.size /\ m.length = ys.size /\
          (∀ (i : Nat) (x : AV) (c : Value), l[i]? = some x -> xs[i]? = some c -> VRs g σ w x c) /\ (∀ (i : Nat) (x : AV) (c : Value), m[i]? = some x -> ys[i]? = some c -> VRs g σ w x c) := by
        intro ha
        rcases hX with ⟨_, xs, rfl, h1, h2⟩ | ⟨h1, _⟩
        · rcases hY with ⟨_, ys, rfl, h3, h4⟩ | ⟨h1, _⟩
          · exact ⟨xs, ys, rfl, rfl, h1, h3, h2, h4⟩
          · rw [ha] at h1; simp at h1
        · rw [ha] at h1; simp at h1
      cases ds <;> simp only at hks <;> try (simp at hks; done)
      case bool =>
        simp only [Option.some.injEq] at hks; subst hks
        obtain ⟨x, y, rfl, rfl, hx, hy⟩ := one (by simp [aggOf, hu])
        simp only [eqList] at hr
        cases hx <;> cases hy <;> try (simp [eqSc] at hr; done)
        rename_i a b
        simp only [eqSc] at hr
        simp only [Op.equalIn, Sem.run_bind, run_under hu, Result.andThen_ok, Sem.run_pure]
        rw [eqOne hr]
      case int kk =>
        simp only [Option.some.injEq] at hks; subst hks
        obtain ⟨x, y, rfl, rfl, hx, hy⟩ := one (by simp [aggOf, hu])
        simp only [eqList] at hr
        cases hx <;> cases hy <;> try (simp [eqSc] at hr; done)
        rename_i k1 a k2 b
        simp only [eqSc] at hr
        by_cases hk : k1 = k2
        · subst hk
          simp only [if_true] at hr
          simp only [Op.equalIn, Sem.run_bind, run_under hu, Result.andThen_ok, if_true, Sem.run_pure]
          rw [<- eqOne hr]; congr 1
        · simp [hk] at hr
      case string =>
        simp only [Option.some.injEq] at hks; subst hks
        obtain ⟨x, y, rfl, rfl, hx, hy⟩ := one (by simp [aggOf, hu])
        simp only [eqList] at hr
        cases hx <;> cases hy <;> try (simp [eqSc] at hr; done)
        rename_i a b
        simp only [eqSc] at hr
        simp only [Op.equalIn, Sem.run_bind, run_under hu, Result.andThen_ok, Sem.run_pure]
        congr 1
        rw [beq_toListBytes, blist, blist]
        exact eqOne hr
      case struct fs =>
        split at hks
        · simp at hks
        rename_i hp
        obtain ⟨xs, ys, rfl, rfl, h1, h2, h3, h4⟩ := two (by simp [aggOf, hu])
        have hff : P.fieldsOf t = fs := by simp [Program.fieldsOf, hu]
        rw [run_equalIn_struct w e t xs ys (by rw [hff]; exact hu) (by simpa using hp), hff]
        have key : ∀ (fl : List Field) (off : Nat) (kk : List CK), kindsFs (kinds P d) fl off = some kk -> ∀ r, l.length = off + kk.length -> m.length = off + kk.length ->
            eqList kk (l.drop off) (m.drop off) = some r -> (Op.eqFields e xs ys fl).run P w = .ok r w := by
          intro fl
          induction fl with
          | nil =>
            intro off kk hfl r hl' hm' hr
            simp only [kindsFs, Option.some.injEq] at hfl
            subst hfl
            rw [List.drop_eq_nil_of_le (by simp at hl'; omega), List.drop_eq_nil_of_le (by simp at hm'; omega)] at hr
            simp [eqList] at hr; subst hr
            rfl
          | cons f fl ihf =>
            intro off kk hfl r hl' hm' hr
            simp only [kindsFs] at hfl
            split at hfl
            case isFalse => simp at hfl
            rename_i hc
            simp only [Bool.and_eq_true, bne_iff_ne, ne_eq, beq_iff_eq] at hc
            obtain ⟨hn, ho⟩ := hc
            split at hfl
            case h_2 => simp at hfl
            rename_i k1 hk1
            split at hfl
            case h_2 => simp at hfl
            rename_i k2 hk2
            simp only [Option.some.injEq] at hfl
            subst hfl
            obtain ⟨ag, ha, hsf, hone⟩ := kinds_agg hk1
            simp only [List.length_append] at hl' hm'
            obtain ⟨A, hA, bA⟩ := bears_part h1 h3 hsf (off := off) (by omega) ha hone
            obtain ⟨B, hB, bB⟩ := bears_part h2 h4 hsf (off := off) (by omega) ha hone
            have el : l.drop off = (l.drop off).take k1.length ++ l.drop (off + k1.length) := by rw [<- List.drop_drop]; exact (List.take_append_drop _ _).symm
            have em : m.drop off = (m.drop off).take k1.length ++ m.drop (off + k1.length) := by rw [<- List.drop_drop]; exact (List.take_append_drop _ _).symm
            rw [el, em, eqList_append _ _ _ _ _ _ (by simp; omega) (by simp; omega)] at hr
            subst ho
            simp only [Op.eqFields, ne_eq, hn, not_false_eq_true, if_true, Sem.run_bind, hA, hB, Result.andThen_ok]
            cases hq : eqList k1 ((l.drop f.offset).take k1.length) ((m.drop f.offset).take k1.length) with
            | none => simp [hq] at hr
            | some q =>
              have hrun := ih f.type k1 hk1 e (by omega) _ _ A B q (by simp; omega) (by simp; omega) bA bB hq
              rw [hrun]
              cases q with
              | false => simp [hq] at hr; subst hr; simp
              | true =>
                simp only [hq] at hr
                simp only [Result.andThen_ok, Bool.not_true, Bool.false_eq_true, if_false]
                exact ihf _ _ hk2 r (by omega) (by omega) hr
        exact key fs.toList 0 _ hks r (by omega) (by omega) (by simpa using hr)
      case array len el =>
        simp only [Option.map_eq_some_iff] at hks
        obtain ⟨k1, hk1, rfl⟩ := hks
        obtain ⟨xs, ys, rfl, rfl, h1, h2, h3, h4⟩ := two (by simp [aggOf, hu])
        obtain ⟨ag, ha, hse, hone⟩ := kinds_agg hk1
        simp only [Op.equalIn, Sem.run_bind, run_under hu, Result.andThen_ok, run_sizeOf hse]
        rw [Std.Legacy.Range.forIn_eq_forIn_range']
        simp only [Std.Legacy.Range.size, Nat.sub_zero, Nat.add_sub_cancel, Nat.div_one]
        have key : ∀ (f : Nat -> Option Bool × PUnit -> Sem (ForInStep (Option Bool × PUnit))), (∀ i u, (f i (none, u)).run P w =
            (((part el xs (i * k1.length)).run P w).andThen fun A w1 => ((part el ys (i * k1.length)).run P w1).andThen fun B w2 => ((Op.equalIn e el A B).run P w2).andThen fun q w3 =>
              (if q = false then .ok (ForInStep.done (some false, ())) w3 else .ok (ForInStep.yield (none, ())) w3))) ->
            ∀ (c i : Nat), ∀ r, l.length = i * k1.length + (kindsRep k1 c).length -> m.length = i * k1.length + (kindsRep k1 c).length ->
            eqList (kindsRep k1 c) (l.drop (i * k1.length)) (m.drop (i * k1.length)) = some r ->
            (forIn (List.range' i c) (none, ()) f).run P w = .ok (if r then none else some false, ()) w := by
          intro f hf c
          induction c with
          | zero =>
            intro i r hl' hm' hr
            rw [List.drop_eq_nil_of_le (by simp [kindsRep] at hl'; omega), List.drop_eq_nil_of_le (by simp [kindsRep] at hm'; omega)] at hr
            simp [kindsRep, eqList] at hr; subst hr
            rfl
          | succ c ihc =>
            intro i r hl' hm' hr
            simp only [kindsRep, List.length_append] at hl' hm' hr
            obtain ⟨A, hA, bA⟩ := bears_part h1 h3 hse (off := i * k1.length) (by omega) ha hone
            obtain ⟨B, hB, bB⟩ := bears_part h2 h4 hse (off := i * k1.length) (by omega) ha hone
            have el' : l.drop (i * k1.length) = (l.drop (i * k1.length)).take k1.length ++ l.drop ((i + 1) * k1.length) := by rw [Nat.add_mul, Nat.one_mul, <- List.drop_drop]; exact (List.take_append_drop _ _).symm
            have em : m.drop (i * k1.length) = (m.drop (i * k1.length)).take k1.length ++ m.drop ((i + 1) * k1.length) := by rw [Nat.add_mul, Nat.one_mul, <- List.drop_drop]; exact (List.take_append_drop _ _).symm
            rw [el', em, eqList_append _ _ _ _ _ _ (by simp; omega) (by simp; omega)] at hr
            rw [List.range'_succ, List.forIn_cons, Sem.run_bind, hf, hA, Result.andThen_ok, hB, Result.andThen_ok]
            cases hq : eqList k1 ((l.drop (i * k1.length)).take k1.length) ((m.drop (i * k1.length)).take k1.length) with
            | none => simp [hq] at hr
            | some q =>
              have hrun := ih el k1 hk1 e (by omega) _ _ A B q (by simp; omega) (by simp; omega) bA bB hq
              rw [hrun]
              cases q with
              | false => simp [hq] at hr; subst hr; simp
              | true =>
                simp only [hq] at hr
                simp only [Result.andThen_ok, Bool.true_eq_false, if_false]
                have e1 : (i + 1) * k1.length = i * k1.length + k1.length := by rw [Nat.add_mul, Nat.one_mul]
                exact ihc (i + 1) r (by omega) (by omega) hr
        have hk := fun f hf => key f hf len 0 r (by omega) (by omega) (by simpa using hr)
        rw [hk]
        · cases r <;> rfl
        · intro i u
          simp only [Sem.run_bind]
          congr 1
          funext A w1
          congr 1
          funext B w2
          congr 1
          funext q w3
          cases q <;> rfl
theorem snd_eqagg {op : BinOp} {neg : Bool} {t : TypeId} {X Y : Operand} {ks : List CK} {l m : List AV} {xs ys : Array Value} {r : Bool} (hx : VRs g σ w (.agg l) (.agg xs)) (hy : VRs g σ w (.agg m) (.agg ys))
    (hop : eqOp op = some neg) (hk : kinds P 5 t = some ks) (hg : P.eqGuardType P.depth t = false) (ha : aggOf P t = some true) (hl : l.length = ks.length) (hm : m.length = ks.length) (he : eqList ks l m = some r) :
    (do eqGuard op t X Y (.agg xs) (.agg ys); binOp op t (.agg xs) (.agg ys) : Sem Value).run P w = .ok (.bool (r != neg)) w := by
  cases hx with
  | agg _ _ h1 h2 =>
    cases hy with
    | agg _ _ h3 h4 =>
      have := eqIn_kinds (P := P) (w := w) 5 t ks hk 10000 (by omega) l m (.agg xs) (.agg ys) r hl hm (.inl ⟨ha, xs, rfl, h1, h2⟩) (.inl ⟨ha, ys, rfl, h3, h4⟩) he
      rw [Sem.run_bind, run_eqGuard_agg w op t X Y xs ys hg, Result.andThen_ok]
      rcases eqOp_some hop with ⟨rfl, rfl⟩ | ⟨rfl, rfl⟩
      · rw [run_eql_struct, this]; cases r <;> rfl
      · rw [run_neq_struct, this]; cases r <;> rfl
end Go.Proofs.YtekhblefchceaaaGreat.AM

