/- The checker in plain Lean, as the program computes: trees, names, needs, the first violated rule. No program in sight. -/
import Derived.Test.YtgimdbflpdmlmaaBase
namespace Go.Proofs.Ytgimdbflpdmlmaa.Ck
set_option maxRecDepth 100000
open Go.Proofs.Ytgimdbflpdmlmaa

abbrev BA := ByteArray
/-- An expression: operation, number, name, operands. -/
inductive Ex where
  | mk (op : ByteArray) (num : Int) (name : ByteArray) (args : List Ex)
def Ex.op : Ex → BA | .mk o _ _ _ => o
def Ex.num : Ex → Int | .mk _ n _ _ => n
def Ex.name : Ex → BA | .mk _ _ n _ => n
def Ex.args : Ex → List Ex | .mk _ _ _ l => l
/-- A statement: kind, name, index, value, then, else. -/
inductive St where
  | mk (kind : Int) (name : ByteArray) (index value : List Ex) (thn els : List St)
def St.kind : St → Int | .mk k _ _ _ _ _ => k
def St.name : St → BA | .mk _ n _ _ _ _ => n
def St.index : St → List Ex | .mk _ _ i _ _ _ => i
def St.value : St → List Ex | .mk _ _ _ v _ _ => v
def St.thn : St → List St | .mk _ _ _ _ t _ => t
def St.els : St → List St | .mk _ _ _ _ _ e => e
structure Fu where
  name : ByteArray
  params : List ByteArray
  locals : List ByteArray
  body : List St
structure Pr where
  vars : List ByteArray
  arrays : List (ByteArray × Int)
  funcs : List Fu

def sNum : BA := ⟨#[110, 117, 109]⟩
def sVar : BA := ⟨#[118, 97, 114]⟩
def sElem : BA := ⟨#[101, 108, 101, 109]⟩
def sNeg : BA := ⟨#[110, 101, 103]⟩
def sNot : BA := ⟨#[110, 111, 116]⟩
def sCall : BA := ⟨#[99, 97, 108, 108]⟩
def sIn : BA := ⟨#[105, 110]⟩
def sOut : BA := ⟨#[111, 117, 116]⟩
def sMain : BA := ⟨#[109, 97, 105, 110]⟩
def sOr : BA := ⟨#[124, 124]⟩
def sAnd : BA := ⟨#[38, 38]⟩
def sEq : BA := ⟨#[61, 61]⟩
def sNe : BA := ⟨#[33, 61]⟩
def sLt : BA := ⟨#[60]⟩
def sGt : BA := ⟨#[62]⟩
def sLe : BA := ⟨#[60, 61]⟩
def sGe : BA := ⟨#[62, 61]⟩
def sXor : BA := ⟨#[94]⟩
def sAdd : BA := ⟨#[43]⟩
def sSub : BA := ⟨#[45]⟩
def sMul : BA := ⟨#[42]⟩
def sDiv : BA := ⟨#[47]⟩
def sMod : BA := ⟨#[37]⟩
def opsTab : List (BA × Int) := [(sNum, 0), (sVar, 0), (sElem, 1), (sNeg, 1), (sNot, 1), (sCall, -1), (sOr, 2), (sAnd, 2), (sEq, 2), (sNe, 2), (sLt, 2), (sGt, 2), (sLe, 2), (sGe, 2), (sXor, 2), (sAdd, 2), (sSub, 2), (sMul, 2), (sDiv, 2), (sMod, 2)]
def tabLook (op : BA) : List (BA × Int) → Int
  | [] => -2
  | (k, v) :: l => if op = k then v else tabLook op l
def operands (op : BA) : Int := tabLook op opsTab

/-- A violated rule: the name, the error. -/
abbrev Viol := BA × Int
/-- What comes of a check. -/
inductive Res (α : Type) where
  | bad (v : Viol)
  | ok (a : α)
def Res.bind {α β : Type} (r : Res α) (f : α → Res β) : Res β := match r with | .bad v => .bad v | .ok a => f a
def req (b : Bool) (name : BA) (e : Int) : Res Unit := if b then .ok () else .bad (name, e)

/-- What is known of a function: parameters, need, depth. -/
structure Sm where
  params : Nat
  need : Nat
  depth : Nat
def lookF (name : BA) : List (BA × Sm) → Option Sm
  | [] => none
  | (k, v) :: l => if name = k then some v else lookF name l
/-- What the current function may refer to. -/
structure Cx where
  globals : List BA
  vars : List BA
  arrays : List BA
  funcs : List (BA × Sm)
  name : BA
  own : List BA
instance memBA (x : BA) (l : List BA) : Decidable (x ∈ l) := decidable_of_iff (l.any (fun y => decide (y = x)) = true) (by simp)

/-- The greatest of m and i + n for the i-th need n, from the k-th on. -/
def needFrom : Nat → Nat → List Nat → Nat
  | _, m, [] => m
  | k, m, n :: l => needFrom (k + 1) (max m (k + n)) l
def callC (c : Cx) (name : BA) (ns : List Nat) (d : Nat) : Res (Nat × Nat) :=
  if name = sIn then (if ns.length = 0 then .ok (1, d) else .bad (name, 1))
  else if name = sOut then (if ns.length = 1 then .ok (ns.getD 0 0, d) else .bad (name, 1))
  else match lookF name c.funcs with
    | none => if name ∈ c.vars ∨ name ∈ c.arrays ∨ name ∈ c.own then .bad (name, 10) else .bad (name, 7)
    | some f => if ns.length = f.params then .ok (needFrom 0 (max (f.params + 1) f.need) ns, max d (f.depth + 1)) else .bad (name, 1)
def scalarC (c : Cx) (name : BA) : Res Unit := if name ∈ c.vars ∨ name ∈ c.own then .ok () else if name ∈ c.globals then .bad (name, 10) else .bad (name, 7)
def arrayC (c : Cx) (name : BA) : Res Unit := if name ∈ c.arrays then .ok () else if name ∈ c.globals ∨ name ∈ c.own then .bad (name, 10) else .bad (name, 7)
/-- The need of a binary operation. -/
def needBin (op : BA) (a b : Nat) : Nat :=
  if op = sGt ∨ op = sLe then max 3 (max a (1 + b))
  else if op = sNe then max 3 (max (1 + a) (2 + b))
  else if op = sAnd then max (1 + a) (2 + b)
  else if op = sOr then max (2 + a) (3 + b)
  else max 2 (max a (1 + b))
/-- Behind the operands. -/
def opC (c : Cx) (op name : BA) (ns : List Nat) (d : Nat) : Res (Nat × Nat) :=
  if op = sNum then .ok (1, d)
  else if op = sVar then (scalarC c name).bind fun _ => .ok (1, d)
  else if op = sElem then (arrayC c name).bind fun _ => .ok (1 + ns.getD 0 0, d)
  else if op = sCall then callC c name ns d
  else if op = sNeg then .ok (1 + ns.getD 0 0, d)
  else if op = sNot then .ok (max 2 (ns.getD 0 0), d)
  else .ok (needBin op (ns.getD 0 0) (ns.getD 1 0), d)
mutual
def exprC (c : Cx) : Ex → Nat → Res (Nat × Nat)
  | .mk op _ name args, d => (req (decide (operands op = -1) || decide (operands op = (args.length : Int))) c.name 3).bind fun _ => (exprsC c args d).bind fun r => opC c op name r.1 r.2
def exprsC (c : Cx) : List Ex → Nat → Res (List Nat × Nat)
  | [], d => .ok ([], d)
  | e :: l, d => (exprC c e d).bind fun r => (exprsC c l r.2).bind fun q => .ok (r.1 :: q.1, q.2)
end
/-- Is the statement well-formed? -/
def formed : St → Bool
  | .mk k name index value thn els =>
    let n := decide (name.size ≠ 0); let i := index.length; let v := value.length; let t := thn.length; let e := els.length
    if k = 1 then n && decide (i = 0) && decide (v = 1) && decide (t = 0) && decide (e = 0)
    else if k = 2 then n && decide (i = 1) && decide (v = 1) && decide (t = 0) && decide (e = 0)
    else if k = 3 then !n && decide (i = 0) && decide (v = 1)
    else if k = 4 then !n && decide (i = 0) && decide (v = 1) && decide (e = 0)
    else if k = 5 then !n && decide (i = 0) && decide (v = 1) && decide (t = 0) && decide (e = 0)
    else if k = 6 then !n && decide (i = 0) && decide (v = 1) && decide (t = 0) && decide (e = 0) && decide ((value.map Ex.op).getD 0 ⟨#[]⟩ = sCall)
    else if k = 7 then !n && decide (i = 0) && decide (v = 0) && decide (t = 0) && decide (e = 0)
    else false
def first (c : Cx) (l : List Ex) (d : Nat) : Res (Nat × Nat) := match l with | [] => .ok (0, d) | e :: _ => exprC c e d
mutual
def stC (c : Cx) : St → Nat → Res (Nat × Nat)
  | .mk k name index value thn els, d => (req (formed (.mk k name index value thn els)) c.name 3).bind fun _ =>
      if k = 7 then .ok (0, d) else (first c value d).bind fun r =>
        if k = 1 then (scalarC c name).bind fun _ => .ok (max 2 r.1, r.2)
        else if k = 2 then (first c index r.2).bind fun q => (arrayC c name).bind fun _ => .ok (max r.1 (2 + q.1), q.2)
        else if k = 5 then .ok r
        else if k = 3 ∨ k = 4 then (stsC c thn r.2).bind fun t => (stsC c els t.2).bind fun u => .ok (max 2 (max r.1 (max t.1 u.1)), u.2)
        else .ok (max 2 r.1, r.2)
def stsC (c : Cx) : List St → Nat → Res (Nat × Nat)
  | [], d => .ok (0, d)
  | s :: l, d => (stC c s d).bind fun r => (stsC c l r.2).bind fun q => .ok (max r.1 q.1, q.2)
end
def keywords : List BA := [⟨#[97, 114, 114, 97, 121]⟩, ⟨#[101, 108, 115, 101]⟩, ⟨#[102, 117, 110, 99]⟩, ⟨#[104, 97, 108, 116]⟩, ⟨#[105, 102]⟩, ⟨#[114, 101, 116, 117, 114, 110]⟩, ⟨#[118, 97, 114]⟩, ⟨#[119, 104, 105, 108, 101]⟩]
def letter (b : UInt8) : Bool := decide (97 ≤ b.toNat) && decide (b.toNat ≤ 122)
def digit (b : UInt8) : Bool := decide (48 ≤ b.toNat) && decide (b.toNat ≤ 57)
def wordly (l : List UInt8) : Bool := match l with | [] => false | b :: r => letter b && r.all fun x => letter x || decide (x.toNat = 95) || digit x
def isName (s : BA) : Bool := decide (s.size ≤ 24) && !decide (s = sIn) && !decide (s = sOut) && !decide (s ∈ keywords) && wordly s.data.toList
def globalC (known : List BA) (name : BA) : Res (List BA) := (req (isName name) name 7).bind fun _ => (req (!decide (name ∈ known)) name 8).bind fun _ => .ok (known ++ [name])
def globalsC : List BA → List BA → Res (List BA)
  | known, [] => .ok known
  | known, x :: l => (globalC known x).bind fun k => globalsC k l
def ownC (globals : List BA) : List BA → List BA → Res (List BA)
  | own, [] => .ok own
  | own, x :: l => (req (isName x) x 7).bind fun _ => (req (!decide (x ∈ globals) && !decide (x ∈ own)) x 8).bind fun _ => ownC globals (own ++ [x]) l
def functionC (c : Cx) (f : Fu) : Res Cx :=
  (ownC c.globals [] (f.params ++ f.locals)).bind fun own => (stsC { c with name := f.name, own := own } f.body 1).bind fun r =>
    .ok { c with name := f.name, own := own, funcs := (f.name, ⟨f.params.length, max 2 (max (f.params.length + 1) r.1), r.2⟩) :: c.funcs }
def functionsC : Cx → List Fu → Res Cx
  | c, [] => .ok c
  | c, f :: l => (functionC c f).bind fun c' => functionsC c' l
def arraysC : Int → List (BA × Int) → Res Int
  | t, [] => .ok t
  | t, (n, s) :: l => (req (decide (0 < s)) n 2).bind fun _ => (req (decide (s ≤ 150000 - t)) n 6).bind fun _ => arraysC (t + s) l
def scalarsN (p : Pr) : Nat := p.vars.length + (p.funcs.map fun f => f.params.length + f.locals.length).sum
def lastMain (p : Pr) : Bool := match p.funcs.getLast? with | none => false | some f => decide (f.name = sMain) && decide (f.params.length = 0)
def programC (p : Pr) : Res Unit :=
  (globalsC [] p.vars).bind fun g1 => (globalsC g1 (p.arrays.map (·.1))).bind fun g2 => (globalsC g2 (p.funcs.map Fu.name)).bind fun g3 => (arraysC 0 p.arrays).bind fun _ =>
    (functionsC ⟨g3, p.vars, p.arrays.map (·.1), [], ⟨#[]⟩, []⟩ p.funcs).bind fun c => (req (lastMain p) sMain 9).bind fun _ =>
      req (decide (scalarsN p ≤ 8000) && decide (((lookF sMain c.funcs).map Sm.need).getD 0 ≤ 200) && decide (((lookF sMain c.funcs).map Sm.depth).getD 0 ≤ 60)) sMain 6
/-- Check: the name and the error. -/
def check (p : Pr) : Viol := match programC p with | .bad v => v | .ok _ => (⟨#[]⟩, 0)
end Go.Proofs.Ytgimdbflpdmlmaa.Ck
