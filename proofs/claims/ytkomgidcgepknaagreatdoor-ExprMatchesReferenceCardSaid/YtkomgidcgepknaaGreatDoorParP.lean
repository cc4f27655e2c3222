/-
  The parser of chapter 21 in plain words. No program.
-/
import Derived.Test.YtkomgidcgepknaaGreatDoorNameP
set_option linter.unusedVariables false
set_option linter.unusedSimpArgs false
namespace Go.Proofs.YtkomgidcgepknaaGreatDoor

/-- A node of an expression. -/
structure Nod where
  op : Int
  n : Int
  name : ByteArray
  kids : List Int
def Nod.none_ : Nod := ⟨0, 0, ByteArray.empty, []⟩
def infixOp (t : ByteArray) : Int :=
  if t = ⟨#[60]⟩ then 10 else if t = ⟨#[61, 61]⟩ then 11 else if t = ⟨#[43]⟩ then 3 else if t = ⟨#[45]⟩ then 4 else if t = ⟨#[42]⟩ then 5 else if t = ⟨#[47]⟩ then 6 else 0
def funcOp (t : ByteArray) : Int := if t = ⟨#[109, 105, 110]⟩ then 7 else if t = ⟨#[109, 97, 120]⟩ then 8 else if t = ⟨#[105, 102]⟩ then 9 else 0
def strength (op : Int) : Int := if op = 10 ∨ op = 11 then 1 else if op = 3 ∨ op = 4 then 2 else if op = 5 ∨ op = 6 then 3 else if op = 12 then 4 else 5
def operands (op : Int) : Int := if op = 1 ∨ op = 2 then 0 else if op = 12 then 1 else if op = 9 then 3 else if 3 ≤ op ∧ op ≤ 11 then 2 else -1

/-- What a part of the parser leaves: an index, the tokens that are left, the nodes so far; or an error and its offset. -/
def PR : Type := Except (Int × Int) (Int × List Tok × List Nod)
def PR.ok (a : Int) (toks : List Tok) (out : List Nod) : PR := Except.ok (a, toks, out)
def PR.fail (err off : Int) : PR := Except.error (err, off)
def seesL (toks : List Tok) (i : Nat) (t : ByteArray) : Bool := match toks[i]? with | some k => k.kind == 4 && decide (k.text = t) | none => false
def failL (z : Int) (toks : List Tok) (err : Int) : PR := match toks with | [] => PR.fail 6 z | k :: _ => PR.fail err k.off
def putL (toks : List Tok) (out : List Nod) (x : Nod) : PR := PR.ok out.length toks (out ++ [x])
def lpar : ByteArray := ⟨#[40]⟩
def rpar : ByteArray := ⟨#[41]⟩
def comma : ByteArray := ⟨#[44]⟩
def minus : ByteArray := ⟨#[45]⟩
/-- What follows where a part has not failed. -/
def andL (r : Option PR) (k : Int → List Tok → List Nod → Option PR) : Option PR :=
  match r with
  | none => none
  | some (Except.error x) => some (Except.error x)
  | some (Except.ok x) => k x.1 x.2.1 x.2.2

/-- A piece of the parser's work: tag 0 'level', 1 its loop, 2 'primary', 3 the operands of a function. -/
structure Job where
  tag : Nat
  least : Nat
  a : Int
  i : Nat
  kids : List Int
  toks : List Tok
  out : List Nod
def jLevel (least : Nat) (toks : List Tok) (out : List Nod) : Job := ⟨0, least, 0, 0, [], toks, out⟩
def jLoop (least : Nat) (a : Int) (toks : List Tok) (out : List Nod) : Job := ⟨1, least, a, 0, [], toks, out⟩
def jPrimary (toks : List Tok) (out : List Nod) : Job := ⟨2, 0, 0, 0, [], toks, out⟩
def jArgs (op : Int) (i : Nat) (kids : List Int) (toks : List Tok) (out : List Nod) : Job := ⟨3, 0, op, i, kids, toks, out⟩
/-- The parser; none if the fuel does not suffice. -/
def parF (z : Int) : Nat → Job → Option PR
  | 0, _ => none
  | f + 1, j =>
    if j.tag = 0 then
      (if j.least = 4 then
        (if seesL j.toks 0 minus = false then parF z f (jPrimary j.toks j.out)
         else andL (parF z f (jLevel 4 j.toks.tail j.out)) fun a t o => some (putL t o ⟨12, 0, ByteArray.empty, [a]⟩))
       else andL (parF z f (jLevel (j.least + 1) j.toks j.out)) fun a t o => parF z f (jLoop j.least a t o))
    else if j.tag = 1 then
      (match j.toks with
       | [] => some (PR.ok j.a [] j.out)
       | k :: rest =>
        if k.kind ≠ 4 then some (PR.ok j.a j.toks j.out)
        else if infixOp k.text = 0 ∨ strength (infixOp k.text) ≠ j.least then some (PR.ok j.a j.toks j.out)
        else andL (parF z f (jLevel (j.least + 1) rest j.out)) fun b t o =>
          if j.least = 1 then some (putL t o ⟨infixOp k.text, 0, ByteArray.empty, [j.a, b]⟩) else parF z f (jLoop j.least o.length t (o ++ [⟨infixOp k.text, 0, ByteArray.empty, [j.a, b]⟩])))
    else if j.tag = 2 then
      (if seesL j.toks 0 lpar = true then
        andL (parF z f (jLevel 1 j.toks.tail j.out)) fun a t o => if seesL t 0 rpar = true then some (PR.ok a t.tail o) else some (failL z t 5)
       else match j.toks with
        | [] => some (failL z [] 5)
        | k :: rest =>
          if k.kind ≠ 2 ∧ k.kind ≠ 1 then some (failL z j.toks 5)
          else if k.kind = 2 ∧ 1000000 < k.n then some (failL z j.toks 9)
          else if k.kind = 2 then some (putL rest j.out ⟨1, k.n, ByteArray.empty, []⟩)
          else if funcOp k.text = 0 ∧ seesL j.toks 1 lpar = true then some (failL z j.toks 7)
          else if funcOp k.text = 0 then some (putL rest j.out ⟨2, 0, k.text, []⟩)
          else parF z f (jArgs (funcOp k.text) 0 [] rest j.out))
    else
      (if (j.i : Int) < operands j.a then
        (if seesL j.toks 0 (if j.i = 0 then lpar else comma) = true then andL (parF z f (jLevel 1 j.toks.tail j.out)) fun a t o => parF z f (jArgs j.a (j.i + 1) (j.kids ++ [a]) t o)
         else some (failL z j.toks 5))
       else if seesL j.toks 0 rpar = true then some (putL j.toks.tail j.out ⟨j.a, 0, ByteArray.empty, j.kids⟩) else some (failL z j.toks 5))
end Go.Proofs.YtkomgidcgepknaaGreatDoor
