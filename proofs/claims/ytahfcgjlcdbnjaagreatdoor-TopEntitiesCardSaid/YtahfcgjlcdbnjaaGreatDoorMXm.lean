/- A tree of tokens: the plain model of xdm.Build. -/
import Derived.Test.YtahfcgjlcdbnjaaGreatDoorMWr3
namespace Go.Proofs.YtahfcgjlcdbnjaaGreatDoor
open Go.RowKit

def xmlnsB : Bytes := [120, 109, 108, 110, 115]
def xmlB : Bytes := [120, 109, 108]
def xmlUri : Bytes := [104, 116, 116, 112, 58, 47, 47, 119, 119, 119, 46, 119, 51, 46, 111, 114, 103, 47, 88, 77, 76, 47, 49, 57, 57, 56, 47, 110, 97, 109, 101, 115, 112, 97, 99, 101]

/-- Prefixes and what they stand for. -/
abbrev Sc := List (Bytes × Bytes)
def setSc : Sc → Bytes → Bytes → Sc
  | [], k, v => [(k, v)]
  | (a, b) :: r, k, v => if a = k then (a, v) :: r else (a, b) :: setSc r k v
def delSc : Sc → Bytes → Sc
  | [], _ => []
  | (a, b) :: r, k => if a = k then r else (a, b) :: delSc r k
def getSc (s : Sc) (k : Bytes) : Option Bytes := s.lookup k

/-- The prefix that an attribute declares. -/
def declares (n : Bytes) : Option Bytes := if n = xmlnsB then some [] else if (xmlnsB ++ [58]).isPrefixOf n then some (n.drop 6) else none
def declBad (p v : Bytes) : Bool := p == xmlnsB || (!p.isEmpty && v.isEmpty) || ((p == xmlB) != (v == xmlUri))
def declSet (s : Sc) (p v : Bytes) : Sc := if v.isEmpty then delSc (setSc s p v) p else setSc s p v
def declared : Sc → List (Bytes × Bytes) → Option Sc
  | s, [] => some s
  | s, (n, v) :: az => match declares n with
    | none => declared s az
    | some p => if declBad p v then none else if p = xmlB then declared s az else declared (declSet s p v) az

/-- A name's prefix and its other part. -/
def parted (q : Bytes) : Bytes × Bytes := (split q).getD ([], [])
/-- A name's Uri. -/
def uriOf (s : Sc) (p : Bytes) (attr : Bool) : Option Bytes :=
  if p = xmlB then some xmlUri else if p.isEmpty && attr then some [] else match getSc s p with
    | some u => some u
    | none => if p.isEmpty then some [] else none

structure Nod where
  kind : Int
  uri : Bytes
  pre : Bytes
  loc : Bytes
  text : Bytes
  deep : Int
  parent : Int
  fin : Int
  sc : Sc

def addN (ns : List Nod) (at_ : Int) (kind : Int) (uri pre loc text : Bytes) (sc : Sc) : List Nod :=
  ns ++ [⟨kind, uri, pre, loc, text, if 0 ≤ at_ then (match ns[at_.toNat]? with | some n => n.deep + 1 | none => 0) else 0, at_, 0, sc⟩]

/-- An element's attributes; the twice told. -/
def attrsN (sc : Sc) (n : Int) : List Nod → List (Bytes × Bytes) → Bool → List (Bytes × Bytes) → Option (List Nod × Bool)
  | ns, _, tw, [] => some (ns, tw)
  | ns, seen, tw, (q, v) :: az => match declares q with
    | some _ => attrsN sc n ns seen tw az
    | none => match uriOf sc (parted q).1 true with
      | none => none
      | some u => attrsN sc n (addN ns n 3 u (parted q).1 (parted q).2 v []) (if seen.contains (u, (parted q).2) then seen else seen ++ [(u, (parted q).2)]) (tw || seen.contains (u, (parted q).2)) az

def elemN (ns : List Nod) (at_ : Nat) (t : Tok) : Except Nat (List Nod) :=
  match declared ((ns[at_]?.map (·.sc)).getD []) t.attrs with
  | none => .error 7
  | some sc => match uriOf sc (parted t.name).1 false with
    | none => .error 7
    | some u => match attrsN sc ns.length (addN ns at_ 2 u (parted t.name).1 (parted t.name).2 [] sc) [] false t.attrs with
      | none => .error 7
      | some (ns', tw) => if tw then .error 8 else .ok ns'

def tokN : List Nod → Int → List Tok → Except Nat (List Nod)
  | ns, _, [] => .ok ns
  | ns, at_, t :: l =>
    if t.kind = 2 then match elemN ns at_.toNat t with
      | .error e => .error e
      | .ok ns' => tokN ns' ns.length l
    else if t.kind = 7 then tokN ns (match ns[at_.toNat]? with | some n => n.parent | none => 0) l
    else tokN (addN ns at_ t.kind [] [] t.name t.text []) at_ l

/-- Where what lies in each node ends: from the last one on. -/
def endN (ns : List Nod) (k : Nat) : List Nod :=
  match ns[k]? with
  | none => ns
  | some x =>
    let f := max x.fin (k + 1)
    let ns1 := ns.set k { x with fin := f }
    if 0 ≤ x.parent then match ns1[x.parent.toNat]? with
      | none => ns1
      | some p => ns1.set x.parent.toNat { p with fin := max p.fin f }
    else ns1
def endsN : Nat → List Nod → List Nod
  | 0, ns => ns
  | k + 1, ns => endsN k (endN ns k)

def rootN : Nod := ⟨1, [], [], [], [], 0, -1, 0, []⟩
def treeN (l : List Tok) : Except Nat (List Nod) := match tokN [rootN] 0 l with
  | .error e => .error e
  | .ok ns => .ok (endsN ns.length ns)
end Go.Proofs.YtahfcgjlcdbnjaaGreatDoor

