/- Plain: XML text as a tree (chapter 07): one way for the program's and the document's reader; no program in sight. A reading ends with what it has read and what is left, or with what is left where it gave up. -/
import Derived.Test.YtlemdhfekdiaeaaGreatDoorTreePlain
import Derived.Lib.RuneBytes
namespace Go.Proofs.YtlemdhfekdiaeaaGreatDoor.Ppa
open Go Go.Lib Go.Proofs.YtlemdhfekdiaeaaGreatDoor.Ptr

abbrev Bs := List UInt8
/-- the character that stands next; -1: none -/
def peek (r : Bs) : Int := if r = [] then -1 else ((decodeL r).1 : Int)
/-- behind it -/
def skip (r : Bs) : Bs := r.drop (decodeL r).2
/-- these must stand next -/
def mustL : Bs → Bs → Except Bs Bs
  | [], r => .ok r
  | c :: s, x :: t => if x = c then mustL s t else .error (x :: t)
  | _ :: _, [] => .error []
/-- a name, character by character -/
def againF : Nat → Bs → Bs → Except Bs Bs
  | 0, _, r => .ok r
  | f + 1, n, r => if n = [] then .ok r else if peek r = peek n then againF f (skip n) (skip r) else .error r
def againL (n r : Bs) : Except Bs Bs := againF n.length n r
def blanksL (r : Bs) : Bs := r.dropWhile Pch.blankC
/-- how many bytes of a name stand there, k of them gone by; where there is no room for one more: how many -/
def nameF : Nat → Nat → Bs → Except Nat Nat
  | 0, k, _ => .ok k
  | f + 1, k, r => if Pch.nameB (peek r) = true then (if 100 < k + (decodeL r).2 then .error k else nameF f (k + (decodeL r).2) (skip r)) else .ok k
def nameM (r : Bs) : Except Bs (Bs × Bs) := if Pch.startB (peek r) = true then (match nameF r.length 0 r with | .ok k => .ok (r.take k, r.drop k) | .error k => .error (r.drop k)) else .error r
/-- what stands ahead of an end, and behind it -/
def untilM (e : Bs) : Bs → Option (Bs × Bs)
  | [] => if e = [] then some ([], []) else none
  | x :: t => if hasPrefix (x :: t) e = true then some ([], (x :: t).drop e.length) else (untilM e t).map fun p => (x :: p.1, p.2)
def untilR (e r : Bs) : Except Bs (Bs × Bs) := match untilM e r with | some p => .ok p | none => .error []
/-- line ends made one -/
def said : Bs → Bs
  | [] => []
  | 13 :: 10 :: t => 10 :: said t
  | 13 :: t => 10 :: said t
  | x :: t => x :: said t
/-- what a digit says -/
def digB (hex : Bool) (c : UInt8) : Option Nat :=
  if 48 ≤ c ∧ c ≤ 57 then some (c.toNat - 48) else if hex = true ∧ 97 ≤ c ∧ c ≤ 102 then some (c.toNat - 87) else if hex = true ∧ 65 ≤ c ∧ c ≤ 70 then some (c.toNat - 55) else none
def numG (hex : Bool) : Nat → Bool → Bs → Except Bs (Nat × Bs)
  | _, _, [] => .error []
  | n, any, x :: t => match digB hex x with
    | some d => if 1114111 < n * (if hex then 16 else 10) + d then .error (x :: t) else numG hex (n * (if hex then 16 else 10) + d) true t
    | none => if any = false ∨ x ≠ 59 ∨ Pch.charB n = false then .error (x :: t) else .ok (n, t)
/-- a character by its digits, behind the # -/
def numM : Bs → Except Bs (Nat × Bs)
  | 120 :: t => numG true 0 false t
  | r => numG false 0 false r
/-- a reference, behind its & -/
def refM (r : Bs) : Except Bs (Nat × Bs) :=
  let is (s : Bs) (n : Nat) (r : Bs) : Except Bs (Nat × Bs) := match mustL s r with | .ok t => .ok (n, t) | .error t => .error t
  match r with
  | 35 :: t => numM t
  | 108 :: _ => is [108, 116, 59] 60 r
  | 103 :: _ => is [103, 116, 59] 62 r
  | 113 :: _ => is [113, 117, 111, 116, 59] 34 r
  | 97 :: 109 :: t => is [109, 112, 59] 38 (109 :: t)
  | 97 :: t => is [112, 111, 115, 59] 39 t
  | _ => .error r
def nlL : Bs → Bs
  | 10 :: t => t
  | t => t
/-- an attribute's value, behind its quote -/
def valF (q : UInt8) : Nat → Bs → Bs → Option (Except Bs (Bs × Bs))
  | 0, _, _ => none
  | _ + 1, _, [] => some (.error [])
  | f + 1, acc, x :: t =>
    if x = q then some (.ok (acc, t))
    else if x = 60 then some (.error (x :: t))
    else if x = 38 then (match refM t with | .ok (n, t') => valF q f (acc ++ encodeRune n) t' | .error t' => some (.error t'))
    else if x = 13 then valF q f (acc ++ [32]) (nlL t)
    else if Pch.blankC x = true then valF q f (acc ++ [32]) t
    else valF q f (acc ++ [x]) t
/-- an attribute's value -/
def valM : Bs → Except Bs (Bs × Bs)
  | x :: t => if x = 34 ∨ x = 39 then (match valF x (t.length + 1) [] t with | some o => o | none => .error []) else .error (x :: t)
  | [] => .error []
/-- what a reader has told so far -/
structure St where
  nodes : List Nd
  text : Bs
  twice : Int
  deep : Int
def flush (s : St) (p : Int) : St := if s.text = [] then s else { s with nodes := s.nodes ++ [(4, [], s.text, p)], text := [] }
def add (s : St) (n : Nd) : St := { (if n.1 = 3 then s else flush s n.2.2.2) with nodes := (if n.1 = 3 then s else flush s n.2.2.2).nodes ++ [n] }
/-- an instruction, behind its <? -/
def instrM (p : Int) (r : Bs) (s : St) : Except Bs (Bs × St) := match nameM r with
  | .error r1 => .error r1
  | .ok (nm, r1) =>
    if isXml nm = true then .error r1
    else match r1 with
      | [] => .error []
      | x :: _ =>
        if Pch.blankC x = true then (match untilR [63, 62] (blanksL r1) with | .ok (v, r2) => .ok (r2, add s (6, nm, said v, p)) | .error r2 => .error r2)
        else if x = 63 then (match mustL [63, 62] r1 with | .ok r2 => .ok (r2, add s (6, nm, [], p)) | .error r2 => .error r2)
        else .error r1
/-- a comment, behind its <!- -/
def commM (p : Int) (r : Bs) (s : St) : Except Bs (Bs × St) := match mustL [45] r with
  | .error r1 => .error r1
  | .ok r1 => match untilR [45, 45] r1 with
    | .error r2 => .error r2
    | .ok (v, r2) => match mustL [62] r2 with
      | .error r3 => .error r3
      | .ok r3 => .ok (r3, add s (5, [], said v, p))
/-- an attribute of node q; N: how long the whole text is -/
def attrM (N q : Nat) (r : Bs) (s : St) : Except Bs (Bs × St) := match nameM r with
  | .error r1 => .error r1
  | .ok (nm, r1) => match mustL [61] (blanksL r1) with
    | .error r2 => .error r2
    | .ok r2 => match valM (blanksL r2) with
      | .error r3 => .error r3
      | .ok (v, r3) => .ok (r3, add { s with twice := if s.twice < 0 ∧ ((s.nodes.drop (q + 1)).any fun o => o.2.1 == nm) = true then (N : Int) - r.length else s.twice } (3, nm, v, (q : Int)))
/-- the attributes of node q, up to what is none -/
def attrsF (N q : Nat) : Nat → Bs → St → Option (Except Bs (Bs × St))
  | 0, _, _ => none
  | _ + 1, [], s => some (.ok ([], s))
  | f + 1, x :: t, s => if Pch.blankC x = true then (match blanksL (x :: t) with
      | 47 :: u => some (.ok (47 :: u, s))
      | 62 :: u => some (.ok (62 :: u, s))
      | u => (match attrM N q u s with | .ok (r', s') => attrsF N q f r' s' | .error r' => some (.error r')))
    else some (.ok (x :: t, s))
mutual
/-- a content, up to behind its </, or to the end; run: how many ] stand right ahead -/
def contF (N : Nat) : Nat → Int → Nat → Nat → Bs → St → Option (Except Bs (Bs × St))
  | 0, _, _, _, _, _ => none
  | f + 1, p, d, run, r, s => match r with
    | [] => if p < 0 then some (.ok ([], flush s p)) else some (.error [])
    | x :: t =>
      if x = 62 ∧ 2 ≤ run then some (.error (x :: t))
      else if x = 60 then
        (if 0 ≤ p ∧ t.head? = some 47 then some (.ok (t.tail, flush s p))
        else match markF N f p d t s with
          | some (.ok (r', s')) => contF N f p d 0 r' s'
          | o => o)
      else if x = 38 then (match refM t with | .ok (n, r') => contF N f p d 0 r' { s with text := s.text ++ encodeRune n } | .error r' => some (.error r'))
      else if x = 13 then contF N f p d 0 (nlL t) { s with text := s.text ++ [10] }
      else contF N f p d (if x = 93 then run + 1 else 0) t { s with text := s.text ++ [x] }
/-- what stands behind a < in content -/
def markF (N : Nat) : Nat → Int → Nat → Bs → St → Option (Except Bs (Bs × St))
  | 0, _, _, _, _ => none
  | f + 1, p, d, r, s => match r with
    | 63 :: t => some (instrM p t s)
    | 33 :: 45 :: t => some (commM p t s)
    | 33 :: t => some (match mustL [91, 67, 68, 65, 84, 65, 91] t with
      | .error r1 => .error r1
      | .ok r1 => match untilR [93, 93, 62] r1 with
        | .error r2 => .error r2
        | .ok (v, r2) => .ok (r2, { s with text := s.text ++ said v }))
    | r => elemF N f p (d + 1) r s
/-- an element, behind its < -/
def elemF (N : Nat) : Nat → Int → Nat → Bs → St → Option (Except Bs (Bs × St))
  | 0, _, _, _, _ => none
  | f + 1, p, d, r, s => match nameM r with
    | .error r1 => some (.error r1)
    | .ok (nm, r1) =>
      match attrsF N (add { s with deep := if 60 < d ∧ s.deep < 0 then (N : Int) - r.length - 1 else s.deep } (2, nm, [], p)).nodes.length.pred (f + 1) r1 (add { s with deep := if 60 < d ∧ s.deep < 0 then (N : Int) - r.length - 1 else s.deep } (2, nm, [], p)) with
      | none => none
      | some (.error r2) => some (.error r2)
      | some (.ok (r2, s2)) => match r2 with
        | 47 :: t => some (match mustL [62] t with | .ok r3 => .ok (r3, s2) | .error r3 => .error r3)
        | r2 => match mustL [62] r2 with
          | .error r3 => some (.error r3)
          | .ok r3 => match contF N f ((add { s with deep := if 60 < d ∧ s.deep < 0 then (N : Int) - r.length - 1 else s.deep } (2, nm, [], p)).nodes.length.pred : Int) d 0 r3 s2 with
            | none => none
            | some (.error r4) => some (.error r4)
            | some (.ok (r4, s4)) => some (match againL nm r4 with
              | .error r5 => .error r5
              | .ok r5 => match mustL [62] (blanksL r5) with
                | .error r6 => .error r6
                | .ok r6 => .ok (r6, s4))
end
/-- a quoted word of a declaration, in small or great letters -/
def quotG : Bs → Bs → Except Bs Bs
  | [], r => .ok r
  | _ :: _, [] => .error []
  | c :: s, x :: t => if x = c ∨ (97 ≤ c ∧ x = c - 32) then quotG s t else .error (x :: t)
def quotM (s r : Bs) : Except Bs Bs := match mustL [61] (blanksL r) with
  | .error r1 => .error r1
  | .ok r1 => match blanksL r1 with
    | x :: t => if x = 34 ∨ x = 39 then (match quotG s t with | .error r2 => .error r2 | .ok r2 => mustL [x] r2) else .error (x :: t)
    | [] => .error []
/-- a declaration, behind its <?xml -/
def declM (r : Bs) : Except Bs Bs := match mustL [118, 101, 114, 115, 105, 111, 110] (blanksL r) with
  | .error r1 => .error r1
  | .ok r1 => match quotM [49, 46, 48] r1 with
    | .error r2 => .error r2
    | .ok r2 =>
      if (match r2 with | x :: _ => Pch.blankC x | [] => false) = true ∧ (blanksL r2).head? = some 101 then
        (match mustL [101, 110, 99, 111, 100, 105, 110, 103] (blanksL r2) with
          | .error r3 => .error r3
          | .ok r3 => match quotM [117, 116, 102, 45, 56] r3 with
            | .error r4 => .error r4
            | .ok r4 => mustL [63, 62] (blanksL r4))
      else mustL [63, 62] (blanksL r2)
/-- the parts of a document -/
def docF (N : Nat) : Nat → Bool → Bs → St → Option (Except Bs St)
  | 0, _, _, _ => none
  | f + 1, done, r, s => match blanksL r with
    | [] => if done = true then some (.ok s) else some (.error [])
    | 60 :: 63 :: t => (match instrM 0 t s with | .error r' => some (.error r') | .ok (r', s') => docF N f done r' s')
    | 60 :: 33 :: t => (match mustL [45] t with
      | .error r' => some (.error r')
      | .ok r1 => (match commM 0 r1 s with | .error r' => some (.error r') | .ok (r', s') => docF N f done r' s'))
    | 60 :: t => if done = true then some (.error t) else (match elemF N f 0 1 t s with
      | none => none
      | some (.error r') => some (.error r')
      | some (.ok (r', s')) => docF N f true r' s')
    | r => some (.error r)
def st0 : St := ⟨[], [], -1, -1⟩
def stR : St := ⟨[(1, [], [], -1)], [], -1, -1⟩
/-- the whole of a document -/
def docM (N f : Nat) (l : Bs) : Option (Except Bs St) :=
  if hasPrefix l [60, 63, 120, 109, 108] = true ∧ (match l.drop 5 with | x :: _ => Pch.blankC x | [] => false) = true then
    (match declM (l.drop 5) with | .error r => some (.error r) | .ok r => docF N f false r stR)
  else docF N f false l stR
def fragM (N f : Nat) (l : Bs) : Option (Except Bs St) := match contF N f (-1) 0 0 l st0 with
  | none => none
  | some (.error r) => some (.error r)
  | some (.ok (_, s)) => some (.ok s)
/-- the first byte at which no character of texts stands -/
def wrongF : Nat → Nat → Bs → Option Nat
  | 0, _, _ => none
  | f + 1, k, r => if r = [] then none else if Pch.okR (decodeL r) = true ∧ Pch.charB (decodeL r).1 = true then wrongF f (k + (decodeL r).2) (skip r) else some k
def wrongL (l : Bs) : Option Nat := wrongF l.length 0 l
/-- what is told of a text: its nodes, its fault, the fault's place -/
def toldM (N : Nat) : Except Bs St → List Nd × Int × Int
  | .error r => ([], 130, (N : Int) - r.length)
  | .ok s => if 0 ≤ s.twice then ([], 282, s.twice) else if 0 ≤ s.deep then ([], 131, s.deep) else if 16384 < s.nodes.length then ([], 3, 0) else (s.nodes, 0, 0)
/-- how far a reading can go -/
def fuel (N : Nat) : Nat := 3 * N + 9
def allM (way : Nat → Nat → Bs → Option (Except Bs St)) (l : Bs) : List Nd × Int × Int :=
  if 65536 < l.length then ([], 3, 0) else match wrongL l with
    | some k => ([], 120, k)
    | none => match way l.length (fuel l.length) l with
      | some o => toldM l.length o
      | none => ([], 0, 0)
def documentL (l : Bs) : List Nd × Int × Int := allM docM l
def fragmentL (l : Bs) : List Nd × Int × Int := allM fragM l
end Go.Proofs.YtlemdhfekdiaeaaGreatDoor.Ppa
