/-
  Plain: words that have a short form (printed by tools/genWb.py); addresses, as they are read and written.
-/
import Derived.Test.YtjneghncmgjkeaaGreatDoorKa05
import Derived.Lib.ItoaLen
import Derived.Test.YtjneghncmgjkeaaGreatDoorKa01
import Derived.Shelf.Strings.SlTrimAscii
set_option linter.unusedVariables false
namespace Go.Proofs.YtjneghncmgjkeaaGreatDoor

/-- A pair: the long word, its short form. -/
structure Wp where
  l : Bs
  s : Bs
deriving DecidableEq
def sufText : Bs := [65, 76, 76, 69, 89, 61, 65, 76, 89, 32, 65, 86, 69, 78, 85, 69, 61, 65, 86, 69, 32, 66, 79, 85, 76, 69, 86, 65, 82, 68, 61, 66, 76, 86, 68, 32, 67, 73, 82, 67, 76, 69, 61, 67, 73, 82, 32, 67, 79, 85, 82, 84, 61, 67, 84, 32, 68, 82, 73, 86, 69, 61, 68, 82, 32, 69, 88, 80, 82, 69, 83, 83, 87, 65, 89, 61, 69, 88, 80, 89, 32, 72, 73, 71, 72, 87, 65, 89, 61, 72, 87, 89, 32, 76, 65, 78, 69, 61, 76, 78, 32, 76, 79, 79, 80, 61, 76, 79, 79, 80, 32, 80, 65, 82, 75, 87, 65, 89, 61, 80, 75, 87, 89, 32, 80, 76, 65, 67, 69, 61, 80, 76, 32, 80, 76, 65, 90, 65, 61, 80, 76, 90, 32, 82, 79, 65, 68, 61, 82, 68, 32, 82, 79, 87, 61, 82, 79, 87, 32, 83, 81, 85, 65, 82, 69, 61, 83, 81, 32, 83, 84, 82, 69, 69, 84, 61, 83, 84, 32, 84, 69, 82, 82, 65, 67, 69, 61, 84, 69, 82, 32, 84, 82, 65, 73, 76, 61, 84, 82, 76, 32, 87, 65, 89, 61, 87, 65, 89]
def dirText : Bs := [69, 65, 83, 84, 61, 69, 32, 78, 79, 82, 84, 72, 61, 78, 32, 78, 79, 82, 84, 72, 69, 65, 83, 84, 61, 78, 69, 32, 78, 79, 82, 84, 72, 87, 69, 83, 84, 61, 78, 87, 32, 83, 79, 85, 84, 72, 61, 83, 32, 83, 79, 85, 84, 72, 69, 65, 83, 84, 61, 83, 69, 32, 83, 79, 85, 84, 72, 87, 69, 83, 84, 61, 83, 87, 32, 87, 69, 83, 84, 61, 87]
def staText : Bs := [65, 76, 65, 66, 65, 77, 65, 61, 65, 76, 32, 65, 76, 65, 83, 75, 65, 61, 65, 75, 32, 65, 82, 73, 90, 79, 78, 65, 61, 65, 90, 32, 65, 82, 75, 65, 78, 83, 65, 83, 61, 65, 82, 32, 67, 65, 76, 73, 70, 79, 82, 78, 73, 65, 61, 67, 65, 32, 67, 79, 76, 79, 82, 65, 68, 79, 61, 67, 79, 32, 67, 79, 78, 78, 69, 67, 84, 73, 67, 85, 84, 61, 67, 84, 32, 68, 69, 76, 65, 87, 65, 82, 69, 61, 68, 69, 32, 68, 73, 83, 84, 82, 73, 67, 84, 95, 79, 70, 95, 67, 79, 76, 85, 77, 66, 73, 65, 61, 68, 67, 32, 70, 76, 79, 82, 73, 68, 65, 61, 70, 76, 32, 71, 69, 79, 82, 71, 73, 65, 61, 71, 65, 32, 72, 65, 87, 65, 73, 73, 61, 72, 73, 32, 73, 68, 65, 72, 79, 61, 73, 68, 32, 73, 76, 76, 73, 78, 79, 73, 83, 61, 73, 76, 32, 73, 78, 68, 73, 65, 78, 65, 61, 73, 78, 32, 73, 79, 87, 65, 61, 73, 65, 32, 75, 65, 78, 83, 65, 83, 61, 75, 83, 32, 75, 69, 78, 84, 85, 67, 75, 89, 61, 75, 89, 32, 76, 79, 85, 73, 83, 73, 65, 78, 65, 61, 76, 65, 32, 77, 65, 73, 78, 69, 61, 77, 69, 32, 77, 65, 82, 89, 76, 65, 78, 68, 61, 77, 68, 32, 77, 65, 83, 83, 65, 67, 72, 85, 83, 69, 84, 84, 83, 61, 77, 65, 32, 77, 73, 67, 72, 73, 71, 65, 78, 61, 77, 73, 32, 77, 73, 78, 78, 69, 83, 79, 84, 65, 61, 77, 78, 32, 77, 73, 83, 83, 73, 83, 83, 73, 80, 80, 73, 61, 77, 83, 32, 77, 73, 83, 83, 79, 85, 82, 73, 61, 77, 79, 32, 77, 79, 78, 84, 65, 78, 65, 61, 77, 84, 32, 78, 69, 66, 82, 65, 83, 75, 65, 61, 78, 69, 32, 78, 69, 86, 65, 68, 65, 61, 78, 86, 32, 78, 69, 87, 95, 72, 65, 77, 80, 83, 72, 73, 82, 69, 61, 78, 72, 32, 78, 69, 87, 95, 74, 69, 82, 83, 69, 89, 61, 78, 74, 32, 78, 69, 87, 95, 77, 69, 88, 73, 67, 79, 61, 78, 77, 32, 78, 69, 87, 95, 89, 79, 82, 75, 61, 78, 89, 32, 78, 79, 82, 84, 72, 95, 67, 65, 82, 79, 76, 73, 78, 65, 61, 78, 67, 32, 78, 79, 82, 84, 72, 95, 68, 65, 75, 79, 84, 65, 61, 78, 68, 32, 79, 72, 73, 79, 61, 79, 72, 32, 79, 75, 76, 65, 72, 79, 77, 65, 61, 79, 75, 32, 79, 82, 69, 71, 79, 78, 61, 79, 82, 32, 80, 69, 78, 78, 83, 89, 76, 86, 65, 78, 73, 65, 61, 80, 65, 32, 82, 72, 79, 68, 69, 95, 73, 83, 76, 65, 78, 68, 61, 82, 73, 32, 83, 79, 85, 84, 72, 95, 67, 65, 82, 79, 76, 73, 78, 65, 61, 83, 67, 32, 83, 79, 85, 84, 72, 95, 68, 65, 75, 79, 84, 65, 61, 83, 68, 32, 84, 69, 78, 78, 69, 83, 83, 69, 69, 61, 84, 78, 32, 84, 69, 88, 65, 83, 61, 84, 88, 32, 85, 84, 65, 72, 61, 85, 84, 32, 86, 69, 82, 77, 79, 78, 84, 61, 86, 84, 32, 86, 73, 82, 71, 73, 78, 73, 65, 61, 86, 65, 32, 87, 65, 83, 72, 73, 78, 71, 84, 79, 78, 61, 87, 65, 32, 87, 69, 83, 84, 95, 86, 73, 82, 71, 73, 78, 73, 65, 61, 87, 86, 32, 87, 73, 83, 67, 79, 78, 83, 73, 78, 61, 87, 73, 32, 87, 89, 79, 77, 73, 78, 71, 61, 87, 89]
def uniText : Bs := [65, 80, 65, 82, 84, 77, 69, 78, 84, 61, 65, 80, 84, 32, 66, 85, 73, 76, 68, 73, 78, 71, 61, 66, 76, 68, 71, 32, 70, 76, 79, 79, 82, 61, 70, 76, 32, 82, 79, 79, 77, 61, 82, 77, 32, 83, 85, 73, 84, 69, 61, 83, 84, 69, 32, 85, 78, 73, 84, 61, 85, 78, 73, 84]
def sufW : List Wp := [⟨[65, 76, 76, 69, 89], [65, 76, 89]⟩, ⟨[65, 86, 69, 78, 85, 69], [65, 86, 69]⟩, ⟨[66, 79, 85, 76, 69, 86, 65, 82, 68], [66, 76, 86, 68]⟩, ⟨[67, 73, 82, 67, 76, 69], [67, 73, 82]⟩, ⟨[67, 79, 85, 82, 84], [67, 84]⟩, ⟨[68, 82, 73, 86, 69], [68, 82]⟩, ⟨[69, 88, 80, 82, 69, 83, 83, 87, 65, 89], [69, 88, 80, 89]⟩, ⟨[72, 73, 71, 72, 87, 65, 89], [72, 87, 89]⟩, ⟨[76, 65, 78, 69], [76, 78]⟩, ⟨[76, 79, 79, 80], [76, 79, 79, 80]⟩, ⟨[80, 65, 82, 75, 87, 65, 89], [80, 75, 87, 89]⟩, ⟨[80, 76, 65, 67, 69], [80, 76]⟩, ⟨[80, 76, 65, 90, 65], [80, 76, 90]⟩, ⟨[82, 79, 65, 68], [82, 68]⟩, ⟨[82, 79, 87], [82, 79, 87]⟩, ⟨[83, 81, 85, 65, 82, 69], [83, 81]⟩, ⟨[83, 84, 82, 69, 69, 84], [83, 84]⟩, ⟨[84, 69, 82, 82, 65, 67, 69], [84, 69, 82]⟩, ⟨[84, 82, 65, 73, 76], [84, 82, 76]⟩, ⟨[87, 65, 89], [87, 65, 89]⟩]
def dirW : List Wp := [⟨[69, 65, 83, 84], [69]⟩, ⟨[78, 79, 82, 84, 72], [78]⟩, ⟨[78, 79, 82, 84, 72, 69, 65, 83, 84], [78, 69]⟩, ⟨[78, 79, 82, 84, 72, 87, 69, 83, 84], [78, 87]⟩, ⟨[83, 79, 85, 84, 72], [83]⟩, ⟨[83, 79, 85, 84, 72, 69, 65, 83, 84], [83, 69]⟩, ⟨[83, 79, 85, 84, 72, 87, 69, 83, 84], [83, 87]⟩, ⟨[87, 69, 83, 84], [87]⟩]
def staW : List Wp := [⟨[65, 76, 65, 66, 65, 77, 65], [65, 76]⟩, ⟨[65, 76, 65, 83, 75, 65], [65, 75]⟩, ⟨[65, 82, 73, 90, 79, 78, 65], [65, 90]⟩, ⟨[65, 82, 75, 65, 78, 83, 65, 83], [65, 82]⟩, ⟨[67, 65, 76, 73, 70, 79, 82, 78, 73, 65], [67, 65]⟩, ⟨[67, 79, 76, 79, 82, 65, 68, 79], [67, 79]⟩, ⟨[67, 79, 78, 78, 69, 67, 84, 73, 67, 85, 84], [67, 84]⟩, ⟨[68, 69, 76, 65, 87, 65, 82, 69], [68, 69]⟩, ⟨[68, 73, 83, 84, 82, 73, 67, 84, 32, 79, 70, 32, 67, 79, 76, 85, 77, 66, 73, 65], [68, 67]⟩, ⟨[70, 76, 79, 82, 73, 68, 65], [70, 76]⟩, ⟨[71, 69, 79, 82, 71, 73, 65], [71, 65]⟩, ⟨[72, 65, 87, 65, 73, 73], [72, 73]⟩, ⟨[73, 68, 65, 72, 79], [73, 68]⟩, ⟨[73, 76, 76, 73, 78, 79, 73, 83], [73, 76]⟩, ⟨[73, 78, 68, 73, 65, 78, 65], [73, 78]⟩, ⟨[73, 79, 87, 65], [73, 65]⟩, ⟨[75, 65, 78, 83, 65, 83], [75, 83]⟩, ⟨[75, 69, 78, 84, 85, 67, 75, 89], [75, 89]⟩, ⟨[76, 79, 85, 73, 83, 73, 65, 78, 65], [76, 65]⟩, ⟨[77, 65, 73, 78, 69], [77, 69]⟩, ⟨[77, 65, 82, 89, 76, 65, 78, 68], [77, 68]⟩, ⟨[77, 65, 83, 83, 65, 67, 72, 85, 83, 69, 84, 84, 83], [77, 65]⟩, ⟨[77, 73, 67, 72, 73, 71, 65, 78], [77, 73]⟩, ⟨[77, 73, 78, 78, 69, 83, 79, 84, 65], [77, 78]⟩, ⟨[77, 73, 83, 83, 73, 83, 83, 73, 80, 80, 73], [77, 83]⟩, ⟨[77, 73, 83, 83, 79, 85, 82, 73], [77, 79]⟩, ⟨[77, 79, 78, 84, 65, 78, 65], [77, 84]⟩, ⟨[78, 69, 66, 82, 65, 83, 75, 65], [78, 69]⟩, ⟨[78, 69, 86, 65, 68, 65], [78, 86]⟩, ⟨[78, 69, 87, 32, 72, 65, 77, 80, 83, 72, 73, 82, 69], [78, 72]⟩, ⟨[78, 69, 87, 32, 74, 69, 82, 83, 69, 89], [78, 74]⟩, ⟨[78, 69, 87, 32, 77, 69, 88, 73, 67, 79], [78, 77]⟩, ⟨[78, 69, 87, 32, 89, 79, 82, 75], [78, 89]⟩, ⟨[78, 79, 82, 84, 72, 32, 67, 65, 82, 79, 76, 73, 78, 65], [78, 67]⟩, ⟨[78, 79, 82, 84, 72, 32, 68, 65, 75, 79, 84, 65], [78, 68]⟩, ⟨[79, 72, 73, 79], [79, 72]⟩, ⟨[79, 75, 76, 65, 72, 79, 77, 65], [79, 75]⟩, ⟨[79, 82, 69, 71, 79, 78], [79, 82]⟩, ⟨[80, 69, 78, 78, 83, 89, 76, 86, 65, 78, 73, 65], [80, 65]⟩, ⟨[82, 72, 79, 68, 69, 32, 73, 83, 76, 65, 78, 68], [82, 73]⟩, ⟨[83, 79, 85, 84, 72, 32, 67, 65, 82, 79, 76, 73, 78, 65], [83, 67]⟩, ⟨[83, 79, 85, 84, 72, 32, 68, 65, 75, 79, 84, 65], [83, 68]⟩, ⟨[84, 69, 78, 78, 69, 83, 83, 69, 69], [84, 78]⟩, ⟨[84, 69, 88, 65, 83], [84, 88]⟩, ⟨[85, 84, 65, 72], [85, 84]⟩, ⟨[86, 69, 82, 77, 79, 78, 84], [86, 84]⟩, ⟨[86, 73, 82, 71, 73, 78, 73, 65], [86, 65]⟩, ⟨[87, 65, 83, 72, 73, 78, 71, 84, 79, 78], [87, 65]⟩, ⟨[87, 69, 83, 84, 32, 86, 73, 82, 71, 73, 78, 73, 65], [87, 86]⟩, ⟨[87, 73, 83, 67, 79, 78, 83, 73, 78], [87, 73]⟩, ⟨[87, 89, 79, 77, 73, 78, 71], [87, 89]⟩]
def uniW : List Wp := [⟨[65, 80, 65, 82, 84, 77, 69, 78, 84], [65, 80, 84]⟩, ⟨[66, 85, 73, 76, 68, 73, 78, 71], [66, 76, 68, 71]⟩, ⟨[70, 76, 79, 79, 82], [70, 76]⟩, ⟨[82, 79, 79, 77], [82, 77]⟩, ⟨[83, 85, 73, 84, 69], [83, 84, 69]⟩, ⟨[85, 78, 73, 84], [85, 78, 73, 84]⟩]
def wordsP (kind : Int) : List Wp := if kind = 1 then sufW else if kind = 2 then dirW else if kind = 3 then staW else if kind = 4 then uniW else []
def shortP (kind : Int) (w : Bs) : Bs × Bool := match (wordsP kind).reverse.find? fun p => p.l == w || p.s == w with | some p => (p.s, true) | none => ([], false)
def shortT (t : Tok) (kind : Int) : Bs := (shortP kind t.t).1
/-- The texts of tokens, a blank between each two. -/
def textsP : List Tok → Bs
  | [] => []
  | [t] => t.t
  | t :: u :: l => t.t ++ 32 :: textsP (u :: l)
def unitP (l : List Tok) : Bs × Bool :=
  match l with
  | [a, b] => if b.k = 5 ∨ b.k = 4 then ([], false) else if a.k = 5 then (35 :: b.t, true) else (shortT a 4 ++ 32 :: b.t, shortT a 4 != [])
  | _ => ([], false)
def backP (l : List Tok) (kind : Int) : List Tok × Bs :=
  if 2 ≤ l.length ∧ shortT (l.getLastD ⟨0, []⟩) kind ≠ [] then (l.dropLast, shortT (l.getLastD ⟨0, []⟩) kind) else (l, [])
def frontP (l : List Tok) (kind : Int) : List Tok × Bs :=
  if 2 ≤ l.length ∧ shortT (l.headD ⟨0, []⟩) kind ≠ [] then (l.tail, shortT (l.headD ⟨0, []⟩) kind) else (l, [])
/-- An address. -/
structure Ad where
  n : Int
  half : Bool
  pre : Bs
  name : Bs
  suf : Bs
  post : Bs
  unit : Bs
  city : Bs
  state : Bs
  zip : Bs
  more : Bs
deriving DecidableEq
def Ad.zero : Ad := ⟨0, false, [], [], [], [], [], [], [], [], []⟩
def halfT : Tok := ⟨3, [49, 47, 50]⟩
/-- A street read behind its number: what it is; the tokens of its name; those of its unit. -/
def streetP (l0 : List Tok) (inner : Bool) : Ad × List Tok × Option (List Tok) :=
  let half := l0.head? == some halfT
  let l1 := if half then l0.tail else l0
  let n := l1.length - 2
  let isU := inner && decide (2 < l1.length) && (unitP (l1.drop n)).2
  let l2 := if isU then l1.take n else l1
  let b1 := backP l2 2
  let b2 := backP b1.1 1
  let b3 := frontP b2.1 2
  (⟨0, half, b3.2, textsP b3.1, b2.2, b1.2, if isU then (unitP (l1.drop n)).1 else [], [], [], [], []⟩, b3.1, if isU then some (l1.drop n) else none)
def digitsP (s : Bs) (lo hi : Nat) : Bool := decide (lo ≤ s.length ∧ s.length ≤ hi) && s.all digB
def numP (s : Bs) : Int := s.foldl (fun n c => 10 * n + (c.toNat - 48 : Int)) 0
def partsP : List Tok → List (List Tok)
  | [] => [[]]
  | t :: l => if t.k = 4 then [] :: partsP l else match partsP l with | [] => [[t]] | p :: r => (t :: p) :: r
def cutDash : Bs → Bs × Bs × Bool
  | [] => ([], [], false)
  | c :: s => if c = 45 then ([], s, true) else let r := cutDash s; (c :: r.1, r.2.1, r.2.2)
def kindOf (l : List Tok) (ks : List Int) : Bool := l.all fun t => ks.contains t.k
def errA (e at_ : Int) : Ad × Int × Int := (Ad.zero, e, at_)
def parsePts (p : List (List Tok)) (last : Nat) : Ad × Int × Int :=
  if ¬ (last = 2 ∨ last = 3) ∨ p.any (fun x => x.isEmpty) then errA 270 0 else
  let p0 := p.getD 0 []
  let num := (p0.headD ⟨0, []⟩).t
  if ¬ (digitsP num 1 6 = true ∧ 0 < numP num) then errA 271 0 else
  let st := streetP p0.tail (decide (last = 2))
  let p1 := p.getD 1 []
  if last = 3 ∧ (unitP p1).2 = false then errA 272 1 else
  let inT := if last = 3 then some p1 else st.2.2
  if inT.any (fun l => decide (10 < ((l.getD 1 ⟨0, []⟩).t).length)) then errA 272 (last - 2) else
  let name := st.2.1
  if ¬ (0 < name.length ∧ name.length ≤ 8 ∧ kindOf name [1, 2, 3] = true ∧ st.1.name.length ≤ 40) then errA 273 0 else
  let city := p.getD (last - 1) []
  if ¬ (kindOf city [1] = true ∧ city.length ≤ 8 ∧ (textsP city).length ≤ 40) then errA 274 (last - 1) else
  let place := p.getD last []
  let z := cutDash (place.getLastD ⟨0, []⟩).t
  if ¬ (digitsP z.1 5 5 = true ∧ (z.2.2 = false ∨ digitsP z.2.1 4 4 = true)) then errA 276 last else
  let sh := shortP 3 (textsP place.dropLast)
  if sh.2 = false then errA 275 last else
  (⟨numP num, st.1.half, st.1.pre, st.1.name, st.1.suf, st.1.post, if last = 3 then (unitP p1).1 else st.1.unit, textsP city, sh.1, z.1, z.2.1⟩, 0, 0)
def parseP (s : Bs) : Ad × Int × Int :=
  let r := tokensP s
  if r.2.1 ≠ 0 then (Ad.zero, r.2) else parsePts (partsP r.1) ((partsP r.1).length - 1)
def aheadP (s : Bs) : Bs := if s = [] then [] else 32 :: s
def lineP (a : Ad) : Bs := (if a.half then [32, 49, 47, 50] else []) ++ aheadP a.pre ++ aheadP a.name ++ aheadP a.suf ++ aheadP a.post
def ownP (kind : Int) (s : Bs) : Bool := (shortP kind s).1 == s
def namedP (s : Bs) (ks : List Int) : Bool :=
  let r := tokensP s
  r.2.1 == 0 && decide (0 < r.1.length) && decide (r.1.length ≤ 8) && kindOf r.1 ks && textsP r.1 == s && decide (s.length ≤ 40)
def housedP (s : Bs) : Bool :=
  s == [] || (let l := (tokensP s).1; (unitP l).2 && (unitP l).1 == s && decide ((l.getD 1 ⟨0, []⟩).t.length ≤ 10))
def Ad.street (a : Ad) : Ad := ⟨0, a.half, a.pre, a.name, a.suf, a.post, [], [], [], [], []⟩
def checkP (a : Ad) : Int :=
  let f1 := decide (1 ≤ a.n) && decide (a.n ≤ 999999) && namedP a.name [1, 2, 3] && namedP a.city [1]
  let f2 := f1 && ownP 2 a.pre && ownP 2 a.post && ownP 1 a.suf && a.state != [] && ownP 3 a.state
  let f3 := f2 && housedP a.unit && digitsP a.zip 5 5 && (a.more == [] || digitsP a.more 4 4)
  if f3 = false then 2 else
  let r := tokensP (lineP a)
  if r.2.1 ≠ 0 ∨ (streetP r.1 (a.unit == [])).1 ≠ a.street then 2 else 0
noncomputable def textA (a : Ad) : Bs × Int :=
  if checkP a ≠ 0 then ([], checkP a) else
  (Lib.itoa a.n ++ lineP a ++ (if a.unit = [] then [] else 44 :: 32 :: a.unit) ++ [44, 32] ++ a.city ++ [44, 32] ++ a.state ++ 32 :: a.zip ++ (if a.more = [] then [] else 45 :: a.more), 0)
noncomputable def normalP (s : Bs) : Bs × Int × Int := if (parseP s).2.1 ≠ 0 then ([], (parseP s).2) else ((textA (parseP s).1).1, 0, 0)
end Go.Proofs.YtjneghncmgjkeaaGreatDoor

set_option linter.unusedVariables false
namespace Go.Proofs.YtjneghncmgjkeaaGreatDoor
open Go.RowKit

def digsL : Bs := [48, 49, 50, 51, 52, 53, 54, 55, 56, 57]
theorem digs_mem (c : UInt8) : digsL.contains c = digB c := by
  unfold digB digsL
  rw [Bool.eq_iff_iff, List.contains_iff_mem, decide_eq_true_eq]
  constructor
  · intro h
    simp only [List.mem_cons, List.not_mem_nil, or_false] at h
    rcases h with rfl | rfl | rfl | rfl | rfl | rfl | rfl | rfl | rfl | rfl <;> decide
  · intro ⟨h1, h2⟩
    have e : c = UInt8.ofNat c.toNat := by simp
    rw [e]
    have : c.toNat = 48 ∨ c.toNat = 49 ∨ c.toNat = 50 ∨ c.toNat = 51 ∨ c.toNat = 52 ∨ c.toNat = 53 ∨ c.toNat = 54 ∨ c.toNat = 55 ∨ c.toNat = 56 ∨ c.toNat = 57 := by omega
    rcases this with h | h | h | h | h | h | h | h | h | h <;> rw [h] <;> decide
theorem dropW_nil {p : UInt8 → Bool} : ∀ {l : Bs}, l.dropWhile p = [] ↔ l.all p = true
  | [] => by simp
  | c :: l => by
    rw [List.dropWhile_cons, List.all_cons]
    cases h : p c with
    | true => simp only [if_true, Bool.true_and]; exact dropW_nil
    | false => simp
theorem trimS_nil (s : Bs) : Lib.trimS s digsL = [] ↔ s.all digB = true := by
  have hp : (fun c => digsL.contains c) = digB := funext digs_mem
  unfold Lib.trimS Lib.trimLeftS Lib.trimRightS
  rw [hp, dropW_nil, List.all_reverse]
  constructor
  · intro h
    -- what is left behind the trailing digits are digits: all are
    have key : ∀ l : Bs, (l.dropWhile digB).all digB = true → l.all digB = true := by
      intro l
      induction l with
      | nil => intro _; rfl
      | cons c l ih =>
        intro h
        rw [List.dropWhile_cons] at h
        cases hc : digB c with
        | true => rw [hc] at h; simp only [if_true] at h; rw [List.all_cons, hc, ih h]; rfl
        | false => rw [hc] at h; simp [hc] at h
    have := key s.reverse h
    rwa [List.all_reverse] at this
  · intro h
    have : s.reverse.all digB = true := by rw [List.all_reverse]; exact h
    rw [dropW_nil.2 this]
    rfl
theorem trim_any (s : Bs) (W : World) (hs : s.length ≤ 100000) :
    Calls Tryz.prog 69 #[.string ⟨s.toArray⟩, .string ⟨#[48, 49, 50, 51, 52, 53, 54, 55, 56, 57]⟩] W fun e w' => (∃ r : Bs, e = .returned (.string ⟨r.toArray⟩) ∧ (r = [] ↔ s.all digB = true)) ∧ Ext W w' := by
  refine (Any.strings_Trim_laid Tryz.lays160 (by kernel_rfl) ⟨s.toArray⟩ ⟨#[48, 49, 50, 51, 52, 53, 54, 55, 56, 57]⟩ W (by show s.toArray.size ≤ _; simp; omega) (by decide) (ascii_of_all (by decide))).mono ?_
  rintro e w' ⟨rfl, hx⟩
  refine ⟨⟨_, rfl, ?_⟩, hx⟩
  exact trimS_nil s
end Go.Proofs.YtjneghncmgjkeaaGreatDoor

set_option linter.unusedVariables false
namespace Go.Proofs.YtjneghncmgjkeaaGreatDoor

theorem beginS_le {s : Bs} {n : Nat} (h : n < (toksOf s).length) : beginS s 0 (toksOf s) n ≤ s.length := by
  obtain ⟨_, ha, hn⟩ := toksOf_ok s
  rw [beginS_adv s _ n 0 (by omega)]
  have e : (toksOf s).take (n + 1) = (toksOf s).take n ++ [(toksOf s)[n]] := List.take_succ_eq_append_getElem h
  have h2 : advS s 0 ((toksOf s).take (n + 1)) ≤ advS s 0 (toksOf s) := by
    have := advS_app s ((toksOf s).take (n + 1)) ((toksOf s).drop (n + 1)) 0
    rw [List.take_append_drop] at this
    rw [this]
    exact advS_mono s _ _
  rw [e, advS_app] at h2
  simp only [advS] at h2
  have h3 : 1 ≤ ((toksOf s)[n]).t.length := by
    have := (hn _ (List.getElem_mem h)).1
    cases ht : ((toksOf s)[n]).t with
    | nil => exact absurd ht this
    | cons c r => simp
  omega
/-- What is known of tokens that were read. -/
structure TokensOk (s : Bs) (r : List Tok × Int × Int) : Prop where
  up : ∀ t ∈ r.1, t.t ≠ [] ∧ upS t.t = t.t
  len : r.1.length ≤ s.length
  at0 : 0 ≤ r.2.2
  at1 : r.2.2 ≤ s.length
  l40 : r.1.length ≤ 40
theorem tokensP_ok (s : Bs) : TokensOk s (tokensP s) := by
  unfold tokensP
  split
  · exact ⟨by simp, by simp, by simp, by simp, by simp⟩
  · split
    · rename_i i hb
      refine ⟨by simp, by simp, by simp, ?_, by simp⟩
      unfold badAt at hb
      have := (List.findIdx?_eq_some_iff_getElem.1 hb).1
      show (i : Int) ≤ _
      omega
    · split
      · rename_i h
        refine ⟨by simp, by simp, by simp, ?_, by simp⟩
        have := beginS_le h
        show (beginS s 0 (toksOf s) 40 : Int) ≤ _
        omega
      · rename_i h
        obtain ⟨a, _, c⟩ := toksOf_ok s
        exact ⟨c, a, by simp, by simp, by show (toksOf s).length ≤ 40; omega⟩
/-- The words of a kind: their short forms are short, in capitals, and short forms of themselves. -/
def wordsFine (k : Int) (n : Nat) : Bool := (wordsP k).all fun p => upS p.s == p.s && decide (p.s.length ≤ n) && shortP k p.s == (p.s, true) && p.s != []
theorem words_fine : wordsFine 1 4 = true ∧ wordsFine 2 2 = true ∧ wordsFine 3 2 = true ∧ wordsFine 4 4 = true := by decide +kernel
theorem states_two : (wordsP 3).all (fun p => decide (p.s.length = 2)) = true := by decide +kernel
theorem shortP_mem {k : Int} {w : Bs} (h : (shortP k w).2 = true) : ∃ p ∈ wordsP k, (shortP k w).1 = p.s := by
  unfold shortP at h ⊢
  cases hf : (wordsP k).reverse.find? fun p => p.l == w || p.s == w with
  | none => rw [hf] at h; cases h
  | some p => exact ⟨p, by simpa using List.mem_of_find?_eq_some hf, rfl⟩
theorem shortP_none {k : Int} {w : Bs} (h : (shortP k w).2 = false) : (shortP k w).1 = [] := by
  unfold shortP at h ⊢
  cases hf : (wordsP k).reverse.find? fun p => p.l == w || p.s == w with
  | none => rfl
  | some p => rw [hf] at h; cases h
/-- A short form, or none. -/
structure ShortOk (k : Int) (n : Nat) (x : Bs) : Prop where
  up : upS x = x
  len : x.length ≤ n
  own : (shortP k x).1 = x
theorem shortP_ok {k : Int} {n : Nat} (hf : wordsFine k n = true) (h0 : (shortP k []).1 = []) (w : Bs) : ShortOk k n (shortP k w).1 := by
  cases h : (shortP k w).2 with
  | false => rw [shortP_none h]; exact ⟨rfl, by simp, h0⟩
  | true =>
    obtain ⟨p, hp, e⟩ := shortP_mem h
    have := List.all_eq_true.1 hf p hp
    simp only [Bool.and_eq_true, beq_iff_eq, decide_eq_true_eq] at this
    rw [e]
    exact ⟨this.1.1.1, this.1.1.2, by rw [this.1.2]⟩
theorem short0 : (shortP 1 []).1 = [] ∧ (shortP 2 []).1 = [] ∧ (shortP 3 []).1 = [] ∧ (shortP 4 []).1 = [] := by decide +kernel
theorem textsP_up : ∀ {l : List Tok}, (∀ t ∈ l, upS t.t = t.t) → upS (textsP l) = textsP l
  | [], _ => rfl
  | [t], h => h t (by simp)
  | t :: u :: l, h => by
    have ih := textsP_up (l := u :: l) fun x hx => h x (by simp [hx])
    have ht := h t (by simp)
    unfold upS at *
    simp only [textsP, List.map_append, List.map_cons]
    rw [ih, ht]
    rfl
theorem partsP_mem : ∀ {l : List Tok} {p : List Tok} {t : Tok}, p ∈ partsP l → t ∈ p → t ∈ l ∧ t.k ≠ 4
  | [], p, t, hp, ht => by
    simp [partsP] at hp
    subst hp
    cases ht
  | x :: l, p, t, hp, ht => by
    unfold partsP at hp
    by_cases hx : x.k = 4
    · rw [if_pos hx] at hp
      rcases List.mem_cons.1 hp with rfl | hp
      · cases ht
      · have := partsP_mem hp ht
        exact ⟨List.mem_cons_of_mem _ this.1, this.2⟩
    · rw [if_neg hx] at hp
      cases hq : partsP l with
      | nil =>
        rw [hq] at hp
        simp at hp
        subst hp
        rcases List.mem_singleton.1 ht with rfl
        exact ⟨by simp, hx⟩
      | cons q r =>
        rw [hq] at hp
        simp only at hp
        rcases List.mem_cons.1 hp with rfl | hp
        · rcases List.mem_cons.1 ht with rfl | ht
          · exact ⟨by simp, hx⟩
          · have := partsP_mem (l := l) (p := q) (by rw [hq]; simp) ht
            exact ⟨List.mem_cons_of_mem _ this.1, this.2⟩
        · have := partsP_mem (l := l) (p := p) (by rw [hq]; simp [hp]) ht
          exact ⟨List.mem_cons_of_mem _ this.1, this.2⟩
theorem numP_bd : ∀ (s : Bs) (n : Int), s.all digB = true → 0 ≤ n → 0 ≤ s.foldl (fun n c => 10 * n + (c.toNat - 48 : Int)) n ∧ s.foldl (fun n c => 10 * n + (c.toNat - 48 : Int)) n ≤ (n + 1) * 10 ^ s.length - 1
  | [], n, _, h => by simp; omega
  | c :: s, n, hd, h => by
    simp only [List.all_cons, Bool.and_eq_true] at hd
    have hc : 48 ≤ c.toNat ∧ c.toNat ≤ 57 := by simpa [digB] using hd.1
    obtain ⟨a, b⟩ := numP_bd s (10 * n + (c.toNat - 48 : Int)) hd.2 (by omega)
    rw [List.foldl_cons, List.length_cons]
    refine ⟨a, Int.le_trans b ?_⟩
    have hp : (0 : Int) ≤ 10 ^ s.length := Int.pow_nonneg (by decide)
    have h1 : (10 * n + (c.toNat - 48 : Int) + 1) * 10 ^ s.length ≤ (10 * (n + 1)) * 10 ^ s.length := Int.mul_le_mul_of_nonneg_right (by omega) hp
    have h2 : (10 * (n + 1)) * (10 : Int) ^ s.length = (n + 1) * 10 ^ (s.length + 1) := by
      rw [Int.pow_succ, Int.mul_comm 10 (n + 1), Int.mul_assoc, Int.mul_comm 10]
    omega
theorem numP_le {s : Bs} (h : digitsP s 1 6 = true) : 0 ≤ numP s ∧ numP s ≤ 999999 := by
  unfold digitsP at h
  rw [Bool.and_eq_true, decide_eq_true_eq] at h
  obtain ⟨a, b⟩ := numP_bd s 0 h.2 (by omega)
  refine ⟨a, Int.le_trans b ?_⟩
  have : (10 : Int) ^ s.length ≤ 10 ^ 6 := by
    rcases (show s.length = 1 ∨ s.length = 2 ∨ s.length = 3 ∨ s.length = 4 ∨ s.length = 5 ∨ s.length = 6 by omega) with e | e | e | e | e | e <;> rw [e] <;> decide
  omega
end Go.Proofs.YtjneghncmgjkeaaGreatDoor
