/- Contracts and plain facts (L5). -/
import Derived.Test.YtkdpjaaohddppaaGreatDoorL
namespace Go.Proofs.YtkdpjaaohddppaaGreatDoor.Am
noncomputable section
/- WORDS OF A LINE: plain facts. -/
def wsp (c : UInt8) : Bool := c == 32 || c == 9
def word1 (w : List UInt8) : List (List UInt8) := if w = [] then [] else [w]
def wordsGo : List UInt8 → List UInt8 → List (List UInt8)
  | w,[] => word1 w
  | w,c :: r => if c = 35 then word1 w else if wsp c then word1 w ++ wordsGo [] r else wordsGo (w ++ [c]) r
def wordsL (s : List UInt8) : List (List UInt8) := wordsGo [] s
def ahead (s : List UInt8) : List UInt8 := s.takeWhile (fun c => c != 35)
end
end Go.Proofs.YtkdpjaaohddppaaGreatDoor.Am
