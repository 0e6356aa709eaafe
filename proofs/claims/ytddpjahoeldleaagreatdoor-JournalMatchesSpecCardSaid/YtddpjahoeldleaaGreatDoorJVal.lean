/- What Open gives: plain values. -/
import Derived.Test.YtddpjahoeldleaaGreatDoorJMem
import Derived.Test.YtddpjahoeldleaaGreatDoorRecs
namespace Go.Proofs.YtddpjahoeldleaaGreatDoor

/-- the sectors as Read gives them -/
def secsB (S : Dk.St) : List Bs := (List.range S.bl.length).map fun k : Nat => Dk.readB S (k : Int)
def partsB (S : Dk.St) : List PartV := (secsB S).map unpackB
def ovJ (o : OV) : JV := ⟨[], o.bad.map fun k : Nat => (k : Int), [], (o.next : Int), (o.fin : Int), false⟩
def addJ (J : JV) (l : List (Nat × Bs)) : JV := { J with nums := l.map fun x => (x.1 : Int), texts := l.map Prod.snd }
def openJ (S : Dk.St) : JV := addJ (ovJ (oFold (secsB S))) (foundL (partsB S))
end Go.Proofs.YtddpjahoeldleaaGreatDoor
