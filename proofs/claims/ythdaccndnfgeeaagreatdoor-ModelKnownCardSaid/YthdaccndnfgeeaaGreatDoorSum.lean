/- SHA-256 of bytes and a key's block, as the program goes. -/
import Derived.Test.YthdaccndnfgeeaaGreatDoorSha
namespace Go.Proofs.YthdaccndnfgeeaaGreatDoor.CM
open Go
def seedsX : List Nat := [0x6a09e667, 0xbb67ae85, 0x3c6ef372, 0xa54ff53a, 0x510e527f, 0x9b05688c, 0x1f83d9ab, 0x5be0cd19]
/-- So many passes. -/
noncomputable def overG (F : FK) (k : Nat) : List Nat → List Nat → List Nat :=
  Nat.rec (motive := fun _ => List Nat → List Nat → List Nat) (fun w _ => w) (fun _ ih w b => ih (passG F w (takeN 64 b)) (dropN 64 b)) k
def zeros (n : Nat) : Nat := Nat.mod (Nat.sub 119 (Nat.mod n 64)) 64
def endB (n s : Nat) : Nat := Nat.mod (Nat.shiftRight (Nat.mod (Nat.mul n 8) 18446744073709551616) s) 256
noncomputable def tailX (n : Nat) : List Nat := 128 :: appL (repL (zeros n) 0) [endB n 56, endB n 48, endB n 40, endB n 32, endB n 24, endB n 16, endB n 8, endB n 0]
noncomputable def outG (F : FK) (ws : List Nat) : List Nat := List.rec (motive := fun _ => List Nat) [] (fun w _ ih =>
  F (Nat.mod (Nat.shiftRight w 24) 256) fun a => F (Nat.mod (Nat.shiftRight w 16) 256) fun b => F (Nat.mod (Nat.shiftRight w 8) 256) fun c => F (Nat.mod (Nat.shiftRight w 0) 256) fun d => a :: b :: c :: d :: ih) ws
noncomputable def sumG (F : FK) (b : List Nat) : List Nat :=
  outG F (overG F (Nat.div (Nat.add (lenL b) (lenL (tailX (lenL b)))) 64) seedsX (appL b (tailX (lenL b))))
/-- A key's block, turned. -/
noncomputable def padG (F : FK) (key : List Nat) (w : Nat) : List Nat :=
  List.rec (motive := fun _ => List Nat) [] (fun x _ ih => F (Nat.mod (Nat.xor x w) 256) fun y => y :: ih) (appL key (repL (Nat.sub 64 (lenL key)) 0))
end Go.Proofs.YthdaccndnfgeeaaGreatDoor.CM
