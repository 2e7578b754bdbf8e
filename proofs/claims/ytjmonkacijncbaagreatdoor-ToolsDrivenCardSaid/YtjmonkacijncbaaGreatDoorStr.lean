/- Strings as lists of bytes; strings.HasPrefix at a string that begins so. Plain theorems. -/
import Derived.Test.YtjmonkacijncbaaGreatDoorRows
import Derived.Test.YtjmonkacijncbaaGreatDoorMem
import Derived.WalkKit
import Derived.WalkSpells
import Derived.Laws.Concat
import Derived.Lib.SlBytesConst
namespace Go.Proofs.YtjmonkacijncbaaGreatDoor
open Go.RowKit
set_option linter.unusedVariables false

def str (l : List UInt8) : ByteArray := ⟨l.toArray⟩
theorem str_size (l : List UInt8) : (str l).size = l.length := by simp [str, ByteArray.size]
theorem str_append (a b : List UInt8) : str a ++ str b = str (a ++ b) := ByteArray.mk_append_mk a b
theorem str_inj {a b : List UInt8} (h : str a = str b) : a = b := by
  have := congrArg (fun x : ByteArray => x.data.toList) h
  simpa [str] using this
theorem str_data (s : ByteArray) : str s.data.toList = s := by simp [str]
/-- 'string(b)' of bytes that are read. -/
theorem conv_str' {P : Program} {w : World} {src dst e : TypeId} (hs : P.underlying src = some (.slice e)) (he : P.underlying e = some (.int .u8)) (hd : P.underlying dst = some .string)
    {A : Option Addr} {n B : Nat} {bs : List UInt8} (h : Reads w B 1 A n (bytesV bs)) (c : Nat) : (convert src dst (.slice A n c)).run P w = .ok (.string (str bs)) w := conv_str hs he hd h c
end Go.Proofs.YtjmonkacijncbaaGreatDoor
