/- Walks through the law of chapter 05: AutoWords. Conditions: none. -/
import Derived.Test.YtjclbjdkkdijbaaGreatAuZy
import Derived.Test.YtjclbjdkkdijbaaGreatAuZz
set_option linter.unusedVariables false
set_option linter.unusedSimpArgs false
set_option linter.unusedSectionVars false
open Go.RowKit
namespace Go.Proofs.YtjclbjdkkdijbaaGreat
open L
namespace Law
open Aut Auto R01 Rgx
attribute [-go_sem] sliced
set_option maxRecDepth 100000 in
set_option maxHeartbeats 16000000 in
theorem AutoWords_calls {w:World} {v v2:Value} {xs ys:List Int} {at_ how by_ stt:Int} (hx:∀ x∈xs,IsI64 x) (hl:SL w 1 v xs.length (ints xs)) (hy:∀ x∈ys,IsI64 x) (hl2:SL w 1 v2 ys.length (ints ys)) (h1:IsI64 at_) (h2:IsI64 how) (h3:IsI64 by_) (h4:IsI64 stt):Calls Tryz.prog 4 #[v,v2,.int .i64 at_,.int .i64 how,.int .i64 by_,.int .i64 stt] w fun e w'=>e=.returned (.bool true)∧Upd [] w w':=by
 have H0:=Lib.hid (And.intro hx (And.intro hl (And.intro hy (And.intro hl2 (And.intro h1 (And.intro h2 (And.intro h3 h4)))))))
 exact (wz w v v2 xs ys at_ how by_ stt H0).2 ((wzo w v v2 xs ys at_ how by_ stt H0).2 ((wzof w v v2 xs ys at_ how by_ stt H0).2 (wzofk w v v2 xs ys at_ how by_ stt H0) (wzofl w v v2 xs ys at_ how by_ stt H0) (wzofh w v v2 xs ys at_ how by_ stt H0)) ((wzol w v v2 xs ys at_ how by_ stt H0).2 (wzolk w v v2 xs ys at_ how by_ stt H0) (wzoll w v v2 xs ys at_ how by_ stt H0) (wzolh w v v2 xs ys at_ how by_ stt H0)) ((wzoh w v v2 xs ys at_ how by_ stt H0).2 (wzohk w v v2 xs ys at_ how by_ stt H0) (wzohl w v v2 xs ys at_ how by_ stt H0) (wzohh w v v2 xs ys at_ how by_ stt H0))) ((wze w v v2 xs ys at_ how by_ stt H0).2 ((wzef w v v2 xs ys at_ how by_ stt H0).2 (wzefk w v v2 xs ys at_ how by_ stt H0) (wzefl w v v2 xs ys at_ how by_ stt H0) (wzefh w v v2 xs ys at_ how by_ stt H0)) ((wzel w v v2 xs ys at_ how by_ stt H0).2 (wzelk w v v2 xs ys at_ how by_ stt H0) (wzell w v v2 xs ys at_ how by_ stt H0) (wzelh w v v2 xs ys at_ how by_ stt H0)) ((wzeh w v v2 xs ys at_ how by_ stt H0).2 (wzehk w v v2 xs ys at_ how by_ stt H0) (wzehl w v v2 xs ys at_ how by_ stt H0) (wzehh w v v2 xs ys at_ how by_ stt H0)))
end Law
end Go.Proofs.YtjclbjdkkdijbaaGreat
