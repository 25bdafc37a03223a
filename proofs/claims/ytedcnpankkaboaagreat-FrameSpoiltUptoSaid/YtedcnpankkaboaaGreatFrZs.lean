/- The law lacquerlaw11.FrameSpoilt return true for every input whose bulk is at most 1048576, and leave it as it was. Conditions: none beyond the rows. -/
import Derived.Test.YtedcnpankkaboaaGreatLmH
import Derived.Test.YtedcnpankkaboaaGreatFrS
import Derived.Test.YtedcnpankkaboaaGreatFiY
import Derived.Test.YtedcnpankkaboaaGreatRows
import Derived.JoinedCond
import Derived.WalkKit
set_option linter.unusedVariables false
namespace Go.Proofs.YtedcnpankkaboaaGreat.Dg
section
open Go.ChangeShapes Go.WideShapes Go.ChangeAt Go.RowKit Go.WideMaps Go.WideElems Go.ChangeMaps Go.LM
theorem tOwn:ownKnob Tryz.prog.godebug=none:=by kernel_rfl
theorem tLaid:laidOutB Tryz.prog=true:=by kernel_rfl
theorem tSz:szP Tryz.prog=true:=by kernel_rfl
theorem isBulk {H:Type}:IsBulk (H:=H) Rows.uptoBulk Rows.uptoBulkAll where
 lit bs:=by simp only [Rows.uptoBulk]
 one d:=by
  cases d with
  |lit l=>cases l<;>simp [Rows.uptoBulk]
  |nil=>simp [Rows.uptoBulk]
  |ptr d=>simp [Rows.uptoBulk]
  |slice a b=>simp [Rows.uptoBulk]
  |agg l=>simp [Rows.uptoBulk]
  |iface a b=>simp [Rows.uptoBulk]
  |map l=>simp [Rows.uptoBulk]
  |held x=>simp [Rows.uptoBulk]
 slice e s:=by simp only [Rows.uptoBulk]
 agg l:=by simp only [Rows.uptoBulk]
 nil:=by simp only [Rows.uptoBulkAll]
 cons d l:=by simp only [Rows.uptoBulkAll]
theorem spoilt_good (d:DL [.str,.pr (.int .i64) (.pr (.int .i64) (.pr (.int .i64) (.pr (.int .i64) (.pr (.int .i64) (.pr (.int .i64) (.pr (.int .i64) (.pr (.int .i64) (.pr .str .un)))))))),.int .i64]) (h:okDs [.str,.pr (.int .i64) (.pr (.int .i64) (.pr (.int .i64) (.pr (.int .i64) (.pr (.int .i64) (.pr (.int .i64) (.pr (.int .i64) (.pr (.int .i64) (.pr .str .un)))))))),.int .i64] d) (hb:bulkDs [.str,.pr (.int .i64) (.pr (.int .i64) (.pr (.int .i64) (.pr (.int .i64) (.pr (.int .i64) (.pr (.int .i64) (.pr (.int .i64) (.pr (.int .i64) (.pr .str .un)))))))),.int .i64] d<=1048576):(LQ.lSpoilt d.1 d.2.1 d.2.2:Option Bool)=some true:=by
 obtain ⟨s,⟨i0,i1,i2,i3,rt,ch,w,i7,i8,u'⟩,at_⟩:=d
 have hb':(List.length (α:=UInt8) s+1)+((1+(1+(1+(1+(1+(1+(1+(1+((List.length (α:=UInt8) i8+1)+0)))))))))+1)<=1048576:=hb
 exact lSpoilt_law s i0 i1 i2 i3 rt ch w i7 at_ i8 (by omega)
set_option maxRecDepth 100000 in
theorem frameSpoilt_contract (H:Type) (enc:TypeId×Value->H) (W:World) (base:Nat) (args:Array Value) (ds gs:List (DataW H)) (before:List MemPlace)
  (hval:∀ (j:Nat) t v,Tryz.f5.params[j]?=some t->args[j]?=some v->Value.okWide Tryz.prog W .any base t v)
  (hW:DataW.Whole enc Tryz.prog Tryz.f5.params.toList Rows.frameSpoiltSpec.vars false W args.toList ds gs before) (hk:Rows.uptoSmall H (ds++gs)=true) :
  Calls Tryz.prog 5 args W fun e W'=>∃ v,e=.returned v/\Rows.frameSpoiltSpec.post enc Tryz.prog Tryz.f5 false true false false W args v W':=
 row_contract (B:=1048576) (ts:=[.str,.pr (.int .i64) (.pr (.int .i64) (.pr (.int .i64) (.pr (.int .i64) (.pr (.int .i64) (.pr (.int .i64) (.pr (.int .i64) (.pr (.int .i64) (.pr .str .un)))))))),.int .i64]) (g:=fun d=>LQ.lSpoilt d.1 d.2.1 d.2.2) isBulk tLaid tSz TD.lSpoilt_ok spoilt_good (by kernel_rfl) (by kernel_rfl) rfl Tryz.underlying4 rfl
  (fun ds h=>by match ds,h with | [d0,d1,d2],_=>rfl) hval hW (of_decide_eq_true hk)
set_option maxRecDepth 100000 in
theorem frameSpoilt_lifted (os:Os) (started:os.Started) (H:Type) (enc:TypeId×Value->H) (F:Stop.Interp) :
  ReturnsInHanded {} Tryz.checked os 5 .any ((Rows.OpenSpec.upto Rows.frameSpoiltSpec).pre6 enc Tryz.prog Tryz.f5 Rows.frameSpoiltUptoRow.domain false) (((Rows.OpenSpec.upto Rows.frameSpoiltSpec).at F).post enc Tryz.prog Tryz.f5 false true false false):=by
 refine returnsInHanded_of_cond (C:=Tryz.checked) (s:=Rows.OpenSpec.upto Rows.frameSpoiltSpec) (k:=Rows.uptoSmall) rfl tOwn started (by kernel_rfl) Tryz.func5
  (OpenSpec.witness (enc:=enc) (C:=Tryz.checked) (s:=Rows.OpenSpec.upto Rows.frameSpoiltSpec) (k:=Rows.uptoSmall) rfl false ⟨#[],#[.string ⟨#[]⟩,.agg #[.int .i64 0,.int .i64 0,.int .i64 0,.int .i64 0,.int .i64 0,.int .i64 0,.int .i64 0,.int .i64 0,.string ⟨#[]⟩],.int .i64 0],[]⟩ 8 (by kernel_rfl) (by kernel_rfl) (by kernel_rfl)
   (x:=([.lit (.string []),.agg [.lit (.int .i64 0),.lit (.int .i64 0),.lit (.int .i64 0),.lit (.int .i64 0),.lit (.int .i64 0),.lit (.int .i64 0),.lit (.int .i64 0),.lit (.int .i64 0),.lit (.string [])],.lit (.int .i64 0)],[],[])) (by kernel_rfl) rfl (by kernel_rfl)) ?_
 intro W base args ds gs before hval hW _ hk _
 exact frameSpoilt_contract H enc W base args ds gs before hval hW hk
theorem frameSpoilt_holds:Rows.FrameSpoiltUptoSaid:=
 OpenClaim.holds_of_cond 5 Tryz.f5 rfl rfl rfl rfl rfl rfl rfl ⟨rfl,rfl,rfl,rfl,rfl⟩ rfl rfl rfl rfl rfl (by kernel_rfl) Tryz.func5 (by kernel_rfl)
  (of_decide_eq_true (by kernel_rfl)) (by unfold Func.isWrapper;first|(rw [if_pos (by decide +kernel)];kernel_rfl)|(rw [if_neg (by decide +kernel)];exact ⟨rfl,rfl⟩))
  (fun os started H enc _ F=>frameSpoilt_lifted os started H enc F)
#print axioms frameSpoilt_holds
end
end Go.Proofs.YtedcnpankkaboaaGreat.Dg
