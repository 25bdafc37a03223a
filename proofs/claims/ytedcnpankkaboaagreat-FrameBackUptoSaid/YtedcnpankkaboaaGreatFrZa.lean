/- The law lacquerlaw11.FrameBack return true for every input whose bulk is at most 1048576, and leave it as it was. Conditions: none beyond the rows. -/
import Derived.Test.YtedcnpankkaboaaGreatLmH
import Derived.Test.YtedcnpankkaboaaGreatFrS
import Derived.Test.YtedcnpankkaboaaGreatFhX
import Derived.Test.YtedcnpankkaboaaGreatRows
import Derived.JoinedCond
import Derived.WalkKit
set_option linter.unusedVariables false
namespace Go.Proofs.YtedcnpankkaboaaGreat.Dg
section
open Go.ChangeShapes Go.WideShapes Go.ChangeAt Go.RowKit Go.WideMaps Go.WideElems Go.ChangeMaps Go.LM
theorem tOwn:ownKnob Tryz.prog.godebug=none:=by kernel_rfl
theorem tLaid:laidOutB Tryz.prog=true:=by kernel_rfl
theorem tSz:szP Tryz.prog=true:=by kernel_rfl
theorem isBulk {H:Type}:IsBulk (H:=H) Rows.uptoBulk Rows.uptoBulkAll where
 lit bs:=by simp only [Rows.uptoBulk]
 one d:=by
  cases d with
  |lit l=>cases l<;>simp [Rows.uptoBulk]
  |nil=>simp [Rows.uptoBulk]
  |ptr d=>simp [Rows.uptoBulk]
  |slice a b=>simp [Rows.uptoBulk]
  |agg l=>simp [Rows.uptoBulk]
  |iface a b=>simp [Rows.uptoBulk]
  |map l=>simp [Rows.uptoBulk]
  |held x=>simp [Rows.uptoBulk]
 slice e s:=by simp only [Rows.uptoBulk]
 agg l:=by simp only [Rows.uptoBulk]
 nil:=by simp only [Rows.uptoBulkAll]
 cons d l:=by simp only [Rows.uptoBulkAll]
theorem sum_len {α:Type} (f:α->Nat) (hf:∀ x,1<=f x):∀ (l:List α),l.length<=(l.map f).sum
 | []=>Nat.le_refl _
 |x::l=>by
  have h1:=sum_len f hf l
  have h2:=hf x
  simp only [List.map_cons,List.sum_cons,List.length_cons];omega
theorem sum_mem {α:Type} (f:α->Nat):∀ (l:List α) (x:α),x∈l->f x<=(l.map f).sum
 |y::l,x,h=>by
  simp only [List.map_cons,List.sum_cons]
  rcases List.mem_cons.1 h with rfl|h
  ·omega
  ·have:=sum_mem f l x h;omega
theorem sum_ones:∀ (l:List Int),(List.map (α:=(Ty.int .i64).D) (bulkD (.int .i64)) l).sum=l.length
 | []=>rfl
 |x::l=>by
  have:=sum_ones l
  simp only [List.map_cons,List.sum_cons,List.length_cons,bulkD] at this ⊢
  omega
theorem i64_ok {x:Int} (h:okD (.int .i64) x):-9223372036854775808<=x/\x<9223372036854775808:=by
 have h:(decide (IntKind.i64.min<=x)&&decide (x<=IntKind.i64.max))=true:=h
 simp only [Bool.and_eq_true,decide_eq_true_eq] at h
 have e1:IntKind.i64.min=-9223372036854775808:=by decide
 have e2:IntKind.i64.max=9223372036854775807:=by decide
 omega
theorem sub_in (d:SubD) (h:okD (.pr (.int .i64) (.pr (.int .i64) (.pr (.int .i64) (.pr (.int .i64) (.pr (.int .i64) (.pr (.sl (.int .i64)) (.pr (.pr (.int .i64) (.pr (.int .i64) (.pr (.sl (.int .i64)) (.pr (.sl (.int .i64)) .un)))) .un))))))) d) (hb:bulkD (.pr (.int .i64) (.pr (.int .i64) (.pr (.int .i64) (.pr (.int .i64) (.pr (.int .i64) (.pr (.sl (.int .i64)) (.pr (.pr (.int .i64) (.pr (.int .i64) (.pr (.sl (.int .i64)) (.pr (.sl (.int .i64)) .un)))) .un))))))) d<=1048576):SubIn d:=by
 obtain ⟨k,o,w,p,sf,cs,⟨m,ro,ps,es,u⟩,u2⟩:=d
 have hb':1+(1+(1+(1+(1+(((List.map (α:=(Ty.int .i64).D) (bulkD (.int .i64)) cs).sum+1)+((1+(1+(((List.map (α:=(Ty.int .i64).D) (bulkD (.int .i64)) ps).sum+1)+(((List.map (α:=(Ty.int .i64).D) (bulkD (.int .i64)) es).sum+1)+0))))+0))))))<=1048576:=hb
 rw [sum_ones,sum_ones,sum_ones] at hb'
 have hcs:∀ c∈cs,inR c:=fun c hc=>i64_ok (h.2.2.2.2.2.1.2 c hc)
 have hm:inR m:=i64_ok h.2.2.2.2.2.2.1.1
 exact ⟨hm,hcs,by show cs.length<=_;omega,by show ps.length<=_;omega,by show es.length<=_;omega⟩
theorem sub_bulk (d:SubD):1<=bulkD (.pr (.int .i64) (.pr (.int .i64) (.pr (.int .i64) (.pr (.int .i64) (.pr (.int .i64) (.pr (.sl (.int .i64)) (.pr (.pr (.int .i64) (.pr (.int .i64) (.pr (.sl (.int .i64)) (.pr (.sl (.int .i64)) .un)))) .un))))))) d:=by
 obtain ⟨k,o,w,p,sf,cs,⟨m,ro,ps,es,u⟩,u2⟩:=d
 show 1<=1+(1+(1+(1+(1+(((List.map (α:=(Ty.int .i64).D) (bulkD (.int .i64)) cs).sum+1)+((1+(1+(((List.map (α:=(Ty.int .i64).D) (bulkD (.int .i64)) ps).sum+1)+(((List.map (α:=(Ty.int .i64).D) (bulkD (.int .i64)) es).sum+1)+0))))+0))))))
 omega
theorem rows_ok (pl:List (List Int)) (h:okD (.sl (.sl (.int .i64))) pl) (hb:bulkD (.sl (.sl (.int .i64))) pl<=1048576):pl.length<=1048576/\∀ l∈pl,(∀ x∈l,inR x)/\l.length<=1048576:=by
 have hb:(List.map (α:=List Int) (bulkD (.sl (.int .i64))) pl).sum+1<=1048576:=hb
 have e:∀ l:List Int,bulkD (.sl (.int .i64)) l=l.length+1:=fun l=>by
  show (List.map (α:=(Ty.int .i64).D) (bulkD (.int .i64)) l).sum+1=_
  rw [sum_ones]
 have h1:=sum_len (bulkD (.sl (.int .i64))) (fun x=>by rw [e];omega) pl
 refine ⟨by omega,fun l hl=>⟨fun x hx=>i64_ok ((h.2 l hl).2 x hx),?_⟩⟩
 have:=sum_mem (bulkD (.sl (.int .i64))) pl l hl
 rw [e] at this;omega
theorem back_good (d:DL [.pr .bool (.pr (.int .i64) (.pr (.int .i64) (.pr (.int .i64) (.pr (.int .i64) (.pr (.int .i64) (.pr (.int .i64) (.pr (.sl (.pr (.int .i64) (.pr (.int .i64) (.pr (.int .i64) (.pr (.int .i64) (.pr (.int .i64) (.pr (.sl (.int .i64)) (.pr (.pr (.int .i64) (.pr (.int .i64) (.pr (.sl (.int .i64)) (.pr (.sl (.int .i64)) .un)))) .un)))))))) .un))))))),.pr (.int .i64) (.pr (.int .i64) (.pr (.int .i64) (.pr (.int .i64) (.pr (.int .i64) (.pr (.int .i64) (.pr (.int .i64) (.pr (.int .i64) (.pr .str .un)))))))),.sl (.sl (.int .i64))]) (h:okDs [.pr .bool (.pr (.int .i64) (.pr (.int .i64) (.pr (.int .i64) (.pr (.int .i64) (.pr (.int .i64) (.pr (.int .i64) (.pr (.sl (.pr (.int .i64) (.pr (.int .i64) (.pr (.int .i64) (.pr (.int .i64) (.pr (.int .i64) (.pr (.sl (.int .i64)) (.pr (.pr (.int .i64) (.pr (.int .i64) (.pr (.sl (.int .i64)) (.pr (.sl (.int .i64)) .un)))) .un)))))))) .un))))))),.pr (.int .i64) (.pr (.int .i64) (.pr (.int .i64) (.pr (.int .i64) (.pr (.int .i64) (.pr (.int .i64) (.pr (.int .i64) (.pr (.int .i64) (.pr .str .un)))))))),.sl (.sl (.int .i64))] d) (hb:bulkDs [.pr .bool (.pr (.int .i64) (.pr (.int .i64) (.pr (.int .i64) (.pr (.int .i64) (.pr (.int .i64) (.pr (.int .i64) (.pr (.sl (.pr (.int .i64) (.pr (.int .i64) (.pr (.int .i64) (.pr (.int .i64) (.pr (.int .i64) (.pr (.sl (.int .i64)) (.pr (.pr (.int .i64) (.pr (.int .i64) (.pr (.sl (.int .i64)) (.pr (.sl (.int .i64)) .un)))) .un)))))))) .un))))))),.pr (.int .i64) (.pr (.int .i64) (.pr (.int .i64) (.pr (.int .i64) (.pr (.int .i64) (.pr (.int .i64) (.pr (.int .i64) (.pr (.int .i64) (.pr .str .un)))))))),.sl (.sl (.int .i64))] d<=1048576):(LQ.lBack d.1 d.2.1 d.2.2:Option Bool)=some true:=by
 obtain ⟨⟨v,nm,sz,sc,rc,wc,md,subs,u⟩,⟨i0,i1,i2,i3,rt,ch,w,i7,i8,u'⟩,planes⟩:=d
 have hb':(1+(1+(1+(1+(1+(1+(1+(((List.map (α:=SubD) (bulkD (.pr (.int .i64) (.pr (.int .i64) (.pr (.int .i64) (.pr (.int .i64) (.pr (.int .i64) (.pr (.sl (.int .i64)) (.pr (.pr (.int .i64) (.pr (.int .i64) (.pr (.sl (.int .i64)) (.pr (.sl (.int .i64)) .un)))) .un)))))))) subs).sum+1)+0))))))))+((1+(1+(1+(1+(1+(1+(1+(1+((List.length (α:=UInt8) i8+1)+0)))))))))+bulkD (.sl (.sl (.int .i64))) planes)<=1048576:=hb
 have h1:=sum_len (α:=SubD) (bulkD (.pr (.int .i64) (.pr (.int .i64) (.pr (.int .i64) (.pr (.int .i64) (.pr (.int .i64) (.pr (.sl (.int .i64)) (.pr (.pr (.int .i64) (.pr (.int .i64) (.pr (.sl (.int .i64)) (.pr (.sl (.int .i64)) .un)))) .un)))))))) sub_bulk subs
 have hs:∀ d∈subs,okD (.pr (.int .i64) (.pr (.int .i64) (.pr (.int .i64) (.pr (.int .i64) (.pr (.int .i64) (.pr (.sl (.int .i64)) (.pr (.pr (.int .i64) (.pr (.int .i64) (.pr (.sl (.int .i64)) (.pr (.sl (.int .i64)) .un)))) .un))))))) d:=h.1.2.2.2.2.2.2.2.1.2
 have hsub:∀ d∈subs,SubIn d:=fun d hd=>sub_in d (hs d hd) (by
  have:=sum_mem (α:=SubD) (bulkD (.pr (.int .i64) (.pr (.int .i64) (.pr (.int .i64) (.pr (.int .i64) (.pr (.int .i64) (.pr (.sl (.int .i64)) (.pr (.pr (.int .i64) (.pr (.int .i64) (.pr (.sl (.int .i64)) (.pr (.sl (.int .i64)) .un)))) .un)))))))) subs d hd
  omega)
 have hrt:inR rt:=i64_ok h.2.1.2.2.2.2.1
 have hp:okD (.sl (.sl (.int .i64))) planes:=h.2.2.1
 obtain ⟨p1,p2⟩:=rows_ok planes hp (by omega)
 exact lBack_law v nm sz sc rc wc md subs i0 i1 i2 i3 rt ch w i7 i8 planes (by unfold inR at hrt;omega) hsub (by omega) p2 p1
set_option maxRecDepth 100000 in
theorem frameBack_contract (H:Type) (enc:TypeId×Value->H) (W:World) (base:Nat) (args:Array Value) (ds gs:List (DataW H)) (before:List MemPlace)
  (hval:∀ (j:Nat) t v,Tryz.f3.params[j]?=some t->args[j]?=some v->Value.okWide Tryz.prog W .any base t v)
  (hW:DataW.Whole enc Tryz.prog Tryz.f3.params.toList Rows.frameBackSpec.vars false W args.toList ds gs before) (hk:Rows.uptoSmall H (ds++gs)=true) :
  Calls Tryz.prog 3 args W fun e W'=>∃ v,e=.returned v/\Rows.frameBackSpec.post enc Tryz.prog Tryz.f3 false true false false W args v W':=
 row_contract (B:=1048576) (ts:=[.pr .bool (.pr (.int .i64) (.pr (.int .i64) (.pr (.int .i64) (.pr (.int .i64) (.pr (.int .i64) (.pr (.int .i64) (.pr (.sl (.pr (.int .i64) (.pr (.int .i64) (.pr (.int .i64) (.pr (.int .i64) (.pr (.int .i64) (.pr (.sl (.int .i64)) (.pr (.pr (.int .i64) (.pr (.int .i64) (.pr (.sl (.int .i64)) (.pr (.sl (.int .i64)) .un)))) .un)))))))) .un))))))),.pr (.int .i64) (.pr (.int .i64) (.pr (.int .i64) (.pr (.int .i64) (.pr (.int .i64) (.pr (.int .i64) (.pr (.int .i64) (.pr (.int .i64) (.pr .str .un)))))))),.sl (.sl (.int .i64))]) (g:=fun d=>LQ.lBack d.1 d.2.1 d.2.2) isBulk tLaid tSz TD.lBack_ok back_good (by kernel_rfl) (by kernel_rfl) rfl Tryz.underlying4 rfl
  (fun ds h=>by match ds,h with | [d0,d1,d2],_=>rfl) hval hW (of_decide_eq_true hk)
set_option maxRecDepth 100000 in
theorem frameBack_lifted (os:Os) (started:os.Started) (H:Type) (enc:TypeId×Value->H) (F:Stop.Interp) :
  ReturnsInHanded {} Tryz.checked os 3 .any ((Rows.OpenSpec.upto Rows.frameBackSpec).pre6 enc Tryz.prog Tryz.f3 Rows.frameBackUptoRow.domain false) (((Rows.OpenSpec.upto Rows.frameBackSpec).at F).post enc Tryz.prog Tryz.f3 false true false false):=by
 refine returnsInHanded_of_cond (C:=Tryz.checked) (s:=Rows.OpenSpec.upto Rows.frameBackSpec) (k:=Rows.uptoSmall) rfl tOwn started (by kernel_rfl) Tryz.func3
  (OpenSpec.witness (enc:=enc) (C:=Tryz.checked) (s:=Rows.OpenSpec.upto Rows.frameBackSpec) (k:=Rows.uptoSmall) rfl false ⟨#[],#[.agg #[.bool false,.int .i64 0,.int .i64 0,.int .i64 0,.int .i64 0,.int .i64 0,.int .i64 0,.slice none 0 0],.agg #[.int .i64 0,.int .i64 0,.int .i64 0,.int .i64 0,.int .i64 0,.int .i64 0,.int .i64 0,.int .i64 0,.string ⟨#[]⟩],.slice none 0 0],[]⟩ 8 (by kernel_rfl) (by kernel_rfl) (by kernel_rfl)
   (x:=([.agg [.lit (.bool false),.lit (.int .i64 0),.lit (.int .i64 0),.lit (.int .i64 0),.lit (.int .i64 0),.lit (.int .i64 0),.lit (.int .i64 0),.nil],.agg [.lit (.int .i64 0),.lit (.int .i64 0),.lit (.int .i64 0),.lit (.int .i64 0),.lit (.int .i64 0),.lit (.int .i64 0),.lit (.int .i64 0),.lit (.int .i64 0),.lit (.string [])],.nil],[],[])) (by kernel_rfl) rfl (by kernel_rfl)) ?_
 intro W base args ds gs before hval hW _ hk _
 exact frameBack_contract H enc W base args ds gs before hval hW hk
theorem frameBack_holds:Rows.FrameBackUptoSaid:=
 OpenClaim.holds_of_cond 3 Tryz.f3 rfl rfl rfl rfl rfl rfl rfl ⟨rfl,rfl,rfl,rfl,rfl⟩ rfl rfl rfl rfl rfl (by kernel_rfl) Tryz.func3 (by kernel_rfl)
  (of_decide_eq_true (by kernel_rfl)) (by unfold Func.isWrapper;first|(rw [if_pos (by decide +kernel)];kernel_rfl)|(rw [if_neg (by decide +kernel)];exact ⟨rfl,rfl⟩))
  (fun os started H enc _ F=>frameBack_lifted os started H enc F)
#print axioms frameBack_holds
end
end Go.Proofs.YtedcnpankkaboaaGreat.Dg
