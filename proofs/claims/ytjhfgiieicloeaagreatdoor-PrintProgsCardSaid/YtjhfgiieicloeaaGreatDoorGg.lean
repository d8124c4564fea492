/- Joined texts: GOk1. -/
import Derived.Test.YtjhfgiieicloeaaGreatDoorRows
import Derived.Test.YtjhfgiieicloeaaGreatDoorGx
import Derived.Test.YtjhfgiieicloeaaGreatDoorGf
/- That the Go functions come to the printed Lean functions, whatever they are handed. Printed by sxgen.py of this session. -/
namespace Go.Proofs.YtjhfgiieicloeaaGreatDoor
open Go Go.Am Go.Sx
set_option maxRecDepth 100000
def tt:TT:={ kd:=[(0,.other),(1,.func),(2,(.int .i64)),(3,(.int .i64)),(4,.bool),(5,(.int .u8)),(6,(.int .u8)),(7,.struct),(8,.struct),(9,.string),(10,.string),(11,.string),(12,(.int .u64)),(13,.struct),(14,.struct),(15,(.pointer 188)),(16,(.pointer 191)),(17,(.pointer 198)),(18,.struct),(19,.struct),(20,.other),(21,(.int .i32)),(22,(.slice 51)),(23,.struct),(24,.struct),(25,(.pointer 60)),(26,.other),(27,.func),(28,.func),(29,(.int .i64)),(30,.other),(31,.func),(32,.other),(33,.func),(34,.func),(35,.func),(36,.func),(37,.other),(38,.func),(39,.other),(40,.func),(41,.func),(42,.func),(43,.other),(44,.func),(45,(.slice 73)),(46,.other),(47,.func),(48,.func),(49,(.slice 3)),(50,.struct),(51,.struct),(52,.func),(53,.func),(54,(.pointer 57)),(55,(.slice 5)),(56,.struct),(57,.struct),(58,(.slice 25)),(59,.struct),(60,.struct),(61,.other),(62,.other),(63,.other),(64,.func),(65,.func),(66,.func),(67,.func),(68,.func),(69,.func),(70,.other),(71,.func),(72,.struct),(73,.struct),(74,.func),(75,.func),(76,.func),(77,(.slice 4)),(78,.func),(79,.other),(80,.func),(81,.func),(82,.func),(83,.func),(84,.func),(85,.func),(86,.other),(87,.func),(88,(.pointer 104)),(89,.func),(90,.func),(91,.func),(92,.func),(93,.func),(94,.func),(95,.func),(96,(.pointer 5)),(97,.other),(98,.func),(99,.func),(100,.func),(101,.func),(102,.func),(103,.struct),(104,.struct),(105,.func),(106,.func),(107,(.slice 9)),(108,.func),(109,.func),(110,.other),(111,.func),(112,.func),(113,.func),(114,.other),(115,.func),(116,.func),(117,.func),(118,(.slice 121)),(119,.func),(120,.struct),(121,.struct),(122,.func),(123,.func),(124,.func),(125,.func),(126,.func),(127,.func),(128,.other),(129,.func),(130,.func),(131,.func),(132,.func),(133,.func),(134,.func),(135,.func),(136,.func),(137,.func),(138,(.slice 93)),(139,(.map 9 4)),(140,.func),(141,.func),(142,.func),(143,(.int .u64)),(144,.func),(145,.func),(146,(.pointer 149)),(147,.func),(148,.struct),(149,.struct),(150,.func),(151,.func),(152,.func),(153,.func),(154,.func),(155,.func),(156,.func),(157,.func),(158,.func),(159,.array),(160,.struct),(161,.struct),(162,.array),(163,(.int .u64)),(164,.func),(165,.func),(166,.func),(167,(.slice 21)),(168,.other),(169,.func),(170,.func),(171,.func),(172,(.pointer 174)),(173,.struct),(174,.struct),(175,.other),(176,.func),(177,.func),(178,.func),(179,.func),(180,.func),(181,.func),(182,(.int .u32)),(183,.other),(184,.func),(185,.func),(186,.func),(187,.struct),(188,.struct),(189,.array),(190,.struct),(191,.struct),(192,(.int .u8)),(193,(.int .u8)),(194,.func),(195,(.int .i32)),(196,(.int .i32)),(197,.struct),(198,.struct)],sz:=[(1,1),(2,1),(3,1),(4,1),(5,1),(6,1),(7,4),(8,4),(9,1),(10,1),(11,1),(12,1),(13,2),(14,2),(15,1),(16,1),(17,1),(18,1),(19,1),(21,1),(22,1),(23,1),(24,1),(25,1),(27,1),(28,1),(29,1),(31,1),(33,1),(34,1),(35,1),(36,1),(38,1),(40,1),(41,1),(42,1),(44,1),(45,1),(47,1),(48,1),(49,1),(50,5),(51,5),(52,1),(53,1),(54,1),(55,1),(56,2),(57,2),(58,1),(59,5),(60,5),(64,1),(65,1),(66,1),(67,1),(68,1),(69,1),(71,1),(72,4),(73,4),(74,1),(75,1),(76,1),(77,1),(78,1),(80,1),(81,1),(82,1),(83,1),(84,1),(85,1),(87,1),(88,1),(89,1),(90,1),(91,1),(92,1),(93,1),(94,1),(95,1),(96,1),(98,1),(99,1),(100,1),(101,1),(102,1),(103,3),(104,3),(105,1),(106,1),(107,1),(108,1),(109,1),(111,1),(112,1),(113,1),(114,1),(115,1),(116,1),(117,1),(118,1),(119,1),(120,7),(121,7),(122,1),(123,1),(124,1),(125,1),(126,1),(127,1),(129,1),(130,1),(131,1),(132,1),(133,1),(134,1),(135,1),(136,1),(137,1),(138,1),(139,1),(140,1),(141,1),(142,1),(143,1),(144,1),(145,1),(146,1),(147,1),(148,3),(149,3),(150,1),(151,1),(152,1),(153,1),(154,1),(155,1),(156,1),(157,1),(158,1),(159,256),(160,2),(161,2),(162,32),(163,1),(164,1),(165,1),(166,1),(167,1),(169,1),(170,1),(171,1),(172,1),(173,3),(174,3),(176,1),(177,1),(178,1),(179,1),(180,1),(181,1),(182,1),(184,1),(185,1),(186,1),(187,4),(188,4),(189,0),(190,0),(191,0),(192,1),(193,1),(194,1),(195,1),(196,1),(197,11),(198,11)],by':=[(1,8),(2,8),(3,8),(4,1),(5,1),(6,1),(7,24),(8,24),(9,16),(10,16),(11,16),(12,8),(13,24),(14,24),(15,8),(16,8),(17,8),(18,8),(19,8),(21,4),(22,24),(23,24),(24,24),(25,8),(27,8),(28,8),(29,8),(31,8),(33,8),(34,8),(35,8),(36,8),(38,8),(40,8),(41,8),(42,8),(44,8),(45,24),(47,8),(48,8),(49,24),(50,72),(51,72),(52,8),(53,8),(54,8),(55,24),(56,32),(57,32),(58,24),(59,72),(60,72),(64,8),(65,8),(66,8),(67,8),(68,8),(69,8),(71,8),(72,40),(73,40),(74,8),(75,8),(76,8),(77,24),(78,8),(80,8),(81,8),(82,8),(83,8),(84,8),(85,8),(87,8),(88,8),(89,8),(90,8),(91,8),(92,8),(93,8),(94,8),(95,8),(96,8),(98,8),(99,8),(100,8),(101,8),(102,8),(103,40),(104,40),(105,8),(106,8),(107,24),(108,8),(109,8),(111,8),(112,8),(113,8),(114,8),(115,8),(116,8),(117,8),(118,24),(119,8),(120,80),(121,80),(122,8),(123,8),(124,8),(125,8),(126,8),(127,8),(129,8),(130,8),(131,8),(132,8),(133,8),(134,8),(135,8),(136,8),(137,8),(138,24),(139,8),(140,8),(141,8),(142,8),(143,8),(144,8),(145,8),(146,8),(147,8),(148,40),(149,40),(150,8),(151,8),(152,8),(153,8),(154,8),(155,8),(156,8),(157,8),(158,8),(159,256),(160,2),(161,2),(162,32),(163,8),(164,8),(165,8),(166,8),(167,24),(169,8),(170,8),(171,8),(172,8),(173,40),(174,40),(176,8),(177,8),(178,8),(179,8),(180,8),(181,8),(182,4),(184,8),(185,8),(186,8),(187,40),(188,40),(189,0),(190,0),(191,0),(192,1),(193,1),(194,8),(195,4),(196,4),(197,48),(198,48)],zero:=[(1,[.nilFunc]),(2,[(.int .i64 0)]),(3,[(.int .i64 0)]),(4,[(.bool false)]),(5,[(.int .u8 0)]),(6,[(.int .u8 0)]),(7,[(.int .i64 0),(.int .i64 0),(.bool false),(.int .u8 0)]),(8,[(.int .i64 0),(.int .i64 0),(.bool false),(.int .u8 0)]),(9,[(.string ⟨#[]⟩)]),(10,[(.string ⟨#[]⟩)]),(11,[(.string ⟨#[]⟩)]),(12,[(.int .u64 0)]),(13,[(.string ⟨#[]⟩),(.int .u64 0)]),(14,[(.string ⟨#[]⟩),(.int .u64 0)]),(15,[(.pointer none)]),(16,[(.pointer none)]),(17,[(.pointer none)]),(18,[(.pointer none)]),(19,[(.pointer none)]),(21,[(.int .i32 0)]),(22,[(.slice none 0 0)]),(23,[(.slice none 0 0)]),(24,[(.slice none 0 0)]),(25,[(.pointer none)]),(27,[.nilFunc]),(28,[.nilFunc]),(29,[(.int .i64 0)]),(31,[.nilFunc]),(33,[.nilFunc]),(34,[.nilFunc]),(35,[.nilFunc]),(36,[.nilFunc]),(38,[.nilFunc]),(40,[.nilFunc]),(41,[.nilFunc]),(42,[.nilFunc]),(44,[.nilFunc]),(45,[(.slice none 0 0)]),(47,[.nilFunc]),(48,[.nilFunc]),(49,[(.slice none 0 0)]),(50,[(.int .i64 0),(.int .i64 0),(.string ⟨#[]⟩),(.string ⟨#[]⟩),(.slice none 0 0)]),(51,[(.int .i64 0),(.int .i64 0),(.string ⟨#[]⟩),(.string ⟨#[]⟩),(.slice none 0 0)]),(52,[.nilFunc]),(53,[.nilFunc]),(54,[(.pointer none)]),(55,[(.slice none 0 0)]),(56,[(.pointer none),(.slice none 0 0)]),(57,[(.pointer none),(.slice none 0 0)]),(58,[(.slice none 0 0)]),(59,[(.int .i64 0),(.int .i64 0),(.string ⟨#[]⟩),(.string ⟨#[]⟩),(.slice none 0 0)]),(60,[(.int .i64 0),(.int .i64 0),(.string ⟨#[]⟩),(.string ⟨#[]⟩),(.slice none 0 0)]),(64,[.nilFunc]),(65,[.nilFunc]),(66,[.nilFunc]),(67,[.nilFunc]),(68,[.nilFunc]),(69,[.nilFunc]),(71,[.nilFunc]),(72,[(.int .i64 0),(.string ⟨#[]⟩),(.int .i64 0),(.int .i64 0)]),(73,[(.int .i64 0),(.string ⟨#[]⟩),(.int .i64 0),(.int .i64 0)]),(74,[.nilFunc]),(75,[.nilFunc]),(76,[.nilFunc]),(77,[(.slice none 0 0)]),(78,[.nilFunc]),(80,[.nilFunc]),(81,[.nilFunc]),(82,[.nilFunc]),(83,[.nilFunc]),(84,[.nilFunc]),(85,[.nilFunc]),(87,[.nilFunc]),(88,[(.pointer none)]),(89,[.nilFunc]),(90,[.nilFunc]),(91,[.nilFunc]),(92,[.nilFunc]),(93,[.nilFunc]),(94,[.nilFunc]),(95,[.nilFunc]),(96,[(.pointer none)]),(98,[.nilFunc]),(99,[.nilFunc]),(100,[.nilFunc]),(101,[.nilFunc]),(102,[.nilFunc]),(103,[(.slice none 0 0),(.int .i64 0),(.int .i64 0)]),(104,[(.slice none 0 0),(.int .i64 0),(.int .i64 0)]),(105,[.nilFunc]),(106,[.nilFunc]),(107,[(.slice none 0 0)]),(108,[.nilFunc]),(109,[.nilFunc]),(111,[.nilFunc]),(112,[.nilFunc]),(113,[.nilFunc]),(114,[(.pointer none)]),(115,[.nilFunc]),(116,[.nilFunc]),(117,[.nilFunc]),(118,[(.slice none 0 0)]),(119,[.nilFunc]),(120,[(.int .i64 0),(.int .i64 0),(.string ⟨#[]⟩),(.string ⟨#[]⟩),(.int .i64 0),(.int .i64 0),(.string ⟨#[]⟩)]),(121,[(.int .i64 0),(.int .i64 0),(.string ⟨#[]⟩),(.string ⟨#[]⟩),(.int .i64 0),(.int .i64 0),(.string ⟨#[]⟩)]),(122,[.nilFunc]),(123,[.nilFunc]),(124,[.nilFunc]),(125,[.nilFunc]),(126,[.nilFunc]),(127,[.nilFunc]),(129,[.nilFunc]),(130,[.nilFunc]),(131,[.nilFunc]),(132,[.nilFunc]),(133,[.nilFunc]),(134,[.nilFunc]),(135,[.nilFunc]),(136,[.nilFunc]),(137,[.nilFunc]),(138,[(.slice none 0 0)]),(139,[(.map none)]),(140,[.nilFunc]),(141,[.nilFunc]),(142,[.nilFunc]),(143,[(.int .u64 0)]),(144,[.nilFunc]),(145,[.nilFunc]),(146,[(.pointer none)]),(147,[.nilFunc]),(148,[(.slice none 0 0),(.int .i64 0),(.int .i64 0)]),(149,[(.slice none 0 0),(.int .i64 0),(.int .i64 0)]),(150,[.nilFunc]),(151,[.nilFunc]),(152,[.nilFunc]),(153,[.nilFunc]),(154,[.nilFunc]),(155,[.nilFunc]),(156,[.nilFunc]),(157,[.nilFunc]),(158,[.nilFunc]),(159,[(.int .u8 0),(.int .u8 0),(.int .u8 0),(.int .u8 0),(.int .u8 0),(.int .u8 0),(.int .u8 0),(.int .u8 0),(.int .u8 0),(.int .u8 0),(.int .u8 0),(.int .u8 0),(.int .u8 0),(.int .u8 0),(.int .u8 0),(.int .u8 0),(.int .u8 0),(.int .u8 0),(.int .u8 0),(.int .u8 0),(.int .u8 0),(.int .u8 0),(.int .u8 0),(.int .u8 0),(.int .u8 0),(.int .u8 0),(.int .u8 0),(.int .u8 0),(.int .u8 0),(.int .u8 0),(.int .u8 0),(.int .u8 0),(.int .u8 0),(.int .u8 0),(.int .u8 0),(.int .u8 0),(.int .u8 0),(.int .u8 0),(.int .u8 0),(.int .u8 0),(.int .u8 0),(.int .u8 0),(.int .u8 0),(.int .u8 0),(.int .u8 0),(.int .u8 0),(.int .u8 0),(.int .u8 0),(.int .u8 0),(.int .u8 0),(.int .u8 0),(.int .u8 0),(.int .u8 0),(.int .u8 0),(.int .u8 0),(.int .u8 0),(.int .u8 0),(.int .u8 0),(.int .u8 0),(.int .u8 0),(.int .u8 0),(.int .u8 0),(.int .u8 0),(.int .u8 0),(.int .u8 0),(.int .u8 0),(.int .u8 0),(.int .u8 0),(.int .u8 0),(.int .u8 0),(.int .u8 0),(.int .u8 0),(.int .u8 0),(.int .u8 0),(.int .u8 0),(.int .u8 0),(.int .u8 0),(.int .u8 0),(.int .u8 0),(.int .u8 0),(.int .u8 0),(.int .u8 0),(.int .u8 0),(.int .u8 0),(.int .u8 0),(.int .u8 0),(.int .u8 0),(.int .u8 0),(.int .u8 0),(.int .u8 0),(.int .u8 0),(.int .u8 0),(.int .u8 0),(.int .u8 0),(.int .u8 0),(.int .u8 0),(.int .u8 0),(.int .u8 0),(.int .u8 0),(.int .u8 0),(.int .u8 0),(.int .u8 0),(.int .u8 0),(.int .u8 0),(.int .u8 0),(.int .u8 0),(.int .u8 0),(.int .u8 0),(.int .u8 0),(.int .u8 0),(.int .u8 0),(.int .u8 0),(.int .u8 0),(.int .u8 0),(.int .u8 0),(.int .u8 0),(.int .u8 0),(.int .u8 0),(.int .u8 0),(.int .u8 0),(.int .u8 0),(.int .u8 0),(.int .u8 0),(.int .u8 0),(.int .u8 0),(.int .u8 0),(.int .u8 0),(.int .u8 0),(.int .u8 0),(.int .u8 0),(.int .u8 0),(.int .u8 0),(.int .u8 0),(.int .u8 0),(.int .u8 0),(.int .u8 0),(.int .u8 0),(.int .u8 0),(.int .u8 0),(.int .u8 0),(.int .u8 0),(.int .u8 0),(.int .u8 0),(.int .u8 0),(.int .u8 0),(.int .u8 0),(.int .u8 0),(.int .u8 0),(.int .u8 0),(.int .u8 0),(.int .u8 0),(.int .u8 0),(.int .u8 0),(.int .u8 0),(.int .u8 0),(.int .u8 0),(.int .u8 0),(.int .u8 0),(.int .u8 0),(.int .u8 0),(.int .u8 0),(.int .u8 0),(.int .u8 0),(.int .u8 0),(.int .u8 0),(.int .u8 0),(.int .u8 0),(.int .u8 0),(.int .u8 0),(.int .u8 0),(.int .u8 0),(.int .u8 0),(.int .u8 0),(.int .u8 0),(.int .u8 0),(.int .u8 0),(.int .u8 0),(.int .u8 0),(.int .u8 0),(.int .u8 0),(.int .u8 0),(.int .u8 0),(.int .u8 0),(.int .u8 0),(.int .u8 0),(.int .u8 0),(.int .u8 0),(.int .u8 0),(.int .u8 0),(.int .u8 0),(.int .u8 0),(.int .u8 0),(.int .u8 0),(.int .u8 0),(.int .u8 0),(.int .u8 0),(.int .u8 0),(.int .u8 0),(.int .u8 0),(.int .u8 0),(.int .u8 0),(.int .u8 0),(.int .u8 0),(.int .u8 0),(.int .u8 0),(.int .u8 0),(.int .u8 0),(.int .u8 0),(.int .u8 0),(.int .u8 0),(.int .u8 0),(.int .u8 0),(.int .u8 0),(.int .u8 0),(.int .u8 0),(.int .u8 0),(.int .u8 0),(.int .u8 0),(.int .u8 0),(.int .u8 0),(.int .u8 0),(.int .u8 0),(.int .u8 0),(.int .u8 0),(.int .u8 0),(.int .u8 0),(.int .u8 0),(.int .u8 0),(.int .u8 0),(.int .u8 0),(.int .u8 0),(.int .u8 0),(.int .u8 0),(.int .u8 0),(.int .u8 0),(.int .u8 0),(.int .u8 0),(.int .u8 0),(.int .u8 0),(.int .u8 0),(.int .u8 0),(.int .u8 0),(.int .u8 0),(.int .u8 0),(.int .u8 0),(.int .u8 0),(.int .u8 0),(.int .u8 0),(.int .u8 0),(.int .u8 0),(.int .u8 0),(.int .u8 0),(.int .u8 0),(.int .u8 0),(.int .u8 0),(.int .u8 0)]),(160,[(.int .u8 0),(.int .u8 0)]),(161,[(.int .u8 0),(.int .u8 0)]),(162,[(.int .u8 0),(.int .u8 0),(.int .u8 0),(.int .u8 0),(.int .u8 0),(.int .u8 0),(.int .u8 0),(.int .u8 0),(.int .u8 0),(.int .u8 0),(.int .u8 0),(.int .u8 0),(.int .u8 0),(.int .u8 0),(.int .u8 0),(.int .u8 0),(.int .u8 0),(.int .u8 0),(.int .u8 0),(.int .u8 0),(.int .u8 0),(.int .u8 0),(.int .u8 0),(.int .u8 0),(.int .u8 0),(.int .u8 0),(.int .u8 0),(.int .u8 0),(.int .u8 0),(.int .u8 0),(.int .u8 0),(.int .u8 0)]),(163,[(.int .u64 0)]),(164,[.nilFunc]),(165,[.nilFunc]),(166,[.nilFunc]),(167,[(.slice none 0 0)]),(169,[.nilFunc]),(170,[.nilFunc]),(171,[.nilFunc]),(172,[(.pointer none)]),(173,[(.slice none 0 0),(.int .i64 0),(.int .i64 0)]),(174,[(.slice none 0 0),(.int .i64 0),(.int .i64 0)]),(176,[.nilFunc]),(177,[.nilFunc]),(178,[.nilFunc]),(179,[.nilFunc]),(180,[.nilFunc]),(181,[.nilFunc]),(182,[(.int .u32 0)]),(184,[.nilFunc]),(185,[.nilFunc]),(186,[.nilFunc]),(187,[(.pointer none),(.pointer none),(.pointer none),(.string ⟨#[]⟩)]),(188,[(.pointer none),(.pointer none),(.pointer none),(.string ⟨#[]⟩)]),(189,[]),(190,[]),(191,[]),(192,[(.int .u8 0)]),(193,[(.int .u8 0)]),(194,[.nilFunc]),(195,[(.int .i32 0)]),(196,[(.int .i32 0)]),(197,[(.int .u64 0),(.int .u64 0),(.int .u32 0),(.int .u8 0),(.int .u8 0),(.int .u8 0),(.int .u8 0),.nilFunc,(.pointer none),(.int .i32 0),(.int .i32 0)]),(198,[(.int .u64 0),(.int .u64 0),(.int .u32 0),(.int .u8 0),(.int .u8 0),(.int .u8 0),(.int .u8 0),.nilFunc,(.pointer none),(.int .i32 0),(.int .i32 0)])],fld:=[(7,[(2,0,1),(3,1,1),(4,2,1),(6,3,1)]),(8,[(2,0,1),(3,1,1),(4,2,1),(6,3,1)]),(13,[(9,0,1),(12,1,1)]),(14,[(9,0,1),(12,1,1)]),(18,[(17,0,1)]),(19,[(17,0,1)]),(23,[(22,0,1)]),(24,[(22,0,1)]),(50,[(3,0,1),(3,1,1),(9,2,1),(9,3,1),(49,4,1)]),(51,[(3,0,1),(3,1,1),(9,2,1),(9,3,1),(49,4,1)]),(56,[(54,0,1),(55,1,1)]),(57,[(54,0,1),(55,1,1)]),(59,[(3,0,1),(3,1,1),(9,2,1),(9,3,1),(58,4,1)]),(60,[(3,0,1),(3,1,1),(9,2,1),(9,3,1),(58,4,1)]),(72,[(3,0,1),(9,1,1),(3,2,1),(3,3,1)]),(73,[(3,0,1),(9,1,1),(3,2,1),(3,3,1)]),(103,[(45,0,1),(3,1,1),(29,2,1)]),(104,[(45,0,1),(3,1,1),(29,2,1)]),(120,[(3,0,1),(3,1,1),(9,2,1),(9,3,1),(3,4,1),(3,5,1),(9,6,1)]),(121,[(3,0,1),(3,1,1),(9,2,1),(9,3,1),(3,4,1),(3,5,1),(9,6,1)]),(148,[(45,0,1),(3,1,1),(29,2,1)]),(149,[(45,0,1),(3,1,1),(29,2,1)]),(160,[(5,0,1),(5,1,1)]),(161,[(5,0,1),(5,1,1)]),(173,[(45,0,1),(3,1,1),(29,2,1)]),(174,[(45,0,1),(3,1,1),(29,2,1)]),(187,[(17,0,1),(17,1,1),(17,2,1),(9,3,1)]),(188,[(17,0,1),(17,1,1),(17,2,1),(9,3,1)]),(190,[(189,0,0)]),(191,[(189,0,0)]),(197,[(12,0,1),(12,1,1),(182,2,1),(192,3,1),(5,4,1),(5,5,1),(193,6,1),(194,7,1),(96,8,1),(195,9,1),(196,10,1)]),(198,[(12,0,1),(12,1,1),(182,2,1),(192,3,1),(5,4,1),(5,5,1),(193,6,1),(194,7,1),(96,8,1),(195,9,1),(196,10,1)])],arr:=[(159,(256,5)),(162,(16,161)),(189,(0,16))],mp:=[(139,(9,4))],zv:=[(4,(.bool false))] }
theorem tt_ok:TTok Tryz.prog tt:=⟨by kernel_rfl,by kernel_rfl,by kernel_rfl,by kernel_rfl,by kernel_rfl,by kernel_rfl,by kernel_rfl,by kernel_rfl⟩
theorem mixed:Tryz.prog.follows .mixedOrders=true:=by kernel_rfl
def xt:XT:={ T:=tt,ty:=[(2,(.int .i64)),(3,(.int .i64)),(4,.bool),(5,(.int .u8)),(6,(.int .u8)),(7,(.pair (.int .i64) (.pair (.int .i64) (.pair .bool (.int .u8))))),(8,(.pair (.int .i64) (.pair (.int .i64) (.pair .bool (.int .u8))))),(9,.str),(10,.str),(11,.str),(12,(.int .u64)),(13,(.pair .str (.int .u64))),(14,(.pair .str (.int .u64))),(21,(.int .i32)),(22,(.list false (.pair (.int .i64) (.pair (.int .i64) (.pair .str (.pair .str (.list false (.int .i64)))))))),(23,(.one (.list false (.pair (.int .i64) (.pair (.int .i64) (.pair .str (.pair .str (.list false (.int .i64))))))))),(24,(.one (.list false (.pair (.int .i64) (.pair (.int .i64) (.pair .str (.pair .str (.list false (.int .i64))))))))),(25,.tree),(29,(.int .i64)),(45,TkY),(49,(.list false (.int .i64))),(50,(.pair (.int .i64) (.pair (.int .i64) (.pair .str (.pair .str (.list false (.int .i64))))))),(51,(.pair (.int .i64) (.pair (.int .i64) (.pair .str (.pair .str (.list false (.int .i64))))))),(55,(.list false (.int .u8))),(58,(.list false .tree)),(59,(.pair (.int .i64) (.pair (.int .i64) (.pair .str (.pair .str (.list false .tree)))))),(60,(.pair (.int .i64) (.pair (.int .i64) (.pair .str (.pair .str (.list false .tree)))))),(72,(.pair (.int .i64) (.pair .str (.pair (.int .i64) (.int .i64))))),(73,(.pair (.int .i64) (.pair .str (.pair (.int .i64) (.int .i64))))),(77,(.list false .bool)),(103,(.pair TkY (.pair (.int .i64) (.int .i64)))),(104,(.pair TkY (.pair (.int .i64) (.int .i64)))),(107,(.list false .str)),(118,(.list false (.pair (.int .i64) (.pair (.int .i64) (.pair .str (.pair .str (.pair (.int .i64) (.pair (.int .i64) .str)))))))),(120,(.pair (.int .i64) (.pair (.int .i64) (.pair .str (.pair .str (.pair (.int .i64) (.pair (.int .i64) .str))))))),(121,(.pair (.int .i64) (.pair (.int .i64) (.pair .str (.pair .str (.pair (.int .i64) (.pair (.int .i64) .str))))))),(143,(.int .u64)),(148,(.pair TkY (.pair (.int .i64) (.int .i64)))),(149,(.pair TkY (.pair (.int .i64) (.int .i64)))),(160,(.pair (.int .u8) (.int .u8))),(161,(.pair (.int .u8) (.int .u8))),(163,(.int .u64)),(167,(.list false (.int .i32))),(173,(.pair TkY (.pair (.int .i64) (.int .i64)))),(174,(.pair TkY (.pair (.int .i64) (.int .i64)))),(182,(.int .u32)),(192,(.int .u8)),(193,(.int .u8)),(195,(.int .i32)),(196,(.int .i32))],objs:=[104,149,174],tab:=[(0,⟨.list false (.int .u8),tab0⟩),(1,⟨.list false (.pair (.int .u8) (.int .u8)),tab1⟩)] }
theorem xt_ok:XOk Tryz.prog xt:=⟨tt_ok,by kernel_rfl⟩
def g_law09_cells:Sig:={ fid:=9,Γ:=[(.list false (.pair (.int .i64) (.pair (.int .i64) (.pair .str (.pair .str (.list false (.int .i64)))))))],args:=[(.agg [(.var 0)])],Δ:=[(.list false (.pair (.int .i64) (.pair (.int .i64) (.pair .str (.pair .str (.list false (.int .i64)))))))],res:=(.agg [(.var 0)]),f:=fun k x=>law09_cells k x }
def l_law09_cells_0:LH ((List (Int×Int×(List UInt8)×(List UInt8)×(List Int)))):={ Γ:=[(.list false (.pair (.int .i64) (.pair (.int .i64) (.pair .str (.pair .str (.list false (.int .i64))))))),(.int .i64),(.list false (.pair (.int .i64) (.pair (.int .i64) (.pair .str (.pair .str (.list false (.int .i64)))))))],live:=[(1,(.ptr [(.var 0)])),(2,(.ref 0 0)),(3,(.ref 1 0)),(4,(.var 1))],sto:=[(0,(.cells 24 1 [.nils] false)),(1,(.cells 24 1 [(.row 2 2)] false)),(2,(.list 51 2 none))],nk:=3,ad:=[.c 3 0 51 (.pair (.int .i64) (.pair (.int .i64) (.pair .str (.pair .str (.list false (.int .i64))))))],F:=fun k x=>law09_cells_l0 k x.1 x.2.1 x.2.2 }
def h_law09_cells:Hints ((List (Int×Int×(List UInt8)×(List UInt8)×(List Int)))):={ ord:=[(6,[.l 0,.l 1,.l 2,.l 3,.l 4,.l 5,.l 6,.l 7,.l 8,.l 9,.l 10,.l 11,.l 12,.l 13,.l 14,.h 15,.l 16,.h 17])],loops:=[(3,l_law09_cells_0)] }
def e_law09_cells:List Sig:=[]
theorem law09_cells_eq (k:Nat) (x:(List (Int×Int×(List UInt8)×(List UInt8)×(List Int)))):law09_cells k x=fx xt e_law09_cells g_law09_cells Tryz.f9 h_law09_cells (bodyOf Tryz.f9) k x:=by kernel_rfl
theorem law09_cells_l0_eq (k:Nat) (x:(List (Int×Int×(List UInt8)×(List UInt8)×(List Int)))×Int×(List (Int×Int×(List UInt8)×(List UInt8)×(List Int)))):law09_cells_l0 (k+1) x.1 x.2.1 x.2.2=lrhs xt e_law09_cells 55 0 h_law09_cells (bodyOf Tryz.f9) (retK xt.T Tryz.f9.results g_law09_cells) 0 l_law09_cells_0 k x:=(law09_cells_l0.eq_def ..).trans (by kernel_rfl)
theorem law09_cells_ok (K:Nat):SigOk Tryz.prog g_law09_cells K:=sig_fun (X:=xt) (g:=g_law09_cells) (H:=h_law09_cells) (env:=e_law09_cells) (c:=bodyOf Tryz.f9) xt_ok mixed (fun k=>AllOk.nil) Tryz.func9 (by kernel_rfl) (by kernel_rfl) (by kernel_rfl) (UpTo.all (UpTo.zero.succ l_law09_cells_0 (by kernel_rfl) (fun _=>rfl) law09_cells_l0_eq) (by kernel_rfl) (by kernel_rfl)) law09_cells_eq K
def g_ref04_grow:Sig:={ fid:=25,Γ:=[(.list false (.pair (.int .i64) (.pair (.int .i64) (.pair .str (.pair .str (.list false (.int .i64))))))),(.int .i64)],args:=[(.agg [(.var 0)]),(.var 1)],Δ:=[.tree],res:=(.var 0),f:=fun k x=>ref04_grow k x.1 x.2 }
def l_ref04_grow_0:LH (Tr):={ Γ:=[(.int .i64),(.list false (.pair (.int .i64) (.pair (.int .i64) (.pair .str (.pair .str (.list false (.int .i64))))))),(.int .i64),(.int .i64),.str,.str,(.list false (.int .i64)),(.list false .tree)],live:=[(2,(.ref 0 0)),(5,(.ref 1 0)),(6,(.ref 2 0)),(7,(.var 0))],sto:=[(0,(.cells 24 1 [(.var 1)] false)),(1,(.cells 51 5 [(.var 2),(.var 3),(.var 4),(.var 5),(.var 6)] false)),(2,(.cells 60 5 [(.var 2),(.var 3),(.var 4),(.var 5),(.row 3 7)] false)),(3,(.list 25 7 none))],nk:=4,ad:=[.c 6 4 25 .tree],F:=fun k x=>ref04_grow_l0 k x.1 x.2.1 x.2.2.1 x.2.2.2.1 x.2.2.2.2.1 x.2.2.2.2.2.1 x.2.2.2.2.2.2.1 x.2.2.2.2.2.2.2 }
def h_ref04_grow:Hints (Tr):={ ord:=[(6,[.l 0,.l 1,.l 2,.l 3,.l 4,.l 5,.l 6,.l 7,.l 8,.l 9,.l 10,.h 11,.l 12,.h 13,.l 14,.l 15,.h 16])],loops:=[(4,l_ref04_grow_0)] }
def e_ref04_grow:List Sig:=[g_ref04_grow]
def x_ref04_grow:XT:={ xt with objs:=[24,60]++xt.objs }
theorem ref04_grow_eq (k:Nat) (x:(List (Int×Int×(List UInt8)×(List UInt8)×(List Int)))×Int):ref04_grow (k+1) x.1 x.2=fx x_ref04_grow e_ref04_grow g_ref04_grow Tryz.f25 h_ref04_grow (bodyOf Tryz.f25) k x:=(ref04_grow.eq_def ..).trans (by kernel_rfl)
theorem ref04_grow_l0_eq (k:Nat) (x:Int×(List (Int×Int×(List UInt8)×(List UInt8)×(List Int)))×Int×Int×(List UInt8)×(List UInt8)×(List Int)×(List Tr)):ref04_grow_l0 (k+1) x.1 x.2.1 x.2.2.1 x.2.2.2.1 x.2.2.2.2.1 x.2.2.2.2.2.1 x.2.2.2.2.2.2.1 x.2.2.2.2.2.2.2=lrhs x_ref04_grow e_ref04_grow 47 0 h_ref04_grow (bodyOf Tryz.f25) (retK xt.T Tryz.f25.results g_ref04_grow) 0 l_ref04_grow_0 k x:=(ref04_grow_l0.eq_def ..).trans (by kernel_rfl)
theorem ref04_grow_all (K:Nat):SigOk Tryz.prog g_ref04_grow K:=by
  induction K using Nat.strongRecOn with
  | ind K ih=>exact sig_rec (X:=x_ref04_grow) (g:=g_ref04_grow) (H:=h_ref04_grow) (env:=e_ref04_grow) (c:=bodyOf Tryz.f25) (show XOk Tryz.prog x_ref04_grow from ⟨tt_ok,xt_ok.tab⟩) mixed (fun k hk=>(AllOk.cons (ih k hk) AllOk.nil)) Tryz.func25 (by kernel_rfl) (by kernel_rfl) (by kernel_rfl) (UpTo.all (UpTo.zero.succ l_ref04_grow_0 (by kernel_rfl) (fun _=>rfl) ref04_grow_l0_eq) (by kernel_rfl) (by kernel_rfl)) (fun _=>rfl) ref04_grow_eq
theorem ref04_grow_ok (K:Nat):SigOk Tryz.prog g_ref04_grow K:=(ref04_grow_all K)
def g_ref04_Open:Sig:={ fid:=8,Γ:=[(.list false (.pair (.int .i64) (.pair (.int .i64) (.pair .str (.pair .str (.list false (.int .i64)))))))],args:=[(.agg [(.var 0)])],Δ:=[.tree,(.int .i64)],res:=(.tup [(.var 0),(.var 1)]),f:=fun k x=>ref04_Open k x }
def l_ref04_Open_0:LH (Tr×Int):={ Γ:=[(.list false (.pair (.int .i64) (.pair (.int .i64) (.pair .str (.pair .str (.list false (.int .i64))))))),(.list false (.int .i64)),(.int .i64)],live:=[(1,(.ptr [(.var 0)])),(4,(.len 0)),(5,(.row 0 1)),(6,(.var 2))],sto:=[(0,(.list 3 1 none))],nk:=1,F:=fun k x=>ref04_Open_l0 k x.1 x.2.1 x.2.2 }
def l_ref04_Open_1:LH (Tr×Int):={ Γ:=[(.list false (.pair (.int .i64) (.pair (.int .i64) (.pair .str (.pair .str (.list false (.int .i64))))))),(.list false (.int .i64)),(.int .i64),(.int .i64)],live:=[(1,(.ptr [(.var 0)])),(4,(.len 0)),(5,(.row 0 1)),(6,(.var 2)),(7,(.var 3))],sto:=[(0,(.list 3 1 none))],nk:=1,F:=fun k x=>ref04_Open_l1 k x.1 x.2.1 x.2.2.1 x.2.2.2 }
def l_ref04_Open_2:LH (Tr×Int):={ Γ:=[(.list false (.pair (.int .i64) (.pair (.int .i64) (.pair .str (.pair .str (.list false (.int .i64))))))),(.list false (.int .i64)),(.int .i64)],live:=[(1,(.ptr [(.var 0)])),(4,(.len 0)),(5,(.row 0 1)),(9,(.var 2))],sto:=[(0,(.list 3 1 none))],nk:=1,F:=fun k x=>ref04_Open_l2 k x.1 x.2.1 x.2.2 }
def h_ref04_Open:Hints (Tr×Int):={ loops:=[(8,l_ref04_Open_0),(11,l_ref04_Open_1),(18,l_ref04_Open_2)] }
def e_ref04_Open:List Sig:=[g_ref04_grow]
theorem ref04_Open_eq (k:Nat) (x:(List (Int×Int×(List UInt8)×(List UInt8)×(List Int)))):ref04_Open k x=fx xt e_ref04_Open g_ref04_Open Tryz.f8 h_ref04_Open (bodyOf Tryz.f8) k x:=by kernel_rfl
theorem ref04_Open_l0_eq (k:Nat) (x:(List (Int×Int×(List UInt8)×(List UInt8)×(List Int)))×(List Int)×Int):ref04_Open_l0 (k+1) x.1 x.2.1 x.2.2=lrhs xt e_ref04_Open 72 0 h_ref04_Open (bodyOf Tryz.f8) (retK xt.T Tryz.f8.results g_ref04_Open) 0 l_ref04_Open_0 k x:=(ref04_Open_l0.eq_def ..).trans (by kernel_rfl)
theorem ref04_Open_l1_eq (k:Nat) (x:(List (Int×Int×(List UInt8)×(List UInt8)×(List Int)))×(List Int)×Int×Int):ref04_Open_l1 (k+1) x.1 x.2.1 x.2.2.1 x.2.2.2=lrhs xt e_ref04_Open 72 0 h_ref04_Open (bodyOf Tryz.f8) (retK xt.T Tryz.f8.results g_ref04_Open) 1 l_ref04_Open_1 k x:=(ref04_Open_l1.eq_def ..).trans (by kernel_rfl)
theorem ref04_Open_l2_eq (k:Nat) (x:(List (Int×Int×(List UInt8)×(List UInt8)×(List Int)))×(List Int)×Int):ref04_Open_l2 (k+1) x.1 x.2.1 x.2.2=lrhs xt e_ref04_Open 72 0 h_ref04_Open (bodyOf Tryz.f8) (retK xt.T Tryz.f8.results g_ref04_Open) 2 l_ref04_Open_2 k x:=(ref04_Open_l2.eq_def ..).trans (by kernel_rfl)
theorem ref04_Open_ok (K:Nat):SigOk Tryz.prog g_ref04_Open K:=sig_fun (X:=xt) (g:=g_ref04_Open) (H:=h_ref04_Open) (env:=e_ref04_Open) (c:=bodyOf Tryz.f8) xt_ok mixed (fun k=>(AllOk.cons (ref04_grow_ok k) AllOk.nil)) Tryz.func8 (by kernel_rfl) (by kernel_rfl) (by kernel_rfl) (UpTo.all (((UpTo.zero.succ l_ref04_Open_0 (by kernel_rfl) (fun _=>rfl) ref04_Open_l0_eq).succ l_ref04_Open_1 (by kernel_rfl) (fun _=>rfl) ref04_Open_l1_eq).succ l_ref04_Open_2 (by kernel_rfl) (fun _=>rfl) ref04_Open_l2_eq) (by kernel_rfl) (by kernel_rfl)) ref04_Open_eq K
def g_arena_whole_1:Sig:={ fid:=155,Γ:=[.tree],args:=[(.var 0)],Δ:=[.bool],res:=(.var 0),f:=fun k x=>arena_whole_1 k x }
def g_slices_IndexFunc:Sig:={ fid:=176,Γ:=[(.list false .tree)],args:=[(.var 0),(.fn 155 [] [])],Δ:=[(.int .i64)],res:=(.var 0),f:=fun k x=>slices_IndexFunc k x }
def g_slices_ContainsFunc:Sig:={ fid:=154,Γ:=[(.list false .tree)],args:=[(.var 0),(.fn 155 [] [])],Δ:=[.bool],res:=(.var 0),f:=fun k x=>slices_ContainsFunc k x }
def g_arena_whole:Sig:={ fid:=130,Γ:=[.tree],args:=[(.var 0)],Δ:=[.bool],res:=(.var 0),f:=fun k x=>arena_whole k x }
def h_arena_whole_1:Hints (Bool):={}
def e_arena_whole_1:List Sig:=[g_arena_whole]
theorem arena_whole_1_eq (k:Nat) (x:Tr):arena_whole_1 (k+1) x=fx xt e_arena_whole_1 g_arena_whole_1 Tryz.f155 h_arena_whole_1 (bodyOf Tryz.f155) k x:=(arena_whole_1.eq_def ..).trans (by kernel_rfl)
def l_slices_IndexFunc_0:LH (Int):={ Γ:=[(.list false .tree),(.int .i64)],live:=[(0,(.var 0)),(1,(.fn 155 [] [])),(7,(.len 0)),(8,(.var 1))],F:=fun k x=>slices_IndexFunc_l0 k x.1 x.2 }
def h_slices_IndexFunc:Hints (Int):={ loops:=[(2,l_slices_IndexFunc_0)] }
def e_slices_IndexFunc:List Sig:=[g_arena_whole_1]
theorem slices_IndexFunc_eq (k:Nat) (x:(List Tr)):slices_IndexFunc (k+1) x=fx xt e_slices_IndexFunc g_slices_IndexFunc Tryz.f176 h_slices_IndexFunc (bodyOf Tryz.f176) k x:=(slices_IndexFunc.eq_def ..).trans (by kernel_rfl)
theorem slices_IndexFunc_l0_eq (k:Nat) (x:(List Tr)×Int):slices_IndexFunc_l0 (k+1) x.1 x.2=lrhs xt e_slices_IndexFunc 19 0 h_slices_IndexFunc (bodyOf Tryz.f176) (retK xt.T Tryz.f176.results g_slices_IndexFunc) 0 l_slices_IndexFunc_0 k x:=(slices_IndexFunc_l0.eq_def ..).trans (by kernel_rfl)
def h_slices_ContainsFunc:Hints (Bool):={}
def e_slices_ContainsFunc:List Sig:=[g_slices_IndexFunc]
theorem slices_ContainsFunc_eq (k:Nat) (x:(List Tr)):slices_ContainsFunc (k+1) x=fx xt e_slices_ContainsFunc g_slices_ContainsFunc Tryz.f154 h_slices_ContainsFunc (bodyOf Tryz.f154) k x:=(slices_ContainsFunc.eq_def ..).trans (by kernel_rfl)
def h_arena_whole:Hints (Bool):={}
def e_arena_whole:List Sig:=[g_slices_ContainsFunc]
theorem arena_whole_eq (k:Nat) (x:Tr):arena_whole (k+1) x=fx xt e_arena_whole g_arena_whole Tryz.f130 h_arena_whole (bodyOf Tryz.f130) k x:=(arena_whole.eq_def ..).trans (by kernel_rfl)
theorem arena_whole_1_all (K:Nat):SigOk Tryz.prog g_arena_whole_1 K∧SigOk Tryz.prog g_slices_IndexFunc K∧SigOk Tryz.prog g_slices_ContainsFunc K∧SigOk Tryz.prog g_arena_whole K:=by
  induction K using Nat.strongRecOn with
  | ind K ih=>exact ⟨sig_rec (X:=xt) (g:=g_arena_whole_1) (H:=h_arena_whole_1) (env:=e_arena_whole_1) (c:=bodyOf Tryz.f155) xt_ok mixed (fun k hk=>(AllOk.cons (ih k hk).2.2.2 AllOk.nil)) Tryz.func155 (by kernel_rfl) (by kernel_rfl) (by kernel_rfl) (UpTo.all UpTo.zero (by kernel_rfl) (by kernel_rfl)) (fun _=>rfl) arena_whole_1_eq,sig_rec (X:=xt) (g:=g_slices_IndexFunc) (H:=h_slices_IndexFunc) (env:=e_slices_IndexFunc) (c:=bodyOf Tryz.f176) xt_ok mixed (fun k hk=>(AllOk.cons (ih k hk).1 AllOk.nil)) Tryz.func176 (by kernel_rfl) (by kernel_rfl) (by kernel_rfl) (UpTo.all (UpTo.zero.succ l_slices_IndexFunc_0 (by kernel_rfl) (fun _=>rfl) slices_IndexFunc_l0_eq) (by kernel_rfl) (by kernel_rfl)) (fun _=>rfl) slices_IndexFunc_eq,sig_rec (X:=xt) (g:=g_slices_ContainsFunc) (H:=h_slices_ContainsFunc) (env:=e_slices_ContainsFunc) (c:=bodyOf Tryz.f154) xt_ok mixed (fun k hk=>(AllOk.cons (ih k hk).2.1 AllOk.nil)) Tryz.func154 (by kernel_rfl) (by kernel_rfl) (by kernel_rfl) (UpTo.all UpTo.zero (by kernel_rfl) (by kernel_rfl)) (fun _=>rfl) slices_ContainsFunc_eq,sig_rec (X:=xt) (g:=g_arena_whole) (H:=h_arena_whole) (env:=e_arena_whole) (c:=bodyOf Tryz.f130) xt_ok mixed (fun k hk=>(AllOk.cons (ih k hk).2.2.1 AllOk.nil)) Tryz.func130 (by kernel_rfl) (by kernel_rfl) (by kernel_rfl) (UpTo.all UpTo.zero (by kernel_rfl) (by kernel_rfl)) (fun _=>rfl) arena_whole_eq⟩
theorem arena_whole_ok (K:Nat):SigOk Tryz.prog g_arena_whole K:=(arena_whole_1_all K).2.2.2
def g_arena_Size:Sig:={ fid:=43,Γ:=[.tree],args:=[(.var 0)],Δ:=[(.int .i64)],res:=(.var 0),f:=fun k x=>arena_Size k x }
def l_arena_Size_0:LH (Int):={ Γ:=[(.int .i64),(.list false .tree),(.int .i64)],live:=[(3,(.var 0)),(11,(.var 1)),(12,(.len 1)),(13,(.var 2))],F:=fun k x=>arena_Size_l0 k x.1 x.2.1 x.2.2 }
def h_arena_Size:Hints (Int):={ loops:=[(5,l_arena_Size_0)] }
def e_arena_Size:List Sig:=[g_arena_Size]
theorem arena_Size_eq (k:Nat) (x:Tr):arena_Size (k+1) x=fx xt e_arena_Size g_arena_Size Tryz.f43 h_arena_Size (bodyOf Tryz.f43) k x:=(arena_Size.eq_def ..).trans (by kernel_rfl)
theorem arena_Size_l0_eq (k:Nat) (x:Int×(List Tr)×Int):arena_Size_l0 (k+1) x.1 x.2.1 x.2.2=lrhs xt e_arena_Size 23 0 h_arena_Size (bodyOf Tryz.f43) (retK xt.T Tryz.f43.results g_arena_Size) 0 l_arena_Size_0 k x:=(arena_Size_l0.eq_def ..).trans (by kernel_rfl)
theorem arena_Size_all (K:Nat):SigOk Tryz.prog g_arena_Size K:=by
  induction K using Nat.strongRecOn with
  | ind K ih=>exact sig_rec (X:=xt) (g:=g_arena_Size) (H:=h_arena_Size) (env:=e_arena_Size) (c:=bodyOf Tryz.f43) xt_ok mixed (fun k hk=>(AllOk.cons (ih k hk) AllOk.nil)) Tryz.func43 (by kernel_rfl) (by kernel_rfl) (by kernel_rfl) (UpTo.all (UpTo.zero.succ l_arena_Size_0 (by kernel_rfl) (fun _=>rfl) arena_Size_l0_eq) (by kernel_rfl) (by kernel_rfl)) (fun _=>rfl) arena_Size_eq
theorem arena_Size_ok (K:Nat):SigOk Tryz.prog g_arena_Size K:=(arena_Size_all K)
def g_arena_Pack_1:Sig:={ fid:=131,Γ:=[.tree,(.list false (.pair (.int .i64) (.pair (.int .i64) (.pair .str (.pair .str (.list false (.int .i64)))))))],args:=[(.var 0),(.ref 0 0),(.ref 1 0)],sto:=[(0,(.cells 75 1 [(.fn 131 [] [(.ref 0 0),(.ref 1 0)])] false)),(1,(.cells 24 1 [(.row 2 1)] false)),(2,(.list 51 1 none))],nk:=2,nr:=1,Δ:=[(.int .i64),(.list false (.pair (.int .i64) (.pair (.int .i64) (.pair .str (.pair .str (.list false (.int .i64)))))))],res:=(.var 0),sto':=[(0,(.cells 75 1 [(.fn 131 [] [(.ref 0 0),(.ref 1 0)])] false)),(1,(.cells 24 1 [(.row 2 1)] false)),(2,(.list 51 1 none))],nk':=3,f:=fun k x=>arena_Pack_1 k x.1 x.2 }
def l_arena_Pack_1_0:LH (Int×(List (Int×Int×(List UInt8)×(List UInt8)×(List Int)))):={ Γ:=[(.list false .tree),(.int .i64),(.list false (.pair (.int .i64) (.pair (.int .i64) (.pair .str (.pair .str (.list false (.int .i64))))))),(.int .i64),(.int .i64),.str,.str,(.list false (.int .i64))],live:=[(1,(.ref 0 0)),(2,(.ref 1 0)),(5,(.ref 2 0)),(28,(.var 0)),(29,(.len 0)),(30,(.var 1))],sto:=[(0,(.cells 75 1 [(.fn 131 [] [(.ref 0 0),(.ref 1 0)])] false)),(1,(.cells 24 1 [(.row 3 2)] false)),(2,(.cells 51 5 [(.var 3),(.var 4),(.var 5),(.var 6),(.row 4 7)] false)),(3,(.list 51 2 none)),(4,(.list 3 7 none))],nk:=5,ad:=[.c 5 4 3 (.int .i64)],F:=fun k x=>arena_Pack_1_l0 k x.1 x.2.1 x.2.2.1 x.2.2.2.1 x.2.2.2.2.1 x.2.2.2.2.2.1 x.2.2.2.2.2.2.1 x.2.2.2.2.2.2.2 }
def h_arena_Pack_1:Hints (Int×(List (Int×Int×(List UInt8)×(List UInt8)×(List Int)))):={ ord:=[(1,[.l 0,.l 1,.l 2,.l 3,.l 4,.l 5,.l 6,.l 7,.l 8,.l 9,.l 10,.l 11,.l 12,.l 13,.l 14,.l 15,.l 16,.h 17,.h 18]),(5,[.l 0,.l 1,.l 2,.l 3,.h 4,.l 5,.h 6,.l 7,.h 8])],loops:=[(3,l_arena_Pack_1_0)] }
def e_arena_Pack_1:List Sig:=[g_arena_Pack_1]
theorem arena_Pack_1_eq (k:Nat) (x:Tr×(List (Int×Int×(List UInt8)×(List UInt8)×(List Int)))):arena_Pack_1 (k+1) x.1 x.2=fx xt e_arena_Pack_1 g_arena_Pack_1 Tryz.f131 h_arena_Pack_1 (bodyOf Tryz.f131) k x:=(arena_Pack_1.eq_def ..).trans (by kernel_rfl)
theorem arena_Pack_1_l0_eq (k:Nat) (x:(List Tr)×Int×(List (Int×Int×(List UInt8)×(List UInt8)×(List Int)))×Int×Int×(List UInt8)×(List UInt8)×(List Int)):arena_Pack_1_l0 (k+1) x.1 x.2.1 x.2.2.1 x.2.2.2.1 x.2.2.2.2.1 x.2.2.2.2.2.1 x.2.2.2.2.2.2.1 x.2.2.2.2.2.2.2=lrhs xt e_arena_Pack_1 53 2 h_arena_Pack_1 (bodyOf Tryz.f131) (retK xt.T Tryz.f131.results g_arena_Pack_1) 0 l_arena_Pack_1_0 k x:=(arena_Pack_1_l0.eq_def ..).trans (by kernel_rfl)
theorem arena_Pack_1_all (K:Nat):SigOk Tryz.prog g_arena_Pack_1 K:=by
  induction K using Nat.strongRecOn with
  | ind K ih=>exact sig_rec (X:=xt) (g:=g_arena_Pack_1) (H:=h_arena_Pack_1) (env:=e_arena_Pack_1) (c:=bodyOf Tryz.f131) xt_ok mixed (fun k hk=>(AllOk.cons (ih k hk) AllOk.nil)) Tryz.func131 (by kernel_rfl) (by kernel_rfl) (by kernel_rfl) (UpTo.all (UpTo.zero.succ l_arena_Pack_1_0 (by kernel_rfl) (fun _=>rfl) arena_Pack_1_l0_eq) (by kernel_rfl) (by kernel_rfl)) (fun _=>rfl) arena_Pack_1_eq
theorem arena_Pack_1_ok (K:Nat):SigOk Tryz.prog g_arena_Pack_1 K:=(arena_Pack_1_all K)
def g_arena_Pack:Sig:={ fid:=91,Γ:=[.tree],args:=[(.var 0)],Δ:=[(.list false (.pair (.int .i64) (.pair (.int .i64) (.pair .str (.pair .str (.list false (.int .i64))))))),(.int .i64)],res:=(.tup [(.agg [(.var 0)]),(.var 1)]),f:=fun k x=>arena_Pack k x }
def h_arena_Pack:Hints ((List (Int×Int×(List UInt8)×(List UInt8)×(List Int)))×Int):={ adr:=[(8,[.c 4 0 51 (.pair (.int .i64) (.pair (.int .i64) (.pair .str (.pair .str (.list false (.int .i64))))))])] }
def e_arena_Pack:List Sig:=[g_arena_whole,g_arena_Size,g_arena_Pack_1]
theorem arena_Pack_eq (k:Nat) (x:Tr):arena_Pack k x=fx xt e_arena_Pack g_arena_Pack Tryz.f91 h_arena_Pack (bodyOf Tryz.f91) k x:=by kernel_rfl
theorem arena_Pack_ok (K:Nat):SigOk Tryz.prog g_arena_Pack K:=sig_fun (X:=xt) (g:=g_arena_Pack) (H:=h_arena_Pack) (env:=e_arena_Pack) (c:=bodyOf Tryz.f91) xt_ok mixed (fun k=>(AllOk.cons (arena_whole_ok k) (AllOk.cons (arena_Size_ok k) (AllOk.cons (arena_Pack_1_ok k) AllOk.nil)))) Tryz.func91 (by kernel_rfl) (by kernel_rfl) (by kernel_rfl) (UpTo.all UpTo.zero (by kernel_rfl) (by kernel_rfl)) arena_Pack_eq K
def g_arena_Deep:Sig:={ fid:=44,Γ:=[.tree],args:=[(.var 0)],Δ:=[(.int .i64)],res:=(.var 0),f:=fun k x=>arena_Deep k x }
def l_arena_Deep_0:LH (Int):={ Γ:=[(.int .i64),(.list false .tree),(.int .i64)],live:=[(3,(.var 0)),(11,(.var 1)),(12,(.len 1)),(13,(.var 2))],F:=fun k x=>arena_Deep_l0 k x.1 x.2.1 x.2.2 }
def h_arena_Deep:Hints (Int):={ loops:=[(5,l_arena_Deep_0)] }
def e_arena_Deep:List Sig:=[g_arena_Deep]
theorem arena_Deep_eq (k:Nat) (x:Tr):arena_Deep (k+1) x=fx xt e_arena_Deep g_arena_Deep Tryz.f44 h_arena_Deep (bodyOf Tryz.f44) k x:=(arena_Deep.eq_def ..).trans (by kernel_rfl)
theorem arena_Deep_l0_eq (k:Nat) (x:Int×(List Tr)×Int):arena_Deep_l0 (k+1) x.1 x.2.1 x.2.2=lrhs xt e_arena_Deep 24 0 h_arena_Deep (bodyOf Tryz.f44) (retK xt.T Tryz.f44.results g_arena_Deep) 0 l_arena_Deep_0 k x:=(arena_Deep_l0.eq_def ..).trans (by kernel_rfl)
theorem arena_Deep_all (K:Nat):SigOk Tryz.prog g_arena_Deep K:=by
  induction K using Nat.strongRecOn with
  | ind K ih=>exact sig_rec (X:=xt) (g:=g_arena_Deep) (H:=h_arena_Deep) (env:=e_arena_Deep) (c:=bodyOf Tryz.f44) xt_ok mixed (fun k hk=>(AllOk.cons (ih k hk) AllOk.nil)) Tryz.func44 (by kernel_rfl) (by kernel_rfl) (by kernel_rfl) (UpTo.all (UpTo.zero.succ l_arena_Deep_0 (by kernel_rfl) (fun _=>rfl) arena_Deep_l0_eq) (by kernel_rfl) (by kernel_rfl)) (fun _=>rfl) arena_Deep_eq
theorem arena_Deep_ok (K:Nat):SigOk Tryz.prog g_arena_Deep K:=(arena_Deep_all K)
def g_shape_bare:Sig:={ fid:=92,Γ:=[.tree,.bool,.bool,.bool],args:=[(.var 0),(.var 1),(.var 2),(.var 3)],Δ:=[.bool],res:=(.var 0),f:=fun k x=>shape_bare k x.1 x.2.1 x.2.2.1 x.2.2.2 }
def h_shape_bare:Hints (Bool):={}
def e_shape_bare:List Sig:=[]
theorem shape_bare_eq (k:Nat) (x:Tr×Bool×Bool×Bool):shape_bare k x.1 x.2.1 x.2.2.1 x.2.2.2=fx xt e_shape_bare g_shape_bare Tryz.f92 h_shape_bare (bodyOf Tryz.f92) k x:=by kernel_rfl
theorem shape_bare_ok (K:Nat):SigOk Tryz.prog g_shape_bare K:=sig_fun (X:=xt) (g:=g_shape_bare) (H:=h_shape_bare) (env:=e_shape_bare) (c:=bodyOf Tryz.f92) xt_ok mixed (fun k=>AllOk.nil) Tryz.func92 (by kernel_rfl) (by kernel_rfl) (by kernel_rfl) (UpTo.all UpTo.zero (by kernel_rfl) (by kernel_rfl)) shape_bare_eq K
def g_utf8_word:Sig:={ fid:=173,Γ:=[.str],args:=[(.var 0)],Δ:=[(.int .u64)],res:=(.var 0),f:=fun k x=>utf8_word k x }
def h_utf8_word:Hints (Int):={ ord:=[(2,[.l 0,.l 1,.l 2,.l 3,.l 4,.l 5,.l 6,.l 7,.l 8,.l 9,.l 10,.l 11,.l 12,.l 13,.l 14,.l 15,.l 16,.l 17,.l 18,.l 19,.l 20,.l 21,.l 22,.l 23,.l 24,.l 25,.l 26,.l 27,.l 28,.l 29,.l 30,.l 31,.l 32,.l 33,.l 34,.l 35,.l 36,.l 37,.l 38])] }
def e_utf8_word:List Sig:=[]
theorem utf8_word_eq (k:Nat) (x:(List UInt8)):utf8_word k x=fx xt e_utf8_word g_utf8_word Tryz.f173 h_utf8_word (bodyOf Tryz.f173) k x:=by kernel_rfl
theorem utf8_word_ok (K:Nat):SigOk Tryz.prog g_utf8_word K:=sig_fun (X:=xt) (g:=g_utf8_word) (H:=h_utf8_word) (env:=e_utf8_word) (c:=bodyOf Tryz.f173) xt_ok mixed (fun k=>AllOk.nil) Tryz.func173 (by kernel_rfl) (by kernel_rfl) (by kernel_rfl) (UpTo.all UpTo.zero (by kernel_rfl) (by kernel_rfl)) utf8_word_eq K
def g_utf8_ValidString:Sig:={ fid:=149,Γ:=[.str],args:=[(.var 0)],Δ:=[.bool],res:=(.var 0),f:=fun k x=>utf8_ValidString k x }
def l_utf8_ValidString_0:LH (Bool):={ Γ:=[.str],live:=[(0,(.var 0))],F:=fun k x=>utf8_ValidString_l0 k x }
def l_utf8_ValidString_1:LH (Bool):={ Γ:=[.str],live:=[(0,(.var 0))],F:=fun k x=>utf8_ValidString_l1 k x }
def h_utf8_ValidString:Hints (Bool):={ ord:=[(7,[.l 0,.l 1,.l 2,.l 3,.l 4,.l 6,.l 7,.h 5,.h 8,.l 9,.l 10,.l 11,.l 12]),(9,[.l 0,.l 1,.l 2,.l 3,.l 4,.l 6,.l 7,.l 10,.l 11,.l 13,.l 14,.h 5,.h 8,.l 9,.h 12,.h 15,.l 16,.l 17,.l 18,.l 19,.l 20]),(17,[.l 0,.l 1,.l 2,.l 3,.l 4,.l 5,.l 6,.l 7,.l 8,.l 9,.l 10,.l 11,.l 12,.l 13,.l 14,.l 15,.l 16]),(21,[.l 0,.l 1,.l 2,.l 3,.l 4,.l 5,.l 6,.l 7,.l 8,.l 9,.l 10,.l 11,.l 12,.l 13,.l 14,.l 15,.l 16,.l 17,.l 18,.l 19,.l 20,.l 21,.l 22,.l 23,.l 24,.l 25,.l 26]),(25,[.l 0,.l 1,.l 2,.l 3,.l 4,.l 5,.l 6,.l 7,.l 8,.l 9,.l 10,.l 11,.l 12,.l 13,.l 14,.l 15,.l 16,.l 17,.l 18,.l 19,.l 20,.l 21,.l 22,.l 23,.l 24,.l 25,.l 26,.l 27,.l 28,.l 29,.l 30,.l 31,.l 32,.l 33,.l 34,.l 35,.l 36])],loops:=[(1,l_utf8_ValidString_0),(9,l_utf8_ValidString_1)] }
def e_utf8_ValidString:List Sig:=[g_utf8_word]
theorem utf8_ValidString_eq (k:Nat) (x:(List UInt8)):utf8_ValidString k x=fx xt e_utf8_ValidString g_utf8_ValidString Tryz.f149 h_utf8_ValidString (bodyOf Tryz.f149) k x:=by kernel_rfl
theorem utf8_ValidString_l0_eq (k:Nat) (x:(List UInt8)):utf8_ValidString_l0 (k+1) x=lrhs xt e_utf8_ValidString 169 0 h_utf8_ValidString (bodyOf Tryz.f149) (retK xt.T Tryz.f149.results g_utf8_ValidString) 0 l_utf8_ValidString_0 k x:=(utf8_ValidString_l0.eq_def ..).trans (by kernel_rfl)
theorem utf8_ValidString_l1_eq (k:Nat) (x:(List UInt8)):utf8_ValidString_l1 (k+1) x=lrhs xt e_utf8_ValidString 169 0 h_utf8_ValidString (bodyOf Tryz.f149) (retK xt.T Tryz.f149.results g_utf8_ValidString) 1 l_utf8_ValidString_1 k x:=(utf8_ValidString_l1.eq_def ..).trans (by kernel_rfl)
theorem utf8_ValidString_ok (K:Nat):SigOk Tryz.prog g_utf8_ValidString K:=sig_fun (X:=xt) (g:=g_utf8_ValidString) (H:=h_utf8_ValidString) (env:=e_utf8_ValidString) (c:=bodyOf Tryz.f149) xt_ok mixed (fun k=>(AllOk.cons (utf8_word_ok k) AllOk.nil)) Tryz.func149 (by kernel_rfl) (by kernel_rfl) (by kernel_rfl) (UpTo.all ((UpTo.zero.succ l_utf8_ValidString_0 (by kernel_rfl) (fun _=>rfl) utf8_ValidString_l0_eq).succ l_utf8_ValidString_1 (by kernel_rfl) (fun _=>rfl) utf8_ValidString_l1_eq) (by kernel_rfl) (by kernel_rfl)) utf8_ValidString_eq K
def g_utf8_ValidRune:Sig:={ fid:=79,Γ:=[(.int .i32)],args:=[(.var 0)],Δ:=[.bool],res:=(.var 0),f:=fun k x=>utf8_ValidRune k x }
def h_utf8_ValidRune:Hints (Bool):={}
def e_utf8_ValidRune:List Sig:=[]
theorem utf8_ValidRune_eq (k:Nat) (x:Int):utf8_ValidRune k x=fx xt e_utf8_ValidRune g_utf8_ValidRune Tryz.f79 h_utf8_ValidRune (bodyOf Tryz.f79) k x:=by kernel_rfl
theorem utf8_ValidRune_ok (K:Nat):SigOk Tryz.prog g_utf8_ValidRune K:=sig_fun (X:=xt) (g:=g_utf8_ValidRune) (H:=h_utf8_ValidRune) (env:=e_utf8_ValidRune) (c:=bodyOf Tryz.f79) xt_ok mixed (fun k=>AllOk.nil) Tryz.func79 (by kernel_rfl) (by kernel_rfl) (by kernel_rfl) (UpTo.all UpTo.zero (by kernel_rfl) (by kernel_rfl)) utf8_ValidRune_eq K
def g_runes_Class:Sig:={ fid:=50,Γ:=[(.int .i32)],args:=[(.var 0)],Δ:=[(.int .i64)],res:=(.var 0),f:=fun k x=>runes_Class k x }
def h_runes_Class:Hints (Int):={}
def e_runes_Class:List Sig:=[g_utf8_ValidRune]
theorem runes_Class_eq (k:Nat) (x:Int):runes_Class k x=fx xt e_runes_Class g_runes_Class Tryz.f50 h_runes_Class (bodyOf Tryz.f50) k x:=by kernel_rfl
theorem runes_Class_ok (K:Nat):SigOk Tryz.prog g_runes_Class K:=sig_fun (X:=xt) (g:=g_runes_Class) (H:=h_runes_Class) (env:=e_runes_Class) (c:=bodyOf Tryz.f50) xt_ok mixed (fun k=>(AllOk.cons (utf8_ValidRune_ok k) AllOk.nil)) Tryz.func50 (by kernel_rfl) (by kernel_rfl) (by kernel_rfl) (UpTo.all UpTo.zero (by kernel_rfl) (by kernel_rfl)) runes_Class_eq K
def g_runes_Name:Sig:={ fid:=118,Γ:=[.str],args:=[(.var 0)],Δ:=[.bool],res:=(.var 0),f:=fun k x=>runes_Name k x }
def l_runes_Name_0:LH (Bool):={ Γ:=[.str,(.int .i64)],live:=[(18,(.it 0))],sto:=[(0,(.iter 0 1))],nk:=1,F:=fun k x=>runes_Name_l0 k x.1 x.2 }
def h_runes_Name:Hints (Bool):={ loops:=[(4,l_runes_Name_0)] }
def e_runes_Name:List Sig:=[g_utf8_ValidString,g_runes_Class]
theorem runes_Name_eq (k:Nat) (x:(List UInt8)):runes_Name k x=fx xt e_runes_Name g_runes_Name Tryz.f118 h_runes_Name (bodyOf Tryz.f118) k x:=by kernel_rfl
theorem runes_Name_l0_eq (k:Nat) (x:(List UInt8)×Int):runes_Name_l0 (k+1) x.1 x.2=lrhs xt e_runes_Name 37 0 h_runes_Name (bodyOf Tryz.f118) (retK xt.T Tryz.f118.results g_runes_Name) 0 l_runes_Name_0 k x:=(runes_Name_l0.eq_def ..).trans (by kernel_rfl)
theorem runes_Name_ok (K:Nat):SigOk Tryz.prog g_runes_Name K:=sig_fun (X:=xt) (g:=g_runes_Name) (H:=h_runes_Name) (env:=e_runes_Name) (c:=bodyOf Tryz.f118) xt_ok mixed (fun k=>(AllOk.cons (utf8_ValidString_ok k) (AllOk.cons (runes_Class_ok k) AllOk.nil))) Tryz.func118 (by kernel_rfl) (by kernel_rfl) (by kernel_rfl) (UpTo.all (UpTo.zero.succ l_runes_Name_0 (by kernel_rfl) (fun _=>rfl) runes_Name_l0_eq) (by kernel_rfl) (by kernel_rfl)) runes_Name_eq K
def g_lexer_words:Sig:={ fid:=148,Γ:=[],args:=[],Δ:=[(.list false .str)],res:=(.var 0),f:=fun k _=>lexer_words k }
def h_lexer_words:Hints ((List (List UInt8))):={}
def e_lexer_words:List Sig:=[]
theorem lexer_words_eq (k:Nat) (x:Unit):lexer_words k=fx xt e_lexer_words g_lexer_words Tryz.f148 h_lexer_words (bodyOf Tryz.f148) k x:=by kernel_rfl
theorem lexer_words_ok (K:Nat):SigOk Tryz.prog g_lexer_words K:=sig_fun (X:=xt) (g:=g_lexer_words) (H:=h_lexer_words) (env:=e_lexer_words) (c:=bodyOf Tryz.f148) xt_ok mixed (fun k=>AllOk.nil) Tryz.func148 (by kernel_rfl) (by kernel_rfl) (by kernel_rfl) (UpTo.all UpTo.zero (by kernel_rfl) (by kernel_rfl)) lexer_words_eq K
def g_slices_Index:Sig:={ fid:=172,Γ:=[(.list false .str),.str],args:=[(.var 0),(.var 1)],Δ:=[(.int .i64)],res:=(.var 0),f:=fun k x=>slices_Index k x.1 x.2 }
def l_slices_Index_0:LH (Int):={ Γ:=[(.list false .str),.str,(.int .i64)],live:=[(0,(.var 0)),(1,(.var 1)),(7,(.len 0)),(8,(.var 2))],F:=fun k x=>slices_Index_l0 k x.1 x.2.1 x.2.2 }
def h_slices_Index:Hints (Int):={ loops:=[(2,l_slices_Index_0)] }
def e_slices_Index:List Sig:=[]
theorem slices_Index_eq (k:Nat) (x:(List (List UInt8))×(List UInt8)):slices_Index k x.1 x.2=fx xt e_slices_Index g_slices_Index Tryz.f172 h_slices_Index (bodyOf Tryz.f172) k x:=by kernel_rfl
theorem slices_Index_l0_eq (k:Nat) (x:(List (List UInt8))×(List UInt8)×Int):slices_Index_l0 (k+1) x.1 x.2.1 x.2.2=lrhs xt e_slices_Index 19 0 h_slices_Index (bodyOf Tryz.f172) (retK xt.T Tryz.f172.results g_slices_Index) 0 l_slices_Index_0 k x:=(slices_Index_l0.eq_def ..).trans (by kernel_rfl)
theorem slices_Index_ok (K:Nat):SigOk Tryz.prog g_slices_Index K:=sig_fun (X:=xt) (g:=g_slices_Index) (H:=h_slices_Index) (env:=e_slices_Index) (c:=bodyOf Tryz.f172) xt_ok mixed (fun k=>AllOk.nil) Tryz.func172 (by kernel_rfl) (by kernel_rfl) (by kernel_rfl) (UpTo.all (UpTo.zero.succ l_slices_Index_0 (by kernel_rfl) (fun _=>rfl) slices_Index_l0_eq) (by kernel_rfl) (by kernel_rfl)) slices_Index_eq K
def g_slices_Contains:Sig:={ fid:=147,Γ:=[(.list false .str),.str],args:=[(.var 0),(.var 1)],Δ:=[.bool],res:=(.var 0),f:=fun k x=>slices_Contains k x.1 x.2 }
def h_slices_Contains:Hints (Bool):={}
def e_slices_Contains:List Sig:=[g_slices_Index]
theorem slices_Contains_eq (k:Nat) (x:(List (List UInt8))×(List UInt8)):slices_Contains k x.1 x.2=fx xt e_slices_Contains g_slices_Contains Tryz.f147 h_slices_Contains (bodyOf Tryz.f147) k x:=by kernel_rfl
theorem slices_Contains_ok (K:Nat):SigOk Tryz.prog g_slices_Contains K:=sig_fun (X:=xt) (g:=g_slices_Contains) (H:=h_slices_Contains) (env:=e_slices_Contains) (c:=bodyOf Tryz.f147) xt_ok mixed (fun k=>(AllOk.cons (slices_Index_ok k) AllOk.nil)) Tryz.func147 (by kernel_rfl) (by kernel_rfl) (by kernel_rfl) (UpTo.all UpTo.zero (by kernel_rfl) (by kernel_rfl)) slices_Contains_eq K
def g_lexer_Word:Sig:={ fid:=117,Γ:=[.str],args:=[(.var 0)],Δ:=[.bool],res:=(.var 0),f:=fun k x=>lexer_Word k x }
def h_lexer_Word:Hints (Bool):={}
def e_lexer_Word:List Sig:=[g_lexer_words,g_slices_Contains]
theorem lexer_Word_eq (k:Nat) (x:(List UInt8)):lexer_Word k x=fx xt e_lexer_Word g_lexer_Word Tryz.f117 h_lexer_Word (bodyOf Tryz.f117) k x:=by kernel_rfl
theorem lexer_Word_ok (K:Nat):SigOk Tryz.prog g_lexer_Word K:=sig_fun (X:=xt) (g:=g_lexer_Word) (H:=h_lexer_Word) (env:=e_lexer_Word) (c:=bodyOf Tryz.f117) xt_ok mixed (fun k=>(AllOk.cons (lexer_words_ok k) (AllOk.cons (slices_Contains_ok k) AllOk.nil))) Tryz.func117 (by kernel_rfl) (by kernel_rfl) (by kernel_rfl) (UpTo.all UpTo.zero (by kernel_rfl) (by kernel_rfl)) lexer_Word_eq K
def g_names_Check:Sig:={ fid:=112,Γ:=[.str],args:=[(.var 0)],Δ:=[.bool],res:=(.var 0),f:=fun k x=>names_Check k x }
def h_names_Check:Hints (Bool):={}
def e_names_Check:List Sig:=[g_runes_Name,g_lexer_Word]
theorem names_Check_eq (k:Nat) (x:(List UInt8)):names_Check k x=fx xt e_names_Check g_names_Check Tryz.f112 h_names_Check (bodyOf Tryz.f112) k x:=by kernel_rfl
theorem names_Check_ok (K:Nat):SigOk Tryz.prog g_names_Check K:=sig_fun (X:=xt) (g:=g_names_Check) (H:=h_names_Check) (env:=e_names_Check) (c:=bodyOf Tryz.f112) xt_ok mixed (fun k=>(AllOk.cons (runes_Name_ok k) (AllOk.cons (lexer_Word_ok k) AllOk.nil))) Tryz.func112 (by kernel_rfl) (by kernel_rfl) (by kernel_rfl) (UpTo.all UpTo.zero (by kernel_rfl) (by kernel_rfl)) names_Check_eq K
def g_utf8_RuneCountInString:Sig:={ fid:=191,Γ:=[.str],args:=[(.var 0)],Δ:=[(.int .i64)],res:=(.var 0),f:=fun k x=>utf8_RuneCountInString k x }
def l_utf8_RuneCountInString_0:LH (Int):={ Γ:=[(.int .i64),.str,(.int .i64)],live:=[(2,(.var 0)),(4,(.it 0))],sto:=[(0,(.iter 1 2))],nk:=1,F:=fun k x=>utf8_RuneCountInString_l0 k x.1 x.2.1 x.2.2 }
def h_utf8_RuneCountInString:Hints (Int):={ loops:=[(2,l_utf8_RuneCountInString_0)] }
def e_utf8_RuneCountInString:List Sig:=[]
theorem utf8_RuneCountInString_eq (k:Nat) (x:(List UInt8)):utf8_RuneCountInString k x=fx xt e_utf8_RuneCountInString g_utf8_RuneCountInString Tryz.f191 h_utf8_RuneCountInString (bodyOf Tryz.f191) k x:=by kernel_rfl
theorem utf8_RuneCountInString_l0_eq (k:Nat) (x:Int×(List UInt8)×Int):utf8_RuneCountInString_l0 (k+1) x.1 x.2.1 x.2.2=lrhs xt e_utf8_RuneCountInString 10 0 h_utf8_RuneCountInString (bodyOf Tryz.f191) (retK xt.T Tryz.f191.results g_utf8_RuneCountInString) 0 l_utf8_RuneCountInString_0 k x:=(utf8_RuneCountInString_l0.eq_def ..).trans (by kernel_rfl)
theorem utf8_RuneCountInString_ok (K:Nat):SigOk Tryz.prog g_utf8_RuneCountInString K:=sig_fun (X:=xt) (g:=g_utf8_RuneCountInString) (H:=h_utf8_RuneCountInString) (env:=e_utf8_RuneCountInString) (c:=bodyOf Tryz.f191) xt_ok mixed (fun k=>AllOk.nil) Tryz.func191 (by kernel_rfl) (by kernel_rfl) (by kernel_rfl) (UpTo.all (UpTo.zero.succ l_utf8_RuneCountInString_0 (by kernel_rfl) (fun _=>rfl) utf8_RuneCountInString_l0_eq) (by kernel_rfl) (by kernel_rfl)) utf8_RuneCountInString_eq K
def g_utf8_decodeRuneInStringSlow:Sig:={ fid:=205,Γ:=[.str],args:=[(.var 0)],Δ:=[(.int .i32),(.int .i64)],res:=(.tup [(.var 0),(.var 1)]),f:=fun k x=>utf8_decodeRuneInStringSlow k x }
def c_utf8_decodeRuneInStringSlow_0:LH (Int×Int):={ Γ:=[.str,(.int .u8),(.int .i64),(.int .u8)],live:=[(0,(.var 0)),(5,(.var 1)),(8,(.var 2)),(10,(.var 3))],F:=fun k x=>utf8_decodeRuneInStringSlow_c0 k x.1 x.2.1 x.2.2.1 x.2.2.2 }
def h_utf8_decodeRuneInStringSlow:Hints (Int×Int):={ cuts:=[(16,c_utf8_decodeRuneInStringSlow_0)] }
def e_utf8_decodeRuneInStringSlow:List Sig:=[]
theorem utf8_decodeRuneInStringSlow_eq (k:Nat) (x:(List UInt8)):utf8_decodeRuneInStringSlow k x=fx xt e_utf8_decodeRuneInStringSlow g_utf8_decodeRuneInStringSlow Tryz.f205 h_utf8_decodeRuneInStringSlow (bodyOf Tryz.f205) k x:=by kernel_rfl
theorem utf8_decodeRuneInStringSlow_c0_eq (k:Nat) (x:(List UInt8)×Int×Int×Int):utf8_decodeRuneInStringSlow_c0 (k+1) x.1 x.2.1 x.2.2.1 x.2.2.2=lrhs xt e_utf8_decodeRuneInStringSlow 117 0 h_utf8_decodeRuneInStringSlow (bodyOf Tryz.f205) (retK xt.T Tryz.f205.results g_utf8_decodeRuneInStringSlow) 0 c_utf8_decodeRuneInStringSlow_0 k x:=(utf8_decodeRuneInStringSlow_c0.eq_def ..).trans (by kernel_rfl)
theorem utf8_decodeRuneInStringSlow_ok (K:Nat):SigOk Tryz.prog g_utf8_decodeRuneInStringSlow K:=sig_fun (X:=xt) (g:=g_utf8_decodeRuneInStringSlow) (H:=h_utf8_decodeRuneInStringSlow) (env:=e_utf8_decodeRuneInStringSlow) (c:=bodyOf Tryz.f205) xt_ok mixed (fun k=>AllOk.nil) Tryz.func205 (by kernel_rfl) (by kernel_rfl) (by kernel_rfl) (UpTo.all (UpTo.zero.succ c_utf8_decodeRuneInStringSlow_0 (by kernel_rfl) (fun _=>rfl) utf8_decodeRuneInStringSlow_c0_eq) (by kernel_rfl) (by kernel_rfl)) utf8_decodeRuneInStringSlow_eq K
def g_utf8_DecodeRuneInString:Sig:={ fid:=192,Γ:=[.str],args:=[(.var 0)],Δ:=[(.int .i32),(.int .i64)],res:=(.tup [(.var 0),(.var 1)]),f:=fun k x=>utf8_DecodeRuneInString k x }
def h_utf8_DecodeRuneInString:Hints (Int×Int):={}
def e_utf8_DecodeRuneInString:List Sig:=[g_utf8_decodeRuneInStringSlow]
theorem utf8_DecodeRuneInString_eq (k:Nat) (x:(List UInt8)):utf8_DecodeRuneInString k x=fx xt e_utf8_DecodeRuneInString g_utf8_DecodeRuneInString Tryz.f192 h_utf8_DecodeRuneInString (bodyOf Tryz.f192) k x:=by kernel_rfl
theorem utf8_DecodeRuneInString_ok (K:Nat):SigOk Tryz.prog g_utf8_DecodeRuneInString K:=sig_fun (X:=xt) (g:=g_utf8_DecodeRuneInString) (H:=h_utf8_DecodeRuneInString) (env:=e_utf8_DecodeRuneInString) (c:=bodyOf Tryz.f192) xt_ok mixed (fun k=>(AllOk.cons (utf8_decodeRuneInStringSlow_ok k) AllOk.nil)) Tryz.func192 (by kernel_rfl) (by kernel_rfl) (by kernel_rfl) (UpTo.all UpTo.zero (by kernel_rfl) (by kernel_rfl)) utf8_DecodeRuneInString_eq K
def g_strings_explode:Sig:={ fid:=182,Γ:=[.str,(.int .i64)],args:=[(.var 0),(.var 1)],Δ:=[(.list false .str)],res:=(.var 0),f:=fun k x=>strings_explode k x.1 x.2 }
def c_strings_explode_0:LH ((List (List UInt8))):={ Γ:=[.str,(.int .i64)],live:=[(0,(.var 0)),(1,(.var 1))],F:=fun k x=>strings_explode_c0 k x.1 x.2 }
def l_strings_explode_0:LH ((List (List UInt8))):={ Γ:=[.str,(.int .i64),(.list false .str),(.int .i64)],live:=[(0,(.var 0)),(1,(.var 1)),(6,(.row 0 2)),(7,(.var 3))],sto:=[(0,(.list 9 2 none))],nk:=1,F:=fun k x=>strings_explode_l0 k x.1 x.2.1 x.2.2.1 x.2.2.2 }
def h_strings_explode:Hints ((List (List UInt8))):={ loops:=[(6,l_strings_explode_0)],cuts:=[(4,c_strings_explode_0)] }
def e_strings_explode:List Sig:=[g_utf8_RuneCountInString,g_utf8_DecodeRuneInString]
theorem strings_explode_eq (k:Nat) (x:(List UInt8)×Int):strings_explode k x.1 x.2=fx xt e_strings_explode g_strings_explode Tryz.f182 h_strings_explode (bodyOf Tryz.f182) k x:=by kernel_rfl
theorem strings_explode_c0_eq (k:Nat) (x:(List UInt8)×Int):strings_explode_c0 (k+1) x.1 x.2=lrhs xt e_strings_explode 50 0 h_strings_explode (bodyOf Tryz.f182) (retK xt.T Tryz.f182.results g_strings_explode) 0 c_strings_explode_0 k x:=(strings_explode_c0.eq_def ..).trans (by kernel_rfl)
theorem strings_explode_l0_eq (k:Nat) (x:(List UInt8)×Int×(List (List UInt8))×Int):strings_explode_l0 (k+1) x.1 x.2.1 x.2.2.1 x.2.2.2=lrhs xt e_strings_explode 50 0 h_strings_explode (bodyOf Tryz.f182) (retK xt.T Tryz.f182.results g_strings_explode) 1 l_strings_explode_0 k x:=(strings_explode_l0.eq_def ..).trans (by kernel_rfl)
theorem strings_explode_ok (K:Nat):SigOk Tryz.prog g_strings_explode K:=sig_fun (X:=xt) (g:=g_strings_explode) (H:=h_strings_explode) (env:=e_strings_explode) (c:=bodyOf Tryz.f182) xt_ok mixed (fun k=>(AllOk.cons (utf8_RuneCountInString_ok k) (AllOk.cons (utf8_DecodeRuneInString_ok k) AllOk.nil))) Tryz.func182 (by kernel_rfl) (by kernel_rfl) (by kernel_rfl) (UpTo.all ((UpTo.zero.succ c_strings_explode_0 (by kernel_rfl) (fun _=>rfl) strings_explode_c0_eq).succ l_strings_explode_0 (by kernel_rfl) (fun _=>rfl) strings_explode_l0_eq) (by kernel_rfl) (by kernel_rfl)) strings_explode_eq K
def g_strings_Count:Sig:={ fid:=183,Γ:=[.str,.str],args:=[(.var 0),(.var 1)],Δ:=[(.int .i64)],res:=(.var 0),f:=fun k x=>strings_Count k x.1 x.2 }
set_option maxHeartbeats 2000000 in
theorem c_strings_Count (s:ByteArray) (c:UInt8) (w:World):Calls Tryz.prog 183 #[.string s,.string ⟨#[c]⟩] w fun e w'=>e=.returned (.int .i64 (Lib.countByte s.data.toList c))∧w'=w:=by
  go_enter Tryz.func183,Tryz.ntmps183
  go_wp2
  rw [run_callFunc_extern Tryz.func193 (by kernel_rfl) (by kernel_rfl) (by kernel_rfl) (e:=Extern.BytealgCount.count) (by kernel_rfl),Lib.run_countString]
  simp only [Result.andThen]
  rw [Oper.upon_value]
  go_wp2
  go_ret
  exact ⟨rfl,rfl⟩
theorem strings_Count_ok (K:Nat):SigOk Tryz.prog g_strings_Count K:=sigok_ss_i (f:=strings_Count) ⟨_,Tryz.func183,by kernel_rfl,by kernel_rfl⟩ fun a b y h w=>by
  unfold strings_Count at h
  split at h
  · cases h; exact c_strings_Count ⟨a.toArray⟩ _ w
  · cases h
def g_strings_Index:Sig:={ fid:=184,Γ:=[.str,.str],args:=[(.var 0),(.var 1)],Δ:=[(.int .i64)],res:=(.var 0),f:=fun k x=>strings_Index k x.1 x.2 }
set_option maxHeartbeats 2000000 in
theorem c_IndexByte (s:ByteArray) (c:Int) (w:World):Calls Tryz.prog 206 #[.string s,.int .u8 c] w fun e w'=>e=.returned (.int .i64 (Lib.indexByte s.data.toList c.toNat.toUInt8))∧w'=w:=by
  go_enter Tryz.func206,Tryz.ntmps206
  go_wp2
  rw [run_callFunc_extern Tryz.func213 (by kernel_rfl) (by kernel_rfl) (by kernel_rfl) (e:=Extern.BytealgIndexByte.indexByte) (by kernel_rfl),Lib.run_indexByteString]
  simp only [Result.andThen]
  rw [Oper.upon_value]
  go_wp2
  go_ret
  exact ⟨rfl,rfl⟩
set_option maxHeartbeats 2000000 in
theorem c_IndexLite (s:ByteArray) (c:UInt8) (w:World):Calls Tryz.prog 194 #[.string s,.string ⟨#[c]⟩] w fun e w'=>e=.returned (.int .i64 (Lib.indexByte s.data.toList c))∧w'=w:=by
  go_enter Tryz.func194,Tryz.ntmps194
  go_wp2_with (go_at_call 206; refine (c_IndexByte _ _ _).mono ?_; rintro e w' ⟨rfl,rfl⟩)
  · have h:([c] == s.toList)=true:=by assumption
    go_ret
    refine ⟨?_,rfl⟩
    have e:s.data.toList=[c]:=by rw [← Lib.toList_data]; exact (beq_iff_eq.1 h).symm
    rw [e]
    simp [Lib.indexByte]
  · go_ret
    exact ⟨rfl,rfl⟩
set_option maxHeartbeats 2000000 in
theorem c_strings_Index (s:ByteArray) (c:UInt8) (w:World):Calls Tryz.prog 184 #[.string s,.string ⟨#[c]⟩] w fun e w'=>e=.returned (.int .i64 (Lib.indexByte s.data.toList c))∧w'=w:=by
  go_enter Tryz.func184,Tryz.ntmps184
  go_wp2_with (go_at_call 194; refine (c_IndexLite _ _ _).mono ?_; rintro e w' ⟨rfl,rfl⟩)
  go_ret
  exact ⟨rfl,rfl⟩
theorem strings_Index_ok (K:Nat):SigOk Tryz.prog g_strings_Index K:=sigok_ss_i (f:=strings_Index) ⟨_,Tryz.func184,by kernel_rfl,by kernel_rfl⟩ fun a b y h w=>by
  unfold strings_Index at h
  split at h
  · cases h; exact c_strings_Index ⟨a.toArray⟩ _ w
  · cases h
def g_strings_genSplit:Sig:={ fid:=169,Γ:=[.str,.str,(.int .i64),(.int .i64)],args:=[(.var 0),(.var 1),(.var 2),(.var 3)],Δ:=[(.list false .str)],res:=(.var 0),f:=fun k x=>strings_genSplit k x.1 x.2.1 x.2.2.1 x.2.2.2 }
def c_strings_genSplit_0:LH ((List (List UInt8))):={ Γ:=[.str,.str,(.int .i64),(.int .i64)],live:=[(0,(.var 0)),(1,(.var 1)),(2,(.var 2)),(3,(.var 3))],F:=fun k x=>strings_genSplit_c0 k x.1 x.2.1 x.2.2.1 x.2.2.2 }
def l_strings_genSplit_0:LH ((List (List UInt8))):={ Γ:=[.str,.str,(.int .i64),(.int .i64),(.list false .str),(.int .i64)],live:=[(0,(.var 0)),(1,(.var 1)),(2,(.var 2)),(3,(.var 3)),(9,(.row 0 4)),(10,(.var 5))],sto:=[(0,(.list 9 4 none))],nk:=1,F:=fun k x=>strings_genSplit_l0 k x.1 x.2.1 x.2.2.1 x.2.2.2.1 x.2.2.2.2.1 x.2.2.2.2.2 }
def h_strings_genSplit:Hints ((List (List UInt8))):={ loops:=[(11,l_strings_genSplit_0)],adr:=[(18,[.f 9])],cuts:=[(7,c_strings_genSplit_0)] }
def e_strings_genSplit:List Sig:=[g_strings_explode,g_strings_Count,g_strings_Index]
theorem strings_genSplit_eq (k:Nat) (x:(List UInt8)×(List UInt8)×Int×Int):strings_genSplit k x.1 x.2.1 x.2.2.1 x.2.2.2=fx xt e_strings_genSplit g_strings_genSplit Tryz.f169 h_strings_genSplit (bodyOf Tryz.f169) k x:=by kernel_rfl
theorem strings_genSplit_c0_eq (k:Nat) (x:(List UInt8)×(List UInt8)×Int×Int):strings_genSplit_c0 (k+1) x.1 x.2.1 x.2.2.1 x.2.2.2=lrhs xt e_strings_genSplit 66 0 h_strings_genSplit (bodyOf Tryz.f169) (retK xt.T Tryz.f169.results g_strings_genSplit) 0 c_strings_genSplit_0 k x:=(strings_genSplit_c0.eq_def ..).trans (by kernel_rfl)
theorem strings_genSplit_l0_eq (k:Nat) (x:(List UInt8)×(List UInt8)×Int×Int×(List (List UInt8))×Int):strings_genSplit_l0 (k+1) x.1 x.2.1 x.2.2.1 x.2.2.2.1 x.2.2.2.2.1 x.2.2.2.2.2=lrhs xt e_strings_genSplit 66 0 h_strings_genSplit (bodyOf Tryz.f169) (retK xt.T Tryz.f169.results g_strings_genSplit) 1 l_strings_genSplit_0 k x:=(strings_genSplit_l0.eq_def ..).trans (by kernel_rfl)
theorem strings_genSplit_ok (K:Nat):SigOk Tryz.prog g_strings_genSplit K:=sig_fun (X:=xt) (g:=g_strings_genSplit) (H:=h_strings_genSplit) (env:=e_strings_genSplit) (c:=bodyOf Tryz.f169) xt_ok mixed (fun k=>(AllOk.cons (strings_explode_ok k) (AllOk.cons (strings_Count_ok k) (AllOk.cons (strings_Index_ok k) AllOk.nil)))) Tryz.func169 (by kernel_rfl) (by kernel_rfl) (by kernel_rfl) (UpTo.all ((UpTo.zero.succ c_strings_genSplit_0 (by kernel_rfl) (fun _=>rfl) strings_genSplit_c0_eq).succ l_strings_genSplit_0 (by kernel_rfl) (fun _=>rfl) strings_genSplit_l0_eq) (by kernel_rfl) (by kernel_rfl)) strings_genSplit_eq K
def g_strings_Split:Sig:={ fid:=143,Γ:=[.str,.str],args:=[(.var 0),(.var 1)],Δ:=[(.list false .str)],res:=(.var 0),f:=fun k x=>strings_Split k x.1 x.2 }
def h_strings_Split:Hints ((List (List UInt8))):={}
def e_strings_Split:List Sig:=[g_strings_genSplit]
theorem strings_Split_eq (k:Nat) (x:(List UInt8)×(List UInt8)):strings_Split k x.1 x.2=fx xt e_strings_Split g_strings_Split Tryz.f143 h_strings_Split (bodyOf Tryz.f143) k x:=by kernel_rfl
theorem strings_Split_ok (K:Nat):SigOk Tryz.prog g_strings_Split K:=sig_fun (X:=xt) (g:=g_strings_Split) (H:=h_strings_Split) (env:=e_strings_Split) (c:=bodyOf Tryz.f143) xt_ok mixed (fun k=>(AllOk.cons (strings_genSplit_ok k) AllOk.nil)) Tryz.func143 (by kernel_rfl) (by kernel_rfl) (by kernel_rfl) (UpTo.all UpTo.zero (by kernel_rfl) (by kernel_rfl)) strings_Split_eq K
def g_names_Long_1:Sig:={ fid:=141,Γ:=[.str],args:=[(.var 0)],Δ:=[.bool],res:=(.var 0),f:=fun k x=>names_Long_1 k x }
def h_names_Long_1:Hints (Bool):={}
def e_names_Long_1:List Sig:=[g_names_Check]
theorem names_Long_1_eq (k:Nat) (x:(List UInt8)):names_Long_1 k x=fx xt e_names_Long_1 g_names_Long_1 Tryz.f141 h_names_Long_1 (bodyOf Tryz.f141) k x:=by kernel_rfl
theorem names_Long_1_ok (K:Nat):SigOk Tryz.prog g_names_Long_1 K:=sig_fun (X:=xt) (g:=g_names_Long_1) (H:=h_names_Long_1) (env:=e_names_Long_1) (c:=bodyOf Tryz.f141) xt_ok mixed (fun k=>(AllOk.cons (names_Check_ok k) AllOk.nil)) Tryz.func141 (by kernel_rfl) (by kernel_rfl) (by kernel_rfl) (UpTo.all UpTo.zero (by kernel_rfl) (by kernel_rfl)) names_Long_1_eq K
def g_slices_IndexFunc_2:Sig:={ fid:=168,Γ:=[(.list false .str)],args:=[(.var 0),(.fn 141 [] [])],Δ:=[(.int .i64)],res:=(.var 0),f:=fun k x=>slices_IndexFunc_2 k x }
def l_slices_IndexFunc_2_0:LH (Int):={ Γ:=[(.list false .str),(.int .i64)],live:=[(0,(.var 0)),(1,(.fn 141 [] [])),(7,(.len 0)),(8,(.var 1))],F:=fun k x=>slices_IndexFunc_2_l0 k x.1 x.2 }
def h_slices_IndexFunc_2:Hints (Int):={ loops:=[(2,l_slices_IndexFunc_2_0)] }
def e_slices_IndexFunc_2:List Sig:=[g_names_Long_1]
theorem slices_IndexFunc_2_eq (k:Nat) (x:(List (List UInt8))):slices_IndexFunc_2 k x=fx xt e_slices_IndexFunc_2 g_slices_IndexFunc_2 Tryz.f168 h_slices_IndexFunc_2 (bodyOf Tryz.f168) k x:=by kernel_rfl
theorem slices_IndexFunc_2_l0_eq (k:Nat) (x:(List (List UInt8))×Int):slices_IndexFunc_2_l0 (k+1) x.1 x.2=lrhs xt e_slices_IndexFunc_2 19 0 h_slices_IndexFunc_2 (bodyOf Tryz.f168) (retK xt.T Tryz.f168.results g_slices_IndexFunc_2) 0 l_slices_IndexFunc_2_0 k x:=(slices_IndexFunc_2_l0.eq_def ..).trans (by kernel_rfl)
theorem slices_IndexFunc_2_ok (K:Nat):SigOk Tryz.prog g_slices_IndexFunc_2 K:=sig_fun (X:=xt) (g:=g_slices_IndexFunc_2) (H:=h_slices_IndexFunc_2) (env:=e_slices_IndexFunc_2) (c:=bodyOf Tryz.f168) xt_ok mixed (fun k=>(AllOk.cons (names_Long_1_ok k) AllOk.nil)) Tryz.func168 (by kernel_rfl) (by kernel_rfl) (by kernel_rfl) (UpTo.all (UpTo.zero.succ l_slices_IndexFunc_2_0 (by kernel_rfl) (fun _=>rfl) slices_IndexFunc_2_l0_eq) (by kernel_rfl) (by kernel_rfl)) slices_IndexFunc_2_eq K
def g_slices_ContainsFunc_2:Sig:={ fid:=142,Γ:=[(.list false .str)],args:=[(.var 0),(.fn 141 [] [])],Δ:=[.bool],res:=(.var 0),f:=fun k x=>slices_ContainsFunc_2 k x }
def h_slices_ContainsFunc_2:Hints (Bool):={}
def e_slices_ContainsFunc_2:List Sig:=[g_slices_IndexFunc_2]
theorem slices_ContainsFunc_2_eq (k:Nat) (x:(List (List UInt8))):slices_ContainsFunc_2 k x=fx xt e_slices_ContainsFunc_2 g_slices_ContainsFunc_2 Tryz.f142 h_slices_ContainsFunc_2 (bodyOf Tryz.f142) k x:=by kernel_rfl
theorem slices_ContainsFunc_2_ok (K:Nat):SigOk Tryz.prog g_slices_ContainsFunc_2 K:=sig_fun (X:=xt) (g:=g_slices_ContainsFunc_2) (H:=h_slices_ContainsFunc_2) (env:=e_slices_ContainsFunc_2) (c:=bodyOf Tryz.f142) xt_ok mixed (fun k=>(AllOk.cons (slices_IndexFunc_2_ok k) AllOk.nil)) Tryz.func142 (by kernel_rfl) (by kernel_rfl) (by kernel_rfl) (UpTo.all UpTo.zero (by kernel_rfl) (by kernel_rfl)) slices_ContainsFunc_2_eq K
def g_names_Long:Sig:={ fid:=110,Γ:=[.str],args:=[(.var 0)],Δ:=[.bool],res:=(.var 0),f:=fun k x=>names_Long k x }
def h_names_Long:Hints (Bool):={}
def e_names_Long:List Sig:=[g_strings_Split,g_slices_ContainsFunc_2]
theorem names_Long_eq (k:Nat) (x:(List UInt8)):names_Long k x=fx xt e_names_Long g_names_Long Tryz.f110 h_names_Long (bodyOf Tryz.f110) k x:=by kernel_rfl
theorem names_Long_ok (K:Nat):SigOk Tryz.prog g_names_Long K:=sig_fun (X:=xt) (g:=g_names_Long) (H:=h_names_Long) (env:=e_names_Long) (c:=bodyOf Tryz.f110) xt_ok mixed (fun k=>(AllOk.cons (strings_Split_ok k) (AllOk.cons (slices_ContainsFunc_2_ok k) AllOk.nil))) Tryz.func110 (by kernel_rfl) (by kernel_rfl) (by kernel_rfl) (UpTo.all UpTo.zero (by kernel_rfl) (by kernel_rfl)) names_Long_eq K
def g_shape_kids:Sig:={ fid:=111,Γ:=[.tree],args:=[(.var 0),.nils],Δ:=[.bool],res:=(.var 0),f:=fun k x=>shape_kids k x }
def l_shape_kids_0:LH (Bool):={ Γ:=[.tree],live:=[(0,(.var 0)),(15,.nils),(16,(.int .i64 0)),(17,(.int .i64 0))],F:=fun k x=>shape_kids_l0 k x }
def h_shape_kids:Hints (Bool):={ loops:=[(4,l_shape_kids_0)] }
def e_shape_kids:List Sig:=[]
theorem shape_kids_eq (k:Nat) (x:Tr):shape_kids k x=fx xt e_shape_kids g_shape_kids Tryz.f111 h_shape_kids (bodyOf Tryz.f111) k x:=by kernel_rfl
theorem shape_kids_l0_eq (k:Nat) (x:Tr):shape_kids_l0 (k+1) x=lrhs xt e_shape_kids 33 0 h_shape_kids (bodyOf Tryz.f111) (retK xt.T Tryz.f111.results g_shape_kids) 0 l_shape_kids_0 k x:=(shape_kids_l0.eq_def ..).trans (by kernel_rfl)
theorem shape_kids_ok (K:Nat):SigOk Tryz.prog g_shape_kids K:=sig_fun (X:=xt) (g:=g_shape_kids) (H:=h_shape_kids) (env:=e_shape_kids) (c:=bodyOf Tryz.f111) xt_ok mixed (fun k=>AllOk.nil) Tryz.func111 (by kernel_rfl) (by kernel_rfl) (by kernel_rfl) (UpTo.all (UpTo.zero.succ l_shape_kids_0 (by kernel_rfl) (fun _=>rfl) shape_kids_l0_eq) (by kernel_rfl) (by kernel_rfl)) shape_kids_eq K
def g_shape_cons:Sig:={ fid:=114,Γ:=[.tree],args:=[(.var 0)],Δ:=[.bool],res:=(.var 0),f:=fun k x=>shape_cons k x }
def g_shape_kids_2:Sig:={ fid:=111,Γ:=[.tree],args:=[(.var 0),(.slc [(.fn 113 [] []),(.fn 113 [] [])] 2 true)],Δ:=[.bool],res:=(.var 0),f:=fun k x=>shape_kids_2 k x }
def g_shape_isType:Sig:={ fid:=113,Γ:=[.tree],args:=[(.var 0)],Δ:=[.bool],res:=(.var 0),f:=fun k x=>shape_isType k x }
def g_shape_kids_3:Sig:={ fid:=111,Γ:=[.tree],args:=[(.var 0),(.slc [(.fn 113 [] [])] 1 true)],Δ:=[.bool],res:=(.var 0),f:=fun k x=>shape_kids_3 k x }
def l_shape_cons_0:LH (Bool):={ Γ:=[.tree,(.list false .tree),(.int .i64),(.list false (.pair .str .bool))],live:=[(0,(.var 0)),(3,(.mp 0)),(10,(.var 1)),(11,(.len 1)),(12,(.var 2))],sto:=[(0,(.map 3))],nk:=1,F:=fun k x=>shape_cons_l0 k x.1 x.2.1 x.2.2.1 x.2.2.2 }
def h_shape_cons:Hints (Bool):={ loops:=[(3,l_shape_cons_0)] }
def e_shape_cons:List Sig:=[g_shape_bare,g_names_Check,g_shape_kids_3]
theorem shape_cons_eq (k:Nat) (x:Tr):shape_cons (k+1) x=fx xt e_shape_cons g_shape_cons Tryz.f114 h_shape_cons (bodyOf Tryz.f114) k x:=(shape_cons.eq_def ..).trans (by kernel_rfl)
theorem shape_cons_l0_eq (k:Nat) (x:Tr×(List Tr)×Int×(List ((List UInt8)×Bool))):shape_cons_l0 (k+1) x.1 x.2.1 x.2.2.1 x.2.2.2=lrhs xt e_shape_cons 60 0 h_shape_cons (bodyOf Tryz.f114) (retK xt.T Tryz.f114.results g_shape_cons) 0 l_shape_cons_0 k x:=(shape_cons_l0.eq_def ..).trans (by kernel_rfl)
def h_shape_kids_2:Hints (Bool):={ unr:=[(4,13)] }
def e_shape_kids_2:List Sig:=[g_shape_isType]
theorem shape_kids_2_eq (k:Nat) (x:Tr):shape_kids_2 (k+1) x=fx xt e_shape_kids_2 g_shape_kids_2 Tryz.f111 h_shape_kids_2 (bodyOf Tryz.f111) k x:=(shape_kids_2.eq_def ..).trans (by kernel_rfl)
def h_shape_isType:Hints (Bool):={}
def e_shape_isType:List Sig:=[g_shape_bare,g_shape_kids,g_names_Long,g_shape_kids_2,g_names_Check,g_shape_cons]
theorem shape_isType_eq (k:Nat) (x:Tr):shape_isType (k+1) x=fx xt e_shape_isType g_shape_isType Tryz.f113 h_shape_isType (bodyOf Tryz.f113) k x:=(shape_isType.eq_def ..).trans (by kernel_rfl)
def h_shape_kids_3:Hints (Bool):={ unr:=[(4,13)] }
def e_shape_kids_3:List Sig:=[g_shape_isType]
theorem shape_kids_3_eq (k:Nat) (x:Tr):shape_kids_3 (k+1) x=fx xt e_shape_kids_3 g_shape_kids_3 Tryz.f111 h_shape_kids_3 (bodyOf Tryz.f111) k x:=(shape_kids_3.eq_def ..).trans (by kernel_rfl)
theorem shape_cons_all (K:Nat):SigOk Tryz.prog g_shape_cons K∧SigOk Tryz.prog g_shape_kids_2 K∧SigOk Tryz.prog g_shape_isType K∧SigOk Tryz.prog g_shape_kids_3 K:=by
  induction K using Nat.strongRecOn with
  | ind K ih=>exact ⟨sig_rec (X:=xt) (g:=g_shape_cons) (H:=h_shape_cons) (env:=e_shape_cons) (c:=bodyOf Tryz.f114) xt_ok mixed (fun k hk=>(AllOk.cons (shape_bare_ok k) (AllOk.cons (names_Check_ok k) (AllOk.cons (ih k hk).2.2.2 AllOk.nil)))) Tryz.func114 (by kernel_rfl) (by kernel_rfl) (by kernel_rfl) (UpTo.all (UpTo.zero.succ l_shape_cons_0 (by kernel_rfl) (fun _=>rfl) shape_cons_l0_eq) (by kernel_rfl) (by kernel_rfl)) (fun _=>rfl) shape_cons_eq,sig_rec (X:=xt) (g:=g_shape_kids_2) (H:=h_shape_kids_2) (env:=e_shape_kids_2) (c:=bodyOf Tryz.f111) xt_ok mixed (fun k hk=>(AllOk.cons (ih k hk).2.2.1 AllOk.nil)) Tryz.func111 (by kernel_rfl) (by kernel_rfl) (by kernel_rfl) (UpTo.all UpTo.zero (by kernel_rfl) (by kernel_rfl)) (fun _=>rfl) shape_kids_2_eq,sig_rec (X:=xt) (g:=g_shape_isType) (H:=h_shape_isType) (env:=e_shape_isType) (c:=bodyOf Tryz.f113) xt_ok mixed (fun k hk=>(AllOk.cons (shape_bare_ok k) (AllOk.cons (shape_kids_ok k) (AllOk.cons (names_Long_ok k) (AllOk.cons (ih k hk).2.1 (AllOk.cons (names_Check_ok k) (AllOk.cons (ih k hk).1 AllOk.nil))))))) Tryz.func113 (by kernel_rfl) (by kernel_rfl) (by kernel_rfl) (UpTo.all UpTo.zero (by kernel_rfl) (by kernel_rfl)) (fun _=>rfl) shape_isType_eq,sig_rec (X:=xt) (g:=g_shape_kids_3) (H:=h_shape_kids_3) (env:=e_shape_kids_3) (c:=bodyOf Tryz.f111) xt_ok mixed (fun k hk=>(AllOk.cons (ih k hk).2.2.1 AllOk.nil)) Tryz.func111 (by kernel_rfl) (by kernel_rfl) (by kernel_rfl) (UpTo.all UpTo.zero (by kernel_rfl) (by kernel_rfl)) (fun _=>rfl) shape_kids_3_eq⟩
theorem shape_cons_ok (K:Nat):SigOk Tryz.prog g_shape_cons K:=(shape_cons_all K).1
theorem shape_isType_ok (K:Nat):SigOk Tryz.prog g_shape_isType K:=(shape_cons_all K).2.2.1
theorem shape_kids_3_ok (K:Nat):SigOk Tryz.prog g_shape_kids_3 K:=(shape_cons_all K).2.2.2
def g_shape_kids_10:Sig:={ fid:=111,Γ:=[.tree],args:=[(.var 0),(.slc [(.fn 74 [] []),(.fn 113 [] [])] 2 true)],Δ:=[.bool],res:=(.var 0),f:=fun k x=>shape_kids_10 k x }
def g_shape_isSpec:Sig:={ fid:=75,Γ:=[.tree],args:=[(.var 0)],Δ:=[.bool],res:=(.var 0),f:=fun k x=>shape_isSpec k x }
def g_shape_each_4:Sig:={ fid:=93,Γ:=[.tree,(.int .i64)],args:=[(.var 0),(.var 1),(.fn 75 [] [])],Δ:=[.bool],res:=(.var 0),f:=fun k x=>shape_each_4 k x.1 x.2 }
def g_shape_isSig:Sig:={ fid:=74,Γ:=[.tree],args:=[(.var 0)],Δ:=[.bool],res:=(.var 0),f:=fun k x=>shape_isSig k x }
def g_shape_kids_9:Sig:={ fid:=111,Γ:=[.tree],args:=[(.var 0),(.slc [(.fn 74 [] [])] 1 true)],Δ:=[.bool],res:=(.var 0),f:=fun k x=>shape_kids_9 k x }
def h_shape_kids_10:Hints (Bool):={ unr:=[(4,13)] }
def e_shape_kids_10:List Sig:=[g_shape_isSig,g_shape_isType]
theorem shape_kids_10_eq (k:Nat) (x:Tr):shape_kids_10 (k+1) x=fx xt e_shape_kids_10 g_shape_kids_10 Tryz.f111 h_shape_kids_10 (bodyOf Tryz.f111) k x:=(shape_kids_10.eq_def ..).trans (by kernel_rfl)
def h_shape_isSpec:Hints (Bool):={}
def e_shape_isSpec:List Sig:=[g_shape_bare,g_shape_kids_9,g_names_Long,g_shape_kids,g_names_Check,g_shape_kids_3,g_shape_cons]
theorem shape_isSpec_eq (k:Nat) (x:Tr):shape_isSpec (k+1) x=fx xt e_shape_isSpec g_shape_isSpec Tryz.f75 h_shape_isSpec (bodyOf Tryz.f75) k x:=(shape_isSpec.eq_def ..).trans (by kernel_rfl)
def l_shape_each_4_0:LH (Bool):={ Γ:=[(.list false .tree),(.int .i64)],live:=[(2,(.fn 75 [] [])),(14,(.var 0)),(15,(.len 0)),(16,(.var 1))],F:=fun k x=>shape_each_4_l0 k x.1 x.2 }
def h_shape_each_4:Hints (Bool):={ loops:=[(2,l_shape_each_4_0)] }
def e_shape_each_4:List Sig:=[g_shape_isSpec]
theorem shape_each_4_eq (k:Nat) (x:Tr×Int):shape_each_4 (k+1) x.1 x.2=fx xt e_shape_each_4 g_shape_each_4 Tryz.f93 h_shape_each_4 (bodyOf Tryz.f93) k x:=(shape_each_4.eq_def ..).trans (by kernel_rfl)
theorem shape_each_4_l0_eq (k:Nat) (x:(List Tr)×Int):shape_each_4_l0 (k+1) x.1 x.2=lrhs xt e_shape_each_4 25 0 h_shape_each_4 (bodyOf Tryz.f93) (retK xt.T Tryz.f93.results g_shape_each_4) 0 l_shape_each_4_0 k x:=(shape_each_4_l0.eq_def ..).trans (by kernel_rfl)
def h_shape_isSig:Hints (Bool):={}
def e_shape_isSig:List Sig:=[g_shape_bare,g_shape_each_4,g_names_Check,g_shape_kids,g_names_Long,g_shape_kids_10]
theorem shape_isSig_eq (k:Nat) (x:Tr):shape_isSig (k+1) x=fx xt e_shape_isSig g_shape_isSig Tryz.f74 h_shape_isSig (bodyOf Tryz.f74) k x:=(shape_isSig.eq_def ..).trans (by kernel_rfl)
def h_shape_kids_9:Hints (Bool):={ unr:=[(4,13)] }
def e_shape_kids_9:List Sig:=[g_shape_isSig]
theorem shape_kids_9_eq (k:Nat) (x:Tr):shape_kids_9 (k+1) x=fx xt e_shape_kids_9 g_shape_kids_9 Tryz.f111 h_shape_kids_9 (bodyOf Tryz.f111) k x:=(shape_kids_9.eq_def ..).trans (by kernel_rfl)
theorem shape_kids_10_all (K:Nat):SigOk Tryz.prog g_shape_kids_10 K∧SigOk Tryz.prog g_shape_isSpec K∧SigOk Tryz.prog g_shape_each_4 K∧SigOk Tryz.prog g_shape_isSig K∧SigOk Tryz.prog g_shape_kids_9 K:=by
  induction K using Nat.strongRecOn with
  | ind K ih=>exact ⟨sig_rec (X:=xt) (g:=g_shape_kids_10) (H:=h_shape_kids_10) (env:=e_shape_kids_10) (c:=bodyOf Tryz.f111) xt_ok mixed (fun k hk=>(AllOk.cons (ih k hk).2.2.2.1 (AllOk.cons (shape_isType_ok k) AllOk.nil))) Tryz.func111 (by kernel_rfl) (by kernel_rfl) (by kernel_rfl) (UpTo.all UpTo.zero (by kernel_rfl) (by kernel_rfl)) (fun _=>rfl) shape_kids_10_eq,sig_rec (X:=xt) (g:=g_shape_isSpec) (H:=h_shape_isSpec) (env:=e_shape_isSpec) (c:=bodyOf Tryz.f75) xt_ok mixed (fun k hk=>(AllOk.cons (shape_bare_ok k) (AllOk.cons (ih k hk).2.2.2.2 (AllOk.cons (names_Long_ok k) (AllOk.cons (shape_kids_ok k) (AllOk.cons (names_Check_ok k) (AllOk.cons (shape_kids_3_ok k) (AllOk.cons (shape_cons_ok k) AllOk.nil)))))))) Tryz.func75 (by kernel_rfl) (by kernel_rfl) (by kernel_rfl) (UpTo.all UpTo.zero (by kernel_rfl) (by kernel_rfl)) (fun _=>rfl) shape_isSpec_eq,sig_rec (X:=xt) (g:=g_shape_each_4) (H:=h_shape_each_4) (env:=e_shape_each_4) (c:=bodyOf Tryz.f93) xt_ok mixed (fun k hk=>(AllOk.cons (ih k hk).2.1 AllOk.nil)) Tryz.func93 (by kernel_rfl) (by kernel_rfl) (by kernel_rfl) (UpTo.all (UpTo.zero.succ l_shape_each_4_0 (by kernel_rfl) (fun _=>rfl) shape_each_4_l0_eq) (by kernel_rfl) (by kernel_rfl)) (fun _=>rfl) shape_each_4_eq,sig_rec (X:=xt) (g:=g_shape_isSig) (H:=h_shape_isSig) (env:=e_shape_isSig) (c:=bodyOf Tryz.f74) xt_ok mixed (fun k hk=>(AllOk.cons (shape_bare_ok k) (AllOk.cons (ih k hk).2.2.1 (AllOk.cons (names_Check_ok k) (AllOk.cons (shape_kids_ok k) (AllOk.cons (names_Long_ok k) (AllOk.cons (ih k hk).1 AllOk.nil))))))) Tryz.func74 (by kernel_rfl) (by kernel_rfl) (by kernel_rfl) (UpTo.all UpTo.zero (by kernel_rfl) (by kernel_rfl)) (fun _=>rfl) shape_isSig_eq,sig_rec (X:=xt) (g:=g_shape_kids_9) (H:=h_shape_kids_9) (env:=e_shape_kids_9) (c:=bodyOf Tryz.f111) xt_ok mixed (fun k hk=>(AllOk.cons (ih k hk).2.2.2.1 AllOk.nil)) Tryz.func111 (by kernel_rfl) (by kernel_rfl) (by kernel_rfl) (UpTo.all UpTo.zero (by kernel_rfl) (by kernel_rfl)) (fun _=>rfl) shape_kids_9_eq⟩
theorem shape_isSpec_ok (K:Nat):SigOk Tryz.prog g_shape_isSpec K:=(shape_kids_10_all K).2.1
theorem shape_isSig_ok (K:Nat):SigOk Tryz.prog g_shape_isSig K:=(shape_kids_10_all K).2.2.2.1
theorem shape_kids_9_ok (K:Nat):SigOk Tryz.prog g_shape_kids_9 K:=(shape_kids_10_all K).2.2.2.2
def g_shape_arms_1:Sig:={ fid:=181,Γ:=[.tree],args:=[(.var 0)],Δ:=[.bool],res:=(.var 0),f:=fun k x=>shape_arms_1 k x }
def g_shape_each_2:Sig:={ fid:=93,Γ:=[.tree,(.int .i64)],args:=[(.var 0),(.var 1),(.fn 181 [] [])],Δ:=[.bool],res:=(.var 0),f:=fun k x=>shape_each_2 k x.1 x.2 }
def g_shape_arms:Sig:={ fid:=167,Γ:=[.tree,(.int .i64)],args:=[(.var 0),(.var 1)],Δ:=[.bool],res:=(.var 0),f:=fun k x=>shape_arms k x.1 x.2 }
def g_shape_kids_5:Sig:={ fid:=111,Γ:=[.tree],args:=[(.var 0),(.slc [(.fn 140 [] []),(.fn 140 [] [])] 2 true)],Δ:=[.bool],res:=(.var 0),f:=fun k x=>shape_kids_5 k x }
def g_shape_kids_4:Sig:={ fid:=111,Γ:=[.tree],args:=[(.var 0),(.slc [(.fn 113 [] []),(.fn 140 [] [])] 2 true)],Δ:=[.bool],res:=(.var 0),f:=fun k x=>shape_kids_4 k x }
def g_shape_each:Sig:={ fid:=93,Γ:=[.tree,(.int .i64)],args:=[(.var 0),(.var 1),(.fn 140 [] [])],Δ:=[.bool],res:=(.var 0),f:=fun k x=>shape_each k x.1 x.2 }
def g_shape_simple:Sig:={ fid:=166,Γ:=[.tree,(.int .i64)],args:=[(.var 0),(.var 1)],Δ:=[.bool],res:=(.var 0),f:=fun k x=>shape_simple k x.1 x.2 }
def g_shape_isExpr:Sig:={ fid:=140,Γ:=[.tree],args:=[(.var 0)],Δ:=[.bool],res:=(.var 0),f:=fun k x=>shape_isExpr k x }
def g_shape_kids_6:Sig:={ fid:=111,Γ:=[.tree],args:=[(.var 0),(.slc [(.fn 140 [] [])] 1 true)],Δ:=[.bool],res:=(.var 0),f:=fun k x=>shape_kids_6 k x }
def h_shape_arms_1:Hints (Bool):={}
def e_shape_arms_1:List Sig:=[g_shape_bare,g_names_Check,g_shape_kids_6]
theorem shape_arms_1_eq (k:Nat) (x:Tr):shape_arms_1 (k+1) x=fx xt e_shape_arms_1 g_shape_arms_1 Tryz.f181 h_shape_arms_1 (bodyOf Tryz.f181) k x:=(shape_arms_1.eq_def ..).trans (by kernel_rfl)
def l_shape_each_2_0:LH (Bool):={ Γ:=[(.list false .tree),(.int .i64)],live:=[(2,(.fn 181 [] [])),(14,(.var 0)),(15,(.len 0)),(16,(.var 1))],F:=fun k x=>shape_each_2_l0 k x.1 x.2 }
def h_shape_each_2:Hints (Bool):={ loops:=[(2,l_shape_each_2_0)] }
def e_shape_each_2:List Sig:=[g_shape_arms_1]
theorem shape_each_2_eq (k:Nat) (x:Tr×Int):shape_each_2 (k+1) x.1 x.2=fx xt e_shape_each_2 g_shape_each_2 Tryz.f93 h_shape_each_2 (bodyOf Tryz.f93) k x:=(shape_each_2.eq_def ..).trans (by kernel_rfl)
theorem shape_each_2_l0_eq (k:Nat) (x:(List Tr)×Int):shape_each_2_l0 (k+1) x.1 x.2=lrhs xt e_shape_each_2 25 0 h_shape_each_2 (bodyOf Tryz.f93) (retK xt.T Tryz.f93.results g_shape_each_2) 0 l_shape_each_2_0 k x:=(shape_each_2_l0.eq_def ..).trans (by kernel_rfl)
def h_shape_arms:Hints (Bool):={}
def e_shape_arms:List Sig:=[g_shape_each_2]
theorem shape_arms_eq (k:Nat) (x:Tr×Int):shape_arms (k+1) x.1 x.2=fx xt e_shape_arms g_shape_arms Tryz.f167 h_shape_arms (bodyOf Tryz.f167) k x:=(shape_arms.eq_def ..).trans (by kernel_rfl)
def h_shape_kids_5:Hints (Bool):={ unr:=[(4,13)] }
def e_shape_kids_5:List Sig:=[g_shape_isExpr]
theorem shape_kids_5_eq (k:Nat) (x:Tr):shape_kids_5 (k+1) x=fx xt e_shape_kids_5 g_shape_kids_5 Tryz.f111 h_shape_kids_5 (bodyOf Tryz.f111) k x:=(shape_kids_5.eq_def ..).trans (by kernel_rfl)
def h_shape_kids_4:Hints (Bool):={ unr:=[(4,13)] }
def e_shape_kids_4:List Sig:=[g_shape_isType,g_shape_isExpr]
theorem shape_kids_4_eq (k:Nat) (x:Tr):shape_kids_4 (k+1) x=fx xt e_shape_kids_4 g_shape_kids_4 Tryz.f111 h_shape_kids_4 (bodyOf Tryz.f111) k x:=(shape_kids_4.eq_def ..).trans (by kernel_rfl)
def l_shape_each_0:LH (Bool):={ Γ:=[(.list false .tree),(.int .i64)],live:=[(2,(.fn 140 [] [])),(14,(.var 0)),(15,(.len 0)),(16,(.var 1))],F:=fun k x=>shape_each_l0 k x.1 x.2 }
def h_shape_each:Hints (Bool):={ loops:=[(2,l_shape_each_0)] }
def e_shape_each:List Sig:=[g_shape_isExpr]
theorem shape_each_eq (k:Nat) (x:Tr×Int):shape_each (k+1) x.1 x.2=fx xt e_shape_each g_shape_each Tryz.f93 h_shape_each (bodyOf Tryz.f93) k x:=(shape_each.eq_def ..).trans (by kernel_rfl)
theorem shape_each_l0_eq (k:Nat) (x:(List Tr)×Int):shape_each_l0 (k+1) x.1 x.2=lrhs xt e_shape_each 25 0 h_shape_each (bodyOf Tryz.f93) (retK xt.T Tryz.f93.results g_shape_each) 0 l_shape_each_0 k x:=(shape_each_l0.eq_def ..).trans (by kernel_rfl)
def h_shape_simple:Hints (Bool):={}
def e_shape_simple:List Sig:=[g_shape_bare,g_shape_each]
theorem shape_simple_eq (k:Nat) (x:Tr×Int):shape_simple (k+1) x.1 x.2=fx xt e_shape_simple g_shape_simple Tryz.f166 h_shape_simple (bodyOf Tryz.f166) k x:=(shape_simple.eq_def ..).trans (by kernel_rfl)
def h_shape_isExpr:Hints (Bool):={}
def e_shape_isExpr:List Sig:=[g_shape_bare,g_shape_kids,g_shape_simple,g_names_Long,g_names_Check,g_shape_kids_4,g_shape_kids_5,g_shape_arms,g_shape_isExpr,g_shape_isType]
theorem shape_isExpr_eq (k:Nat) (x:Tr):shape_isExpr (k+1) x=fx xt e_shape_isExpr g_shape_isExpr Tryz.f140 h_shape_isExpr (bodyOf Tryz.f140) k x:=(shape_isExpr.eq_def ..).trans (by kernel_rfl)
def h_shape_kids_6:Hints (Bool):={ unr:=[(4,13)] }
def e_shape_kids_6:List Sig:=[g_shape_isExpr]
theorem shape_kids_6_eq (k:Nat) (x:Tr):shape_kids_6 (k+1) x=fx xt e_shape_kids_6 g_shape_kids_6 Tryz.f111 h_shape_kids_6 (bodyOf Tryz.f111) k x:=(shape_kids_6.eq_def ..).trans (by kernel_rfl)
theorem shape_arms_1_all (K:Nat):SigOk Tryz.prog g_shape_arms_1 K∧SigOk Tryz.prog g_shape_each_2 K∧SigOk Tryz.prog g_shape_arms K∧SigOk Tryz.prog g_shape_kids_5 K∧SigOk Tryz.prog g_shape_kids_4 K∧SigOk Tryz.prog g_shape_each K∧SigOk Tryz.prog g_shape_simple K∧SigOk Tryz.prog g_shape_isExpr K∧SigOk Tryz.prog g_shape_kids_6 K:=by
  induction K using Nat.strongRecOn with
  | ind K ih=>exact ⟨sig_rec (X:=xt) (g:=g_shape_arms_1) (H:=h_shape_arms_1) (env:=e_shape_arms_1) (c:=bodyOf Tryz.f181) xt_ok mixed (fun k hk=>(AllOk.cons (shape_bare_ok k) (AllOk.cons (names_Check_ok k) (AllOk.cons (ih k hk).2.2.2.2.2.2.2.2 AllOk.nil)))) Tryz.func181 (by kernel_rfl) (by kernel_rfl) (by kernel_rfl) (UpTo.all UpTo.zero (by kernel_rfl) (by kernel_rfl)) (fun _=>rfl) shape_arms_1_eq,sig_rec (X:=xt) (g:=g_shape_each_2) (H:=h_shape_each_2) (env:=e_shape_each_2) (c:=bodyOf Tryz.f93) xt_ok mixed (fun k hk=>(AllOk.cons (ih k hk).1 AllOk.nil)) Tryz.func93 (by kernel_rfl) (by kernel_rfl) (by kernel_rfl) (UpTo.all (UpTo.zero.succ l_shape_each_2_0 (by kernel_rfl) (fun _=>rfl) shape_each_2_l0_eq) (by kernel_rfl) (by kernel_rfl)) (fun _=>rfl) shape_each_2_eq,sig_rec (X:=xt) (g:=g_shape_arms) (H:=h_shape_arms) (env:=e_shape_arms) (c:=bodyOf Tryz.f167) xt_ok mixed (fun k hk=>(AllOk.cons (ih k hk).2.1 AllOk.nil)) Tryz.func167 (by kernel_rfl) (by kernel_rfl) (by kernel_rfl) (UpTo.all UpTo.zero (by kernel_rfl) (by kernel_rfl)) (fun _=>rfl) shape_arms_eq,sig_rec (X:=xt) (g:=g_shape_kids_5) (H:=h_shape_kids_5) (env:=e_shape_kids_5) (c:=bodyOf Tryz.f111) xt_ok mixed (fun k hk=>(AllOk.cons (ih k hk).2.2.2.2.2.2.2.1 AllOk.nil)) Tryz.func111 (by kernel_rfl) (by kernel_rfl) (by kernel_rfl) (UpTo.all UpTo.zero (by kernel_rfl) (by kernel_rfl)) (fun _=>rfl) shape_kids_5_eq,sig_rec (X:=xt) (g:=g_shape_kids_4) (H:=h_shape_kids_4) (env:=e_shape_kids_4) (c:=bodyOf Tryz.f111) xt_ok mixed (fun k hk=>(AllOk.cons (shape_isType_ok k) (AllOk.cons (ih k hk).2.2.2.2.2.2.2.1 AllOk.nil))) Tryz.func111 (by kernel_rfl) (by kernel_rfl) (by kernel_rfl) (UpTo.all UpTo.zero (by kernel_rfl) (by kernel_rfl)) (fun _=>rfl) shape_kids_4_eq,sig_rec (X:=xt) (g:=g_shape_each) (H:=h_shape_each) (env:=e_shape_each) (c:=bodyOf Tryz.f93) xt_ok mixed (fun k hk=>(AllOk.cons (ih k hk).2.2.2.2.2.2.2.1 AllOk.nil)) Tryz.func93 (by kernel_rfl) (by kernel_rfl) (by kernel_rfl) (UpTo.all (UpTo.zero.succ l_shape_each_0 (by kernel_rfl) (fun _=>rfl) shape_each_l0_eq) (by kernel_rfl) (by kernel_rfl)) (fun _=>rfl) shape_each_eq,sig_rec (X:=xt) (g:=g_shape_simple) (H:=h_shape_simple) (env:=e_shape_simple) (c:=bodyOf Tryz.f166) xt_ok mixed (fun k hk=>(AllOk.cons (shape_bare_ok k) (AllOk.cons (ih k hk).2.2.2.2.2.1 AllOk.nil))) Tryz.func166 (by kernel_rfl) (by kernel_rfl) (by kernel_rfl) (UpTo.all UpTo.zero (by kernel_rfl) (by kernel_rfl)) (fun _=>rfl) shape_simple_eq,sig_rec (X:=xt) (g:=g_shape_isExpr) (H:=h_shape_isExpr) (env:=e_shape_isExpr) (c:=bodyOf Tryz.f140) xt_ok mixed (fun k hk=>(AllOk.cons (shape_bare_ok k) (AllOk.cons (shape_kids_ok k) (AllOk.cons (ih k hk).2.2.2.2.2.2.1 (AllOk.cons (names_Long_ok k) (AllOk.cons (names_Check_ok k) (AllOk.cons (ih k hk).2.2.2.2.1 (AllOk.cons (ih k hk).2.2.2.1 (AllOk.cons (ih k hk).2.2.1 (AllOk.cons (ih k hk).2.2.2.2.2.2.2.1 (AllOk.cons (shape_isType_ok k) AllOk.nil))))))))))) Tryz.func140 (by kernel_rfl) (by kernel_rfl) (by kernel_rfl) (UpTo.all UpTo.zero (by kernel_rfl) (by kernel_rfl)) (fun _=>rfl) shape_isExpr_eq,sig_rec (X:=xt) (g:=g_shape_kids_6) (H:=h_shape_kids_6) (env:=e_shape_kids_6) (c:=bodyOf Tryz.f111) xt_ok mixed (fun k hk=>(AllOk.cons (ih k hk).2.2.2.2.2.2.2.1 AllOk.nil)) Tryz.func111 (by kernel_rfl) (by kernel_rfl) (by kernel_rfl) (UpTo.all UpTo.zero (by kernel_rfl) (by kernel_rfl)) (fun _=>rfl) shape_kids_6_eq⟩
theorem shape_kids_4_ok (K:Nat):SigOk Tryz.prog g_shape_kids_4 K:=(shape_arms_1_all K).2.2.2.2.1
theorem shape_isExpr_ok (K:Nat):SigOk Tryz.prog g_shape_isExpr K:=(shape_arms_1_all K).2.2.2.2.2.2.2.1
theorem shape_kids_6_ok (K:Nat):SigOk Tryz.prog g_shape_kids_6 K:=(shape_arms_1_all K).2.2.2.2.2.2.2.2
def g_shape_kids_8:Sig:={ fid:=111,Γ:=[.tree],args:=[(.var 0),(.slc [(.fn 72 [] []),(.fn 74 [] [])] 2 true)],Δ:=[.bool],res:=(.var 0),f:=fun k x=>shape_kids_8 k x }
def g_shape_kids_7:Sig:={ fid:=111,Γ:=[.tree],args:=[(.var 0),(.slc [(.fn 72 [] [])] 1 true)],Δ:=[.bool],res:=(.var 0),f:=fun k x=>shape_kids_7 k x }
def g_shape_isInner:Sig:={ fid:=109,Γ:=[.tree],args:=[(.var 0)],Δ:=[.bool],res:=(.var 0),f:=fun k x=>shape_isInner k x }
def g_shape_each_3:Sig:={ fid:=93,Γ:=[.tree,(.int .i64)],args:=[(.var 0),(.var 1),(.fn 109 [] [])],Δ:=[.bool],res:=(.var 0),f:=fun k x=>shape_each_3 k x.1 x.2 }
def g_shape_isMod:Sig:={ fid:=72,Γ:=[.tree],args:=[(.var 0)],Δ:=[.bool],res:=(.var 0),f:=fun k x=>shape_isMod k x }
def h_shape_kids_8:Hints (Bool):={ unr:=[(4,13)] }
def e_shape_kids_8:List Sig:=[g_shape_isMod,g_shape_isSig]
theorem shape_kids_8_eq (k:Nat) (x:Tr):shape_kids_8 (k+1) x=fx xt e_shape_kids_8 g_shape_kids_8 Tryz.f111 h_shape_kids_8 (bodyOf Tryz.f111) k x:=(shape_kids_8.eq_def ..).trans (by kernel_rfl)
def h_shape_kids_7:Hints (Bool):={ unr:=[(4,13)] }
def e_shape_kids_7:List Sig:=[g_shape_isMod]
theorem shape_kids_7_eq (k:Nat) (x:Tr):shape_kids_7 (k+1) x=fx xt e_shape_kids_7 g_shape_kids_7 Tryz.f111 h_shape_kids_7 (bodyOf Tryz.f111) k x:=(shape_kids_7.eq_def ..).trans (by kernel_rfl)
def c_shape_isInner_0:LH (Bool):={ Γ:=[.tree],live:=[(0,(.var 0))],F:=fun k x=>shape_isInner_c0 k x }
def h_shape_isInner:Hints (Bool):={ cuts:=[(7,c_shape_isInner_0)] }
def e_shape_isInner:List Sig:=[g_shape_bare,g_names_Long,g_shape_kids,g_names_Check,g_shape_kids_6,g_shape_kids_4,g_shape_kids_3,g_shape_cons,g_shape_kids_7]
theorem shape_isInner_eq (k:Nat) (x:Tr):shape_isInner (k+1) x=fx xt e_shape_isInner g_shape_isInner Tryz.f109 h_shape_isInner (bodyOf Tryz.f109) k x:=(shape_isInner.eq_def ..).trans (by kernel_rfl)
theorem shape_isInner_c0_eq (k:Nat) (x:Tr):shape_isInner_c0 (k+1) x=lrhs xt e_shape_isInner 56 0 h_shape_isInner (bodyOf Tryz.f109) (retK xt.T Tryz.f109.results g_shape_isInner) 0 c_shape_isInner_0 k x:=(shape_isInner_c0.eq_def ..).trans (by kernel_rfl)
def l_shape_each_3_0:LH (Bool):={ Γ:=[(.list false .tree),(.int .i64)],live:=[(2,(.fn 109 [] [])),(14,(.var 0)),(15,(.len 0)),(16,(.var 1))],F:=fun k x=>shape_each_3_l0 k x.1 x.2 }
def h_shape_each_3:Hints (Bool):={ loops:=[(2,l_shape_each_3_0)] }
def e_shape_each_3:List Sig:=[g_shape_isInner]
theorem shape_each_3_eq (k:Nat) (x:Tr×Int):shape_each_3 (k+1) x.1 x.2=fx xt e_shape_each_3 g_shape_each_3 Tryz.f93 h_shape_each_3 (bodyOf Tryz.f93) k x:=(shape_each_3.eq_def ..).trans (by kernel_rfl)
theorem shape_each_3_l0_eq (k:Nat) (x:(List Tr)×Int):shape_each_3_l0 (k+1) x.1 x.2=lrhs xt e_shape_each_3 25 0 h_shape_each_3 (bodyOf Tryz.f93) (retK xt.T Tryz.f93.results g_shape_each_3) 0 l_shape_each_3_0 k x:=(shape_each_3_l0.eq_def ..).trans (by kernel_rfl)
def h_shape_isMod:Hints (Bool):={}
def e_shape_isMod:List Sig:=[g_shape_bare,g_shape_each_3,g_names_Long,g_shape_kids,g_names_Check,g_shape_kids_7,g_shape_kids_8]
theorem shape_isMod_eq (k:Nat) (x:Tr):shape_isMod (k+1) x=fx xt e_shape_isMod g_shape_isMod Tryz.f72 h_shape_isMod (bodyOf Tryz.f72) k x:=(shape_isMod.eq_def ..).trans (by kernel_rfl)
theorem shape_kids_8_all (K:Nat):SigOk Tryz.prog g_shape_kids_8 K∧SigOk Tryz.prog g_shape_kids_7 K∧SigOk Tryz.prog g_shape_isInner K∧SigOk Tryz.prog g_shape_each_3 K∧SigOk Tryz.prog g_shape_isMod K:=by
  induction K using Nat.strongRecOn with
  | ind K ih=>exact ⟨sig_rec (X:=xt) (g:=g_shape_kids_8) (H:=h_shape_kids_8) (env:=e_shape_kids_8) (c:=bodyOf Tryz.f111) xt_ok mixed (fun k hk=>(AllOk.cons (ih k hk).2.2.2.2 (AllOk.cons (shape_isSig_ok k) AllOk.nil))) Tryz.func111 (by kernel_rfl) (by kernel_rfl) (by kernel_rfl) (UpTo.all UpTo.zero (by kernel_rfl) (by kernel_rfl)) (fun _=>rfl) shape_kids_8_eq,sig_rec (X:=xt) (g:=g_shape_kids_7) (H:=h_shape_kids_7) (env:=e_shape_kids_7) (c:=bodyOf Tryz.f111) xt_ok mixed (fun k hk=>(AllOk.cons (ih k hk).2.2.2.2 AllOk.nil)) Tryz.func111 (by kernel_rfl) (by kernel_rfl) (by kernel_rfl) (UpTo.all UpTo.zero (by kernel_rfl) (by kernel_rfl)) (fun _=>rfl) shape_kids_7_eq,sig_rec (X:=xt) (g:=g_shape_isInner) (H:=h_shape_isInner) (env:=e_shape_isInner) (c:=bodyOf Tryz.f109) xt_ok mixed (fun k hk=>(AllOk.cons (shape_bare_ok k) (AllOk.cons (names_Long_ok k) (AllOk.cons (shape_kids_ok k) (AllOk.cons (names_Check_ok k) (AllOk.cons (shape_kids_6_ok k) (AllOk.cons (shape_kids_4_ok k) (AllOk.cons (shape_kids_3_ok k) (AllOk.cons (shape_cons_ok k) (AllOk.cons (ih k hk).2.1 AllOk.nil)))))))))) Tryz.func109 (by kernel_rfl) (by kernel_rfl) (by kernel_rfl) (UpTo.all (UpTo.zero.succ c_shape_isInner_0 (by kernel_rfl) (fun _=>rfl) shape_isInner_c0_eq) (by kernel_rfl) (by kernel_rfl)) (fun _=>rfl) shape_isInner_eq,sig_rec (X:=xt) (g:=g_shape_each_3) (H:=h_shape_each_3) (env:=e_shape_each_3) (c:=bodyOf Tryz.f93) xt_ok mixed (fun k hk=>(AllOk.cons (ih k hk).2.2.1 AllOk.nil)) Tryz.func93 (by kernel_rfl) (by kernel_rfl) (by kernel_rfl) (UpTo.all (UpTo.zero.succ l_shape_each_3_0 (by kernel_rfl) (fun _=>rfl) shape_each_3_l0_eq) (by kernel_rfl) (by kernel_rfl)) (fun _=>rfl) shape_each_3_eq,sig_rec (X:=xt) (g:=g_shape_isMod) (H:=h_shape_isMod) (env:=e_shape_isMod) (c:=bodyOf Tryz.f72) xt_ok mixed (fun k hk=>(AllOk.cons (shape_bare_ok k) (AllOk.cons (ih k hk).2.2.2.1 (AllOk.cons (names_Long_ok k) (AllOk.cons (shape_kids_ok k) (AllOk.cons (names_Check_ok k) (AllOk.cons (ih k hk).2.1 (AllOk.cons (ih k hk).1 AllOk.nil)))))))) Tryz.func72 (by kernel_rfl) (by kernel_rfl) (by kernel_rfl) (UpTo.all UpTo.zero (by kernel_rfl) (by kernel_rfl)) (fun _=>rfl) shape_isMod_eq⟩
theorem shape_isInner_ok (K:Nat):SigOk Tryz.prog g_shape_isInner K:=(shape_kids_8_all K).2.2.1
theorem shape_isMod_ok (K:Nat):SigOk Tryz.prog g_shape_isMod K:=(shape_kids_8_all K).2.2.2.2
def g_shape_kids_11:Sig:={ fid:=111,Γ:=[.tree],args:=[(.var 0),(.slc [(.fn 74 [] []),(.fn 72 [] [])] 2 true)],Δ:=[.bool],res:=(.var 0),f:=fun k x=>shape_kids_11 k x }
def h_shape_kids_11:Hints (Bool):={ unr:=[(4,13)] }
def e_shape_kids_11:List Sig:=[g_shape_isSig,g_shape_isMod]
theorem shape_kids_11_eq (k:Nat) (x:Tr):shape_kids_11 k x=fx xt e_shape_kids_11 g_shape_kids_11 Tryz.f111 h_shape_kids_11 (bodyOf Tryz.f111) k x:=by kernel_rfl
theorem shape_kids_11_ok (K:Nat):SigOk Tryz.prog g_shape_kids_11 K:=sig_fun (X:=xt) (g:=g_shape_kids_11) (H:=h_shape_kids_11) (env:=e_shape_kids_11) (c:=bodyOf Tryz.f111) xt_ok mixed (fun k=>(AllOk.cons (shape_isSig_ok k) (AllOk.cons (shape_isMod_ok k) AllOk.nil))) Tryz.func111 (by kernel_rfl) (by kernel_rfl) (by kernel_rfl) (UpTo.all UpTo.zero (by kernel_rfl) (by kernel_rfl)) shape_kids_11_eq K
def g_shape_isDecl:Sig:={ fid:=76,Γ:=[.tree],args:=[(.var 0)],Δ:=[.bool],res:=(.var 0),f:=fun k x=>shape_isDecl k x }
def h_shape_isDecl:Hints (Bool):={}
def e_shape_isDecl:List Sig:=[g_shape_bare,g_names_Check,g_shape_kids_9,g_shape_kids_11,g_shape_isInner]
theorem shape_isDecl_eq (k:Nat) (x:Tr):shape_isDecl k x=fx xt e_shape_isDecl g_shape_isDecl Tryz.f76 h_shape_isDecl (bodyOf Tryz.f76) k x:=by kernel_rfl
theorem shape_isDecl_ok (K:Nat):SigOk Tryz.prog g_shape_isDecl K:=sig_fun (X:=xt) (g:=g_shape_isDecl) (H:=h_shape_isDecl) (env:=e_shape_isDecl) (c:=bodyOf Tryz.f76) xt_ok mixed (fun k=>(AllOk.cons (shape_bare_ok k) (AllOk.cons (names_Check_ok k) (AllOk.cons (shape_kids_9_ok k) (AllOk.cons (shape_kids_11_ok k) (AllOk.cons (shape_isInner_ok k) AllOk.nil)))))) Tryz.func76 (by kernel_rfl) (by kernel_rfl) (by kernel_rfl) (UpTo.all UpTo.zero (by kernel_rfl) (by kernel_rfl)) shape_isDecl_eq K
def g_shape_each_5:Sig:={ fid:=93,Γ:=[.tree,(.int .i64)],args:=[(.var 0),(.var 1),(.fn 76 [] [])],Δ:=[.bool],res:=(.var 0),f:=fun k x=>shape_each_5 k x.1 x.2 }
def l_shape_each_5_0:LH (Bool):={ Γ:=[(.list false .tree),(.int .i64)],live:=[(2,(.fn 76 [] [])),(14,(.var 0)),(15,(.len 0)),(16,(.var 1))],F:=fun k x=>shape_each_5_l0 k x.1 x.2 }
def h_shape_each_5:Hints (Bool):={ loops:=[(2,l_shape_each_5_0)] }
def e_shape_each_5:List Sig:=[g_shape_isDecl]
theorem shape_each_5_eq (k:Nat) (x:Tr×Int):shape_each_5 k x.1 x.2=fx xt e_shape_each_5 g_shape_each_5 Tryz.f93 h_shape_each_5 (bodyOf Tryz.f93) k x:=by kernel_rfl
theorem shape_each_5_l0_eq (k:Nat) (x:(List Tr)×Int):shape_each_5_l0 (k+1) x.1 x.2=lrhs xt e_shape_each_5 25 0 h_shape_each_5 (bodyOf Tryz.f93) (retK xt.T Tryz.f93.results g_shape_each_5) 0 l_shape_each_5_0 k x:=(shape_each_5_l0.eq_def ..).trans (by kernel_rfl)
theorem shape_each_5_ok (K:Nat):SigOk Tryz.prog g_shape_each_5 K:=sig_fun (X:=xt) (g:=g_shape_each_5) (H:=h_shape_each_5) (env:=e_shape_each_5) (c:=bodyOf Tryz.f93) xt_ok mixed (fun k=>(AllOk.cons (shape_isDecl_ok k) AllOk.nil)) Tryz.func93 (by kernel_rfl) (by kernel_rfl) (by kernel_rfl) (UpTo.all (UpTo.zero.succ l_shape_each_5_0 (by kernel_rfl) (fun _=>rfl) shape_each_5_l0_eq) (by kernel_rfl) (by kernel_rfl)) shape_each_5_eq K
def g_shape_isProg:Sig:={ fid:=59,Γ:=[.tree],args:=[(.var 0)],Δ:=[.bool],res:=(.var 0),f:=fun k x=>shape_isProg k x }
def h_shape_isProg:Hints (Bool):={}
def e_shape_isProg:List Sig:=[g_shape_bare,g_shape_each_5]
theorem shape_isProg_eq (k:Nat) (x:Tr):shape_isProg k x=fx xt e_shape_isProg g_shape_isProg Tryz.f59 h_shape_isProg (bodyOf Tryz.f59) k x:=by kernel_rfl
theorem shape_isProg_ok (K:Nat):SigOk Tryz.prog g_shape_isProg K:=sig_fun (X:=xt) (g:=g_shape_isProg) (H:=h_shape_isProg) (env:=e_shape_isProg) (c:=bodyOf Tryz.f59) xt_ok mixed (fun k=>(AllOk.cons (shape_bare_ok k) (AllOk.cons (shape_each_5_ok k) AllOk.nil))) Tryz.func59 (by kernel_rfl) (by kernel_rfl) (by kernel_rfl) (UpTo.all UpTo.zero (by kernel_rfl) (by kernel_rfl)) shape_isProg_eq K
def g_shape_check:Sig:={ fid:=58,Γ:=[.tree],args:=[(.var 0),(.fn 59 [] [])],Δ:=[(.int .i64)],res:=(.var 0),f:=fun k x=>shape_check k x }
def h_shape_check:Hints (Int):={}
def e_shape_check:List Sig:=[g_arena_Pack,g_arena_Deep,g_shape_isProg]
theorem shape_check_eq (k:Nat) (x:Tr):shape_check k x=fx xt e_shape_check g_shape_check Tryz.f58 h_shape_check (bodyOf Tryz.f58) k x:=by kernel_rfl
theorem shape_check_ok (K:Nat):SigOk Tryz.prog g_shape_check K:=sig_fun (X:=xt) (g:=g_shape_check) (H:=h_shape_check) (env:=e_shape_check) (c:=bodyOf Tryz.f58) xt_ok mixed (fun k=>(AllOk.cons (arena_Pack_ok k) (AllOk.cons (arena_Deep_ok k) (AllOk.cons (shape_isProg_ok k) AllOk.nil)))) Tryz.func58 (by kernel_rfl) (by kernel_rfl) (by kernel_rfl) (UpTo.all UpTo.zero (by kernel_rfl) (by kernel_rfl)) shape_check_eq K
def g_shape_Prog:Sig:={ fid:=26,Γ:=[.tree],args:=[(.var 0)],Δ:=[(.int .i64)],res:=(.var 0),f:=fun k x=>shape_Prog k x }
def h_shape_Prog:Hints (Int):={}
def e_shape_Prog:List Sig:=[g_shape_check]
theorem shape_Prog_eq (k:Nat) (x:Tr):shape_Prog k x=fx xt e_shape_Prog g_shape_Prog Tryz.f26 h_shape_Prog (bodyOf Tryz.f26) k x:=by kernel_rfl
theorem shape_Prog_ok (K:Nat):SigOk Tryz.prog g_shape_Prog K:=sig_fun (X:=xt) (g:=g_shape_Prog) (H:=h_shape_Prog) (env:=e_shape_Prog) (c:=bodyOf Tryz.f26) xt_ok mixed (fun k=>(AllOk.cons (shape_check_ok k) AllOk.nil)) Tryz.func26 (by kernel_rfl) (by kernel_rfl) (by kernel_rfl) (UpTo.all UpTo.zero (by kernel_rfl) (by kernel_rfl)) shape_Prog_eq K
def g_shape_check_2:Sig:={ fid:=58,Γ:=[.tree],args:=[(.var 0),(.fn 113 [] [])],Δ:=[(.int .i64)],res:=(.var 0),f:=fun k x=>shape_check_2 k x }
def h_shape_check_2:Hints (Int):={}
def e_shape_check_2:List Sig:=[g_arena_Pack,g_arena_Deep,g_shape_isType]
theorem shape_check_2_eq (k:Nat) (x:Tr):shape_check_2 k x=fx xt e_shape_check_2 g_shape_check_2 Tryz.f58 h_shape_check_2 (bodyOf Tryz.f58) k x:=by kernel_rfl
theorem shape_check_2_ok (K:Nat):SigOk Tryz.prog g_shape_check_2 K:=sig_fun (X:=xt) (g:=g_shape_check_2) (H:=h_shape_check_2) (env:=e_shape_check_2) (c:=bodyOf Tryz.f58) xt_ok mixed (fun k=>(AllOk.cons (arena_Pack_ok k) (AllOk.cons (arena_Deep_ok k) (AllOk.cons (shape_isType_ok k) AllOk.nil)))) Tryz.func58 (by kernel_rfl) (by kernel_rfl) (by kernel_rfl) (UpTo.all UpTo.zero (by kernel_rfl) (by kernel_rfl)) shape_check_2_eq K
def g_shape_Type:Sig:={ fid:=133,Γ:=[.tree],args:=[(.var 0)],Δ:=[(.int .i64)],res:=(.var 0),f:=fun k x=>shape_Type k x }
def h_shape_Type:Hints (Int):={}
def e_shape_Type:List Sig:=[g_shape_check_2]
theorem shape_Type_eq (k:Nat) (x:Tr):shape_Type k x=fx xt e_shape_Type g_shape_Type Tryz.f133 h_shape_Type (bodyOf Tryz.f133) k x:=by kernel_rfl
theorem shape_Type_ok (K:Nat):SigOk Tryz.prog g_shape_Type K:=sig_fun (X:=xt) (g:=g_shape_Type) (H:=h_shape_Type) (env:=e_shape_Type) (c:=bodyOf Tryz.f133) xt_ok mixed (fun k=>(AllOk.cons (shape_check_2_ok k) AllOk.nil)) Tryz.func133 (by kernel_rfl) (by kernel_rfl) (by kernel_rfl) (UpTo.all UpTo.zero (by kernel_rfl) (by kernel_rfl)) shape_Type_eq K
def g_ptype_paren:Sig:={ fid:=157,Γ:=[.bool,.str],args:=[(.var 0),(.var 1)],Δ:=[.str],res:=(.var 0),f:=fun k x=>ptype_paren k x.1 x.2 }
def h_ptype_paren:Hints ((List UInt8)):={}
def e_ptype_paren:List Sig:=[]
theorem ptype_paren_eq (k:Nat) (x:Bool×(List UInt8)):ptype_paren k x.1 x.2=fx xt e_ptype_paren g_ptype_paren Tryz.f157 h_ptype_paren (bodyOf Tryz.f157) k x:=by kernel_rfl
theorem ptype_paren_ok (K:Nat):SigOk Tryz.prog g_ptype_paren K:=sig_fun (X:=xt) (g:=g_ptype_paren) (H:=h_ptype_paren) (env:=e_ptype_paren) (c:=bodyOf Tryz.f157) xt_ok mixed (fun k=>AllOk.nil) Tryz.func157 (by kernel_rfl) (by kernel_rfl) (by kernel_rfl) (UpTo.all UpTo.zero (by kernel_rfl) (by kernel_rfl)) ptype_paren_eq K
def g_strings_Join:Sig:={ fid:=95,Γ:=[(.list false .str),.str],args:=[(.var 0),(.var 1)],Δ:=[.str],res:=(.var 0),f:=fun k x=>strings_Join k x.1 x.2 }
def ren_join:Shelf.Ren:=⟨fun n=>match n with | 156=>95 | 165=>132 | 166=>27 | 169=>30 | 240=>60 | 241=>156 | 276=>94 | 277=>177 | _=>0,fun n=>match n with | 0=>0 | 3=>3 | 4=>4 | 5=>5 | 9=>9 | 20=>20 | 31=>107 | 37=>55 | 70=>54 | 72=>57 | 75=>62 | 76=>63 | 80=>67 | 127=>96 | 164=>114 | _=>0,fun n=>n⟩
theorem lay_join:Lays.n156 Tryz.prog ren_join:=by
  constructor <;> first | kernel_rfl | (intro w; kernel_rfl)
theorem ext_join:Builder.Extra Tryz.prog ren_join:=by
  refine { toX72:=?_,t5:=?_,a5:=?_,z5:=?_,v5:=?_,infoByte:=?_,cellsByte:=?_,sizeByte:=?_,neB5:=?_ } <;> first | kernel_rfl | (intro w; kernel_rfl) | decide | (constructor <;> kernel_rfl)
theorem strings_Join_ok (K:Nat):SigOk Tryz.prog g_strings_Join K:=sigok_join (f:=strings_Join) ⟨_,Tryz.func95,by kernel_rfl,by kernel_rfl⟩ (fun l sep y h=>by
    unfold strings_Join at h
    split at h
    · rename_i hb; cases h; exact ⟨rfl,hb.1,hb.2⟩
    · cases h) (fun a c sep w=>Any.strings_Join_none lay_join ext_join a c sep w) (fun bk o c xs sep w h1 h2 h3 h4 h5=>Any.strings_Join lay_join ext_join bk o c xs sep w h1 h2 h3 h4 h5)

def g_ptype_write:Sig:={ fid:=134,Γ:=[.tree,(.int .i64)],args:=[(.var 0),(.var 1)],Δ:=[.str],res:=(.var 0),f:=fun k x=>ptype_write k x.1 x.2 }
def l_ptype_write_0:LH ((List UInt8)):={ Γ:=[.tree,(.list false .str),(.list false .tree),(.int .i64)],live:=[(0,(.var 0)),(5,(.row 0 1)),(65,(.var 2)),(66,(.len 2)),(67,(.var 3))],sto:=[(0,(.list 9 1 none))],nk:=1,ad:=[.t 5 9 .str],F:=fun k x=>ptype_write_l0 k x.1 x.2.1 x.2.2.1 x.2.2.2 }
def h_ptype_write:Hints ((List UInt8)):={ ord:=[(3,[.l 0,.l 1,.l 2,.l 3,.l 4,.l 5,.l 6,.l 7,.l 10,.l 11,.l 12,.l 13,.l 14,.l 15,.h 8,.l 9,.h 16,.l 17,.h 18,.l 19]),(5,[.l 0,.l 1,.l 2,.l 3,.l 4,.l 5,.l 6,.l 7,.l 10,.l 11,.l 12,.l 13,.l 14,.l 15,.h 8,.l 9,.h 16,.l 17,.h 18,.l 19]),(17,[.l 0,.l 1,.l 2,.l 3,.l 4,.l 5,.l 6,.l 7,.l 8,.l 9,.l 10,.l 11,.h 12,.l 13,.l 14,.h 15,.m 16]),(19,[.l 0,.l 1,.l 2,.l 3,.l 4,.l 5,.l 6,.h 7,.l 8,.l 9,.l 10])],loops:=[(15,l_ptype_write_0)] }
def e_ptype_write:List Sig:=[g_ptype_write,g_ptype_paren,g_strings_Join]
theorem ptype_write_eq (k:Nat) (x:Tr×Int):ptype_write (k+1) x.1 x.2=fx xt e_ptype_write g_ptype_write Tryz.f134 h_ptype_write (bodyOf Tryz.f134) k x:=(ptype_write.eq_def ..).trans (by kernel_rfl)
theorem ptype_write_l0_eq (k:Nat) (x:Tr×(List (List UInt8))×(List Tr)×Int):ptype_write_l0 (k+1) x.1 x.2.1 x.2.2.1 x.2.2.2=lrhs xt e_ptype_write 102 0 h_ptype_write (bodyOf Tryz.f134) (retK xt.T Tryz.f134.results g_ptype_write) 0 l_ptype_write_0 k x:=(ptype_write_l0.eq_def ..).trans (by kernel_rfl)
theorem ptype_write_all (K:Nat):SigOk Tryz.prog g_ptype_write K:=by
  induction K using Nat.strongRecOn with
  | ind K ih=>exact sig_rec (X:=xt) (g:=g_ptype_write) (H:=h_ptype_write) (env:=e_ptype_write) (c:=bodyOf Tryz.f134) xt_ok mixed (fun k hk=>(AllOk.cons (ih k hk) (AllOk.cons (ptype_paren_ok k) (AllOk.cons (strings_Join_ok k) AllOk.nil)))) Tryz.func134 (by kernel_rfl) (by kernel_rfl) (by kernel_rfl) (UpTo.all (UpTo.zero.succ l_ptype_write_0 (by kernel_rfl) (fun _=>rfl) ptype_write_l0_eq) (by kernel_rfl) (by kernel_rfl)) (fun _=>rfl) ptype_write_eq
theorem ptype_write_ok (K:Nat):SigOk Tryz.prog g_ptype_write K:=(ptype_write_all K)
def g_ptype_Write:Sig:={ fid:=96,Γ:=[.tree],args:=[(.var 0)],Δ:=[.str,(.int .i64)],res:=(.tup [(.var 0),(.var 1)]),f:=fun k x=>ptype_Write k x }
def h_ptype_Write:Hints ((List UInt8)×Int):={}
def e_ptype_Write:List Sig:=[g_shape_Type,g_ptype_write]
theorem ptype_Write_eq (k:Nat) (x:Tr):ptype_Write k x=fx xt e_ptype_Write g_ptype_Write Tryz.f96 h_ptype_Write (bodyOf Tryz.f96) k x:=by kernel_rfl
theorem ptype_Write_ok (K:Nat):SigOk Tryz.prog g_ptype_Write K:=sig_fun (X:=xt) (g:=g_ptype_Write) (H:=h_ptype_Write) (env:=e_ptype_Write) (c:=bodyOf Tryz.f96) xt_ok mixed (fun k=>(AllOk.cons (shape_Type_ok k) (AllOk.cons (ptype_write_ok k) AllOk.nil))) Tryz.func96 (by kernel_rfl) (by kernel_rfl) (by kernel_rfl) (UpTo.all UpTo.zero (by kernel_rfl) (by kernel_rfl)) ptype_Write_eq K
def g_print_typ:Sig:={ fid:=62,Γ:=[.tree],args:=[(.var 0)],Δ:=[.str],res:=(.var 0),f:=fun k x=>print_typ k x }
def h_print_typ:Hints ((List UInt8)):={}
def e_print_typ:List Sig:=[g_ptype_Write]
theorem print_typ_eq (k:Nat) (x:Tr):print_typ k x=fx xt e_print_typ g_print_typ Tryz.f62 h_print_typ (bodyOf Tryz.f62) k x:=by kernel_rfl
theorem print_typ_ok (K:Nat):SigOk Tryz.prog g_print_typ K:=sig_fun (X:=xt) (g:=g_print_typ) (H:=h_print_typ) (env:=e_print_typ) (c:=bodyOf Tryz.f62) xt_ok mixed (fun k=>(AllOk.cons (ptype_Write_ok k) AllOk.nil)) Tryz.func62 (by kernel_rfl) (by kernel_rfl) (by kernel_rfl) (UpTo.all UpTo.zero (by kernel_rfl) (by kernel_rfl)) print_typ_eq K
def g_shape_check_3:Sig:={ fid:=58,Γ:=[.tree],args:=[(.var 0),(.fn 140 [] [])],Δ:=[(.int .i64)],res:=(.var 0),f:=fun k x=>shape_check_3 k x }
def h_shape_check_3:Hints (Int):={}
def e_shape_check_3:List Sig:=[g_arena_Pack,g_arena_Deep,g_shape_isExpr]
theorem shape_check_3_eq (k:Nat) (x:Tr):shape_check_3 k x=fx xt e_shape_check_3 g_shape_check_3 Tryz.f58 h_shape_check_3 (bodyOf Tryz.f58) k x:=by kernel_rfl
theorem shape_check_3_ok (K:Nat):SigOk Tryz.prog g_shape_check_3 K:=sig_fun (X:=xt) (g:=g_shape_check_3) (H:=h_shape_check_3) (env:=e_shape_check_3) (c:=bodyOf Tryz.f58) xt_ok mixed (fun k=>(AllOk.cons (arena_Pack_ok k) (AllOk.cons (arena_Deep_ok k) (AllOk.cons (shape_isExpr_ok k) AllOk.nil)))) Tryz.func58 (by kernel_rfl) (by kernel_rfl) (by kernel_rfl) (UpTo.all UpTo.zero (by kernel_rfl) (by kernel_rfl)) shape_check_3_eq K
def g_shape_Expr:Sig:={ fid:=135,Γ:=[.tree],args:=[(.var 0)],Δ:=[(.int .i64)],res:=(.var 0),f:=fun k x=>shape_Expr k x }
def h_shape_Expr:Hints (Int):={}
def e_shape_Expr:List Sig:=[g_shape_check_3]
theorem shape_Expr_eq (k:Nat) (x:Tr):shape_Expr k x=fx xt e_shape_Expr g_shape_Expr Tryz.f135 h_shape_Expr (bodyOf Tryz.f135) k x:=by kernel_rfl
theorem shape_Expr_ok (K:Nat):SigOk Tryz.prog g_shape_Expr K:=sig_fun (X:=xt) (g:=g_shape_Expr) (H:=h_shape_Expr) (env:=e_shape_Expr) (c:=bodyOf Tryz.f135) xt_ok mixed (fun k=>(AllOk.cons (shape_check_3_ok k) AllOk.nil)) Tryz.func135 (by kernel_rfl) (by kernel_rfl) (by kernel_rfl) (UpTo.all UpTo.zero (by kernel_rfl) (by kernel_rfl)) shape_Expr_eq K
def g_slices_Reverse:Sig:={ fid:=150,Γ:=[(.list false (.int .u8))],args:=[(.row 0 0)],sto:=[(0,(.list 5 0 none))],nk:=1,Δ:=[(.list false (.int .u8))],res:=(.tup []),sto':=[(0,(.list 5 0 none))],nk':=1,f:=fun k x=>slices_Reverse k x }
def l_slices_Reverse_0:LH ((List Int)):={ Γ:=[(.list false (.int .u8)),(.int .i64),(.int .i64)],live:=[(0,(.row 0 0)),(2,(.var 1)),(3,(.var 2))],sto:=[(0,(.list 5 0 none))],nk:=1,F:=fun k x=>slices_Reverse_l0 k x.1 x.2.1 x.2.2 }
def h_slices_Reverse:Hints ((List Int)):={ ord:=[(3,[.l 0,.l 1,.l 2,.l 3,.l 4,.l 5,.l 6,.l 7,.l 8,.l 9,.l 10,.l 11,.l 12,.h 13,.l 14,.h 15])],loops:=[(1,l_slices_Reverse_0)] }
def e_slices_Reverse:List Sig:=[]
theorem slices_Reverse_eq (k:Nat) (x:(List Int)):slices_Reverse k x=fx xt e_slices_Reverse g_slices_Reverse Tryz.f150 h_slices_Reverse (bodyOf Tryz.f150) k x:=by kernel_rfl
theorem slices_Reverse_l0_eq (k:Nat) (x:(List Int)×Int×Int):slices_Reverse_l0 (k+1) x.1 x.2.1 x.2.2=lrhs xt e_slices_Reverse 28 1 h_slices_Reverse (bodyOf Tryz.f150) (retK xt.T Tryz.f150.results g_slices_Reverse) 0 l_slices_Reverse_0 k x:=(slices_Reverse_l0.eq_def ..).trans (by kernel_rfl)
theorem slices_Reverse_ok (K:Nat):SigOk Tryz.prog g_slices_Reverse K:=sig_fun (X:=xt) (g:=g_slices_Reverse) (H:=h_slices_Reverse) (env:=e_slices_Reverse) (c:=bodyOf Tryz.f150) xt_ok mixed (fun k=>AllOk.nil) Tryz.func150 (by kernel_rfl) (by kernel_rfl) (by kernel_rfl) (UpTo.all (UpTo.zero.succ l_slices_Reverse_0 (by kernel_rfl) (fun _=>rfl) slices_Reverse_l0_eq) (by kernel_rfl) (by kernel_rfl)) slices_Reverse_eq K
def g_lexer_Number:Sig:={ fid:=120,Γ:=[(.int .i64)],args:=[(.var 0)],Δ:=[.str],res:=(.var 0),f:=fun k x=>lexer_Number k x }
def c_lexer_Number_0:LH ((List UInt8)):={ Γ:=[(.int .u64),.str],live:=[(3,(.var 0)),(4,(.var 1))],F:=fun k x=>lexer_Number_c0 k x.1 x.2 }
def l_lexer_Number_0:LH ((List UInt8)):={ Γ:=[(.int .u64),.str,(.list false (.int .u8)),.bool],live:=[(3,(.var 0)),(4,(.var 1)),(5,(.row 0 2)),(6,(.var 3))],sto:=[(0,(.list 5 2 none))],nk:=1,ad:=[.t 5 5 (.int .u8)],F:=fun k x=>lexer_Number_l0 k x.1 x.2.1 x.2.2.1 x.2.2.2 }
def h_lexer_Number:Hints ((List UInt8)):={ loops:=[(6,l_lexer_Number_0)],cuts:=[(4,c_lexer_Number_0)] }
def e_lexer_Number:List Sig:=[g_slices_Reverse]
theorem lexer_Number_eq (k:Nat) (x:Int):lexer_Number k x=fx xt e_lexer_Number g_lexer_Number Tryz.f120 h_lexer_Number (bodyOf Tryz.f120) k x:=by kernel_rfl
theorem lexer_Number_c0_eq (k:Nat) (x:Int×(List UInt8)):lexer_Number_c0 (k+1) x.1 x.2=lrhs xt e_lexer_Number 31 0 h_lexer_Number (bodyOf Tryz.f120) (retK xt.T Tryz.f120.results g_lexer_Number) 0 c_lexer_Number_0 k x:=(lexer_Number_c0.eq_def ..).trans (by kernel_rfl)
theorem lexer_Number_l0_eq (k:Nat) (x:Int×(List UInt8)×(List Int)×Bool):lexer_Number_l0 (k+1) x.1 x.2.1 x.2.2.1 x.2.2.2=lrhs xt e_lexer_Number 31 0 h_lexer_Number (bodyOf Tryz.f120) (retK xt.T Tryz.f120.results g_lexer_Number) 1 l_lexer_Number_0 k x:=(lexer_Number_l0.eq_def ..).trans (by kernel_rfl)
theorem lexer_Number_ok (K:Nat):SigOk Tryz.prog g_lexer_Number K:=sig_fun (X:=xt) (g:=g_lexer_Number) (H:=h_lexer_Number) (env:=e_lexer_Number) (c:=bodyOf Tryz.f120) xt_ok mixed (fun k=>(AllOk.cons (slices_Reverse_ok k) AllOk.nil)) Tryz.func120 (by kernel_rfl) (by kernel_rfl) (by kernel_rfl) (UpTo.all ((UpTo.zero.succ c_lexer_Number_0 (by kernel_rfl) (fun _=>rfl) lexer_Number_c0_eq).succ l_lexer_Number_0 (by kernel_rfl) (fun _=>rfl) lexer_Number_l0_eq) (by kernel_rfl) (by kernel_rfl)) lexer_Number_eq K
def g_pexpr_paren:Sig:={ fid:=159,Γ:=[.bool,.str],args:=[(.var 0),(.var 1)],Δ:=[.str],res:=(.var 0),f:=fun k x=>pexpr_paren k x.1 x.2 }
def h_pexpr_paren:Hints ((List UInt8)):={}
def e_pexpr_paren:List Sig:=[]
theorem pexpr_paren_eq (k:Nat) (x:Bool×(List UInt8)):pexpr_paren k x.1 x.2=fx xt e_pexpr_paren g_pexpr_paren Tryz.f159 h_pexpr_paren (bodyOf Tryz.f159) k x:=by kernel_rfl
theorem pexpr_paren_ok (K:Nat):SigOk Tryz.prog g_pexpr_paren K:=sig_fun (X:=xt) (g:=g_pexpr_paren) (H:=h_pexpr_paren) (env:=e_pexpr_paren) (c:=bodyOf Tryz.f159) xt_ok mixed (fun k=>AllOk.nil) Tryz.func159 (by kernel_rfl) (by kernel_rfl) (by kernel_rfl) (UpTo.all UpTo.zero (by kernel_rfl) (by kernel_rfl)) pexpr_paren_eq K
def g_pexpr_written:Sig:={ fid:=161,Γ:=[.tree],args:=[(.var 0)],Δ:=[.str],res:=(.var 0),f:=fun k x=>pexpr_written k x }
def h_pexpr_written:Hints ((List UInt8)):={}
def e_pexpr_written:List Sig:=[g_ptype_Write]
theorem pexpr_written_eq (k:Nat) (x:Tr):pexpr_written k x=fx xt e_pexpr_written g_pexpr_written Tryz.f161 h_pexpr_written (bodyOf Tryz.f161) k x:=by kernel_rfl
theorem pexpr_written_ok (K:Nat):SigOk Tryz.prog g_pexpr_written K:=sig_fun (X:=xt) (g:=g_pexpr_written) (H:=h_pexpr_written) (env:=e_pexpr_written) (c:=bodyOf Tryz.f161) xt_ok mixed (fun k=>(AllOk.cons (ptype_Write_ok k) AllOk.nil)) Tryz.func161 (by kernel_rfl) (by kernel_rfl) (by kernel_rfl) (UpTo.all UpTo.zero (by kernel_rfl) (by kernel_rfl)) pexpr_written_eq K
def g_pexpr_writeArms:Sig:={ fid:=162,Γ:=[(.list false .tree)],args:=[(.var 0)],Δ:=[.str],res:=(.var 0),f:=fun k x=>pexpr_writeArms k x }
def g_pexpr_writeOp:Sig:={ fid:=160,Γ:=[.tree,(.int .i64)],args:=[(.var 0),(.var 1)],Δ:=[.str],res:=(.var 0),f:=fun k x=>pexpr_writeOp k x.1 x.2 }
def g_pexpr_write_1:Sig:={ fid:=158,Γ:=[(.int .i64),(.int .i64),.tree],args:=[(.var 0),(.var 1),(.ptr [(.var 2)])],Δ:=[.str],res:=(.var 0),f:=fun k x=>pexpr_write_1 k x.1 x.2.1 x.2.2 }
def g_pexpr_write:Sig:={ fid:=136,Γ:=[.tree,(.int .i64)],args:=[(.var 0),(.var 1)],Δ:=[.str],res:=(.var 0),f:=fun k x=>pexpr_write k x.1 x.2 }
def l_pexpr_writeArms_0:LH ((List UInt8)):={ Γ:=[(.list false .str),(.list false .tree),(.int .i64)],live:=[(3,(.row 0 0)),(6,(.var 1)),(7,(.len 1)),(8,(.var 2))],sto:=[(0,(.list 9 0 none))],nk:=1,ad:=[.t 3 9 .str],F:=fun k x=>pexpr_writeArms_l0 k x.1 x.2.1 x.2.2 }
def h_pexpr_writeArms:Hints ((List UInt8)):={ ord:=[(5,[.l 0,.l 1,.l 2,.l 3,.l 4,.l 5,.l 6,.l 7,.l 8,.l 9,.l 10,.l 11,.l 12,.l 13,.l 14,.l 15,.l 16,.l 17,.h 18,.l 19,.l 20,.h 21,.m 22])],loops:=[(3,l_pexpr_writeArms_0)] }
def e_pexpr_writeArms:List Sig:=[g_pexpr_write,g_strings_Join]
theorem pexpr_writeArms_eq (k:Nat) (x:(List Tr)):pexpr_writeArms (k+1) x=fx xt e_pexpr_writeArms g_pexpr_writeArms Tryz.f162 h_pexpr_writeArms (bodyOf Tryz.f162) k x:=(pexpr_writeArms.eq_def ..).trans (by kernel_rfl)
theorem pexpr_writeArms_l0_eq (k:Nat) (x:(List (List UInt8))×(List Tr)×Int):pexpr_writeArms_l0 (k+1) x.1 x.2.1 x.2.2=lrhs xt e_pexpr_writeArms 38 0 h_pexpr_writeArms (bodyOf Tryz.f162) (retK xt.T Tryz.f162.results g_pexpr_writeArms) 0 l_pexpr_writeArms_0 k x:=(pexpr_writeArms_l0.eq_def ..).trans (by kernel_rfl)
def c_pexpr_writeOp_0:LH ((List UInt8)):={ Γ:=[.tree,(.int .i64),(.int .i64),(.int .i64),.str],live:=[(0,(.var 0)),(1,(.var 1)),(5,(.var 2)),(6,(.var 3)),(7,(.var 4))],F:=fun k x=>pexpr_writeOp_c0 k x.1 x.2.1 x.2.2.1 x.2.2.2.1 x.2.2.2.2 }
def h_pexpr_writeOp:Hints ((List UInt8)):={ ord:=[(12,[.l 0,.l 1,.l 2,.l 3,.l 4,.l 5,.l 6,.l 7,.l 8,.l 9,.l 11,.l 13,.l 14,.l 15,.l 16,.l 17,.l 18,.l 19,.l 20,.h 10,.l 12,.h 21,.l 22,.h 23,.l 24])],cuts:=[(12,c_pexpr_writeOp_0)] }
def e_pexpr_writeOp:List Sig:=[g_pexpr_write,g_pexpr_paren]
theorem pexpr_writeOp_eq (k:Nat) (x:Tr×Int):pexpr_writeOp (k+1) x.1 x.2=fx xt e_pexpr_writeOp g_pexpr_writeOp Tryz.f160 h_pexpr_writeOp (bodyOf Tryz.f160) k x:=(pexpr_writeOp.eq_def ..).trans (by kernel_rfl)
theorem pexpr_writeOp_c0_eq (k:Nat) (x:Tr×Int×Int×Int×(List UInt8)):pexpr_writeOp_c0 (k+1) x.1 x.2.1 x.2.2.1 x.2.2.2.1 x.2.2.2.2=lrhs xt e_pexpr_writeOp 44 0 h_pexpr_writeOp (bodyOf Tryz.f160) (retK xt.T Tryz.f160.results g_pexpr_writeOp) 0 c_pexpr_writeOp_0 k x:=(pexpr_writeOp_c0.eq_def ..).trans (by kernel_rfl)
def h_pexpr_write_1:Hints ((List UInt8)):={}
def e_pexpr_write_1:List Sig:=[g_pexpr_write]
theorem pexpr_write_1_eq (k:Nat) (x:Int×Int×Tr):pexpr_write_1 (k+1) x.1 x.2.1 x.2.2=fx xt e_pexpr_write_1 g_pexpr_write_1 Tryz.f158 h_pexpr_write_1 (bodyOf Tryz.f158) k x:=(pexpr_write_1.eq_def ..).trans (by kernel_rfl)
def h_pexpr_write:Hints ((List UInt8)):={ ord:=[(24,[.l 0,.l 1,.l 2,.l 3,.l 4,.l 5,.l 6,.l 7,.l 8,.l 9,.l 10,.l 11,.l 12,.l 13,.l 17,.h 14,.l 15,.l 16,.h 18,.l 19,.h 20,.l 21]),(26,[.l 0,.l 1,.l 2,.l 3,.l 4,.l 5,.l 6,.l 7,.l 8,.l 12,.h 9,.l 10,.l 11,.h 13,.l 14,.l 15,.h 16,.l 17]),(30,[.l 0,.l 1,.l 2,.l 6,.l 7,.l 8,.l 9,.l 10,.h 3,.l 4,.l 5,.h 11,.l 12,.h 13,.l 14]),(31,[.l 0,.l 1,.l 2,.l 6,.l 7,.l 8,.l 9,.l 10,.l 11,.l 15,.l 16,.l 17,.l 18,.l 19,.h 3,.l 4,.l 5,.h 12,.l 13,.l 14,.h 20,.l 21,.h 22,.l 23])] }
def e_pexpr_write:List Sig:=[g_lexer_Number,g_pexpr_write_1,g_pexpr_paren,g_pexpr_writeOp,g_pexpr_written,g_pexpr_writeArms]
theorem pexpr_write_eq (k:Nat) (x:Tr×Int):pexpr_write (k+1) x.1 x.2=fx xt e_pexpr_write g_pexpr_write Tryz.f136 h_pexpr_write (bodyOf Tryz.f136) k x:=(pexpr_write.eq_def ..).trans (by kernel_rfl)
theorem pexpr_writeArms_all (K:Nat):SigOk Tryz.prog g_pexpr_writeArms K∧SigOk Tryz.prog g_pexpr_writeOp K∧SigOk Tryz.prog g_pexpr_write_1 K∧SigOk Tryz.prog g_pexpr_write K:=by
  induction K using Nat.strongRecOn with
  | ind K ih=>exact ⟨sig_rec (X:=xt) (g:=g_pexpr_writeArms) (H:=h_pexpr_writeArms) (env:=e_pexpr_writeArms) (c:=bodyOf Tryz.f162) xt_ok mixed (fun k hk=>(AllOk.cons (ih k hk).2.2.2 (AllOk.cons (strings_Join_ok k) AllOk.nil))) Tryz.func162 (by kernel_rfl) (by kernel_rfl) (by kernel_rfl) (UpTo.all (UpTo.zero.succ l_pexpr_writeArms_0 (by kernel_rfl) (fun _=>rfl) pexpr_writeArms_l0_eq) (by kernel_rfl) (by kernel_rfl)) (fun _=>rfl) pexpr_writeArms_eq,sig_rec (X:=xt) (g:=g_pexpr_writeOp) (H:=h_pexpr_writeOp) (env:=e_pexpr_writeOp) (c:=bodyOf Tryz.f160) xt_ok mixed (fun k hk=>(AllOk.cons (ih k hk).2.2.2 (AllOk.cons (pexpr_paren_ok k) AllOk.nil))) Tryz.func160 (by kernel_rfl) (by kernel_rfl) (by kernel_rfl) (UpTo.all (UpTo.zero.succ c_pexpr_writeOp_0 (by kernel_rfl) (fun _=>rfl) pexpr_writeOp_c0_eq) (by kernel_rfl) (by kernel_rfl)) (fun _=>rfl) pexpr_writeOp_eq,sig_rec (X:=xt) (g:=g_pexpr_write_1) (H:=h_pexpr_write_1) (env:=e_pexpr_write_1) (c:=bodyOf Tryz.f158) xt_ok mixed (fun k hk=>(AllOk.cons (ih k hk).2.2.2 AllOk.nil)) Tryz.func158 (by kernel_rfl) (by kernel_rfl) (by kernel_rfl) (UpTo.all UpTo.zero (by kernel_rfl) (by kernel_rfl)) (fun _=>rfl) pexpr_write_1_eq,sig_rec (X:=xt) (g:=g_pexpr_write) (H:=h_pexpr_write) (env:=e_pexpr_write) (c:=bodyOf Tryz.f136) xt_ok mixed (fun k hk=>(AllOk.cons (lexer_Number_ok k) (AllOk.cons (ih k hk).2.2.1 (AllOk.cons (pexpr_paren_ok k) (AllOk.cons (ih k hk).2.1 (AllOk.cons (pexpr_written_ok k) (AllOk.cons (ih k hk).1 AllOk.nil))))))) Tryz.func136 (by kernel_rfl) (by kernel_rfl) (by kernel_rfl) (UpTo.all UpTo.zero (by kernel_rfl) (by kernel_rfl)) (fun _=>rfl) pexpr_write_eq⟩
theorem pexpr_write_ok (K:Nat):SigOk Tryz.prog g_pexpr_write K:=(pexpr_writeArms_all K).2.2.2
def g_pexpr_Write:Sig:={ fid:=97,Γ:=[.tree],args:=[(.var 0)],Δ:=[.str,(.int .i64)],res:=(.tup [(.var 0),(.var 1)]),f:=fun k x=>pexpr_Write k x }
def h_pexpr_Write:Hints ((List UInt8)×Int):={}
def e_pexpr_Write:List Sig:=[g_shape_Expr,g_pexpr_write]
theorem pexpr_Write_eq (k:Nat) (x:Tr):pexpr_Write k x=fx xt e_pexpr_Write g_pexpr_Write Tryz.f97 h_pexpr_Write (bodyOf Tryz.f97) k x:=by kernel_rfl
theorem pexpr_Write_ok (K:Nat):SigOk Tryz.prog g_pexpr_Write K:=sig_fun (X:=xt) (g:=g_pexpr_Write) (H:=h_pexpr_Write) (env:=e_pexpr_Write) (c:=bodyOf Tryz.f97) xt_ok mixed (fun k=>(AllOk.cons (shape_Expr_ok k) (AllOk.cons (pexpr_write_ok k) AllOk.nil))) Tryz.func97 (by kernel_rfl) (by kernel_rfl) (by kernel_rfl) (UpTo.all UpTo.zero (by kernel_rfl) (by kernel_rfl)) pexpr_Write_eq K
def g_print_expr:Sig:={ fid:=63,Γ:=[.tree],args:=[(.var 0)],Δ:=[.str],res:=(.var 0),f:=fun k x=>print_expr k x }
def h_print_expr:Hints ((List UInt8)):={}
def e_print_expr:List Sig:=[g_pexpr_Write]
theorem print_expr_eq (k:Nat) (x:Tr):print_expr k x=fx xt e_print_expr g_print_expr Tryz.f63 h_print_expr (bodyOf Tryz.f63) k x:=by kernel_rfl
theorem print_expr_ok (K:Nat):SigOk Tryz.prog g_print_expr K:=sig_fun (X:=xt) (g:=g_print_expr) (H:=h_print_expr) (env:=e_print_expr) (c:=bodyOf Tryz.f63) xt_ok mixed (fun k=>(AllOk.cons (pexpr_Write_ok k) AllOk.nil)) Tryz.func63 (by kernel_rfl) (by kernel_rfl) (by kernel_rfl) (UpTo.all UpTo.zero (by kernel_rfl) (by kernel_rfl)) print_expr_eq K
def g_print_words:Sig:={ fid:=61,Γ:=[(.list false .str)],args:=[(.var 0)],Δ:=[.str],res:=(.var 0),f:=fun k x=>print_words k x }
def l_print_words_0:LH ((List UInt8)):={ Γ:=[(.list false .str),(.list false .str),(.int .i64)],live:=[(3,(.row 0 0)),(6,(.var 1)),(7,(.len 1)),(8,(.var 2))],sto:=[(0,(.list 9 0 none))],nk:=1,ad:=[.t 3 9 .str],F:=fun k x=>print_words_l0 k x.1 x.2.1 x.2.2 }
def h_print_words:Hints ((List UInt8)):={ loops:=[(3,l_print_words_0)] }
def e_print_words:List Sig:=[g_strings_Join]
theorem print_words_eq (k:Nat) (x:(List (List UInt8))):print_words k x=fx xt e_print_words g_print_words Tryz.f61 h_print_words (bodyOf Tryz.f61) k x:=by kernel_rfl
theorem print_words_l0_eq (k:Nat) (x:(List (List UInt8))×(List (List UInt8))×Int):print_words_l0 (k+1) x.1 x.2.1 x.2.2=lrhs xt e_print_words 21 0 h_print_words (bodyOf Tryz.f61) (retK xt.T Tryz.f61.results g_print_words) 0 l_print_words_0 k x:=(print_words_l0.eq_def ..).trans (by kernel_rfl)
theorem print_words_ok (K:Nat):SigOk Tryz.prog g_print_words K:=sig_fun (X:=xt) (g:=g_print_words) (H:=h_print_words) (env:=e_print_words) (c:=bodyOf Tryz.f61) xt_ok mixed (fun k=>(AllOk.cons (strings_Join_ok k) AllOk.nil)) Tryz.func61 (by kernel_rfl) (by kernel_rfl) (by kernel_rfl) (UpTo.all (UpTo.zero.succ l_print_words_0 (by kernel_rfl) (fun _=>rfl) print_words_l0_eq) (by kernel_rfl) (by kernel_rfl)) print_words_eq K
def g_print_cons:Sig:={ fid:=64,Γ:=[(.list false .tree)],args:=[(.var 0)],Δ:=[.str],res:=(.var 0),f:=fun k x=>print_cons k x }
def l_print_cons_0:LH ((List UInt8)):={ Γ:=[(.list false .str),(.list false .tree),(.int .i64)],live:=[(3,(.row 0 0)),(6,(.var 1)),(7,(.len 1)),(8,(.var 2))],sto:=[(0,(.list 9 0 none))],nk:=1,ad:=[.t 3 9 .str],F:=fun k x=>print_cons_l0 k x.1 x.2.1 x.2.2 }
def h_print_cons:Hints ((List UInt8)):={ ord:=[(5,[.l 0,.l 1,.l 2,.l 3,.l 4,.l 5,.l 6,.l 7,.l 8,.l 9,.l 10,.h 11,.l 12,.h 13,.l 14,.h 15,.m 16])],loops:=[(3,l_print_cons_0)] }
def e_print_cons:List Sig:=[g_print_typ,g_print_words,g_strings_Join]
theorem print_cons_eq (k:Nat) (x:(List Tr)):print_cons k x=fx xt e_print_cons g_print_cons Tryz.f64 h_print_cons (bodyOf Tryz.f64) k x:=by kernel_rfl
theorem print_cons_l0_eq (k:Nat) (x:(List (List UInt8))×(List Tr)×Int):print_cons_l0 (k+1) x.1 x.2.1 x.2.2=lrhs xt e_print_cons 31 0 h_print_cons (bodyOf Tryz.f64) (retK xt.T Tryz.f64.results g_print_cons) 0 l_print_cons_0 k x:=(print_cons_l0.eq_def ..).trans (by kernel_rfl)
theorem print_cons_ok (K:Nat):SigOk Tryz.prog g_print_cons K:=sig_fun (X:=xt) (g:=g_print_cons) (H:=h_print_cons) (env:=e_print_cons) (c:=bodyOf Tryz.f64) xt_ok mixed (fun k=>(AllOk.cons (print_typ_ok k) (AllOk.cons (print_words_ok k) (AllOk.cons (strings_Join_ok k) AllOk.nil)))) Tryz.func64 (by kernel_rfl) (by kernel_rfl) (by kernel_rfl) (UpTo.all (UpTo.zero.succ l_print_cons_0 (by kernel_rfl) (fun _=>rfl) print_cons_l0_eq) (by kernel_rfl) (by kernel_rfl)) print_cons_eq K
def g_print_spec:Sig:={ fid:=39,Γ:=[.tree],args:=[(.var 0)],Δ:=[.str],res:=(.var 0),f:=fun k x=>print_spec k x }
def g_print_each:Sig:={ fid:=73,Γ:=[(.list false .tree)],args:=[(.var 0),(.fn 39 [] [])],Δ:=[.str],res:=(.var 0),f:=fun k x=>print_each k x }
def g_print_sig:Sig:={ fid:=37,Γ:=[.tree],args:=[(.var 0)],Δ:=[.str],res:=(.var 0),f:=fun k x=>print_sig k x }
def h_print_spec:Hints ((List UInt8)):={ ord:=[(3,[.l 0,.l 1,.l 2,.l 3,.l 4,.l 5,.l 6,.l 7,.l 8,.l 9,.h 10,.l 11,.h 12,.l 13]),(7,[.l 0,.l 1,.l 2,.l 3,.l 4,.l 5,.l 6,.l 7,.l 8,.l 9,.h 10,.l 11,.h 12,.l 13]),(9,[.l 0,.l 1,.l 2,.l 3,.l 4,.l 5,.l 6,.l 7,.h 8,.l 9,.h 10,.l 11]),(11,[.l 0,.l 1,.l 2,.l 3,.l 4,.l 5,.l 6,.l 7,.l 8,.l 9,.h 10,.l 11,.h 12,.l 13]),(14,[.l 0,.l 1,.l 2,.l 3,.l 4,.l 5,.l 6,.l 7,.l 8,.h 9,.l 10])] }
def e_print_spec:List Sig:=[g_print_typ,g_print_words,g_print_cons,g_print_sig]
theorem print_spec_eq (k:Nat) (x:Tr):print_spec (k+1) x=fx xt e_print_spec g_print_spec Tryz.f39 h_print_spec (bodyOf Tryz.f39) k x:=(print_spec.eq_def ..).trans (by kernel_rfl)
def l_print_each_0:LH ((List UInt8)):={ Γ:=[(.list false .str),(.list false .tree),(.int .i64)],live:=[(1,(.fn 39 [] [])),(5,(.row 0 0)),(8,(.var 1)),(9,(.len 1)),(10,(.var 2))],sto:=[(0,(.list 9 0 none))],nk:=1,ad:=[.t 5 9 .str],F:=fun k x=>print_each_l0 k x.1 x.2.1 x.2.2 }
def h_print_each:Hints ((List UInt8)):={ loops:=[(3,l_print_each_0)] }
def e_print_each:List Sig:=[g_print_spec,g_print_words]
theorem print_each_eq (k:Nat) (x:(List Tr)):print_each (k+1) x=fx xt e_print_each g_print_each Tryz.f73 h_print_each (bodyOf Tryz.f73) k x:=(print_each.eq_def ..).trans (by kernel_rfl)
theorem print_each_l0_eq (k:Nat) (x:(List (List UInt8))×(List Tr)×Int):print_each_l0 (k+1) x.1 x.2.1 x.2.2=lrhs xt e_print_each 23 0 h_print_each (bodyOf Tryz.f73) (retK xt.T Tryz.f73.results g_print_each) 0 l_print_each_0 k x:=(print_each_l0.eq_def ..).trans (by kernel_rfl)
def h_print_sig:Hints ((List UInt8)):={ ord:=[(5,[.l 0,.l 1,.l 2,.l 3,.l 4,.l 5,.l 7,.l 8,.l 9,.l 10,.l 11,.l 12,.l 13,.l 14,.l 15,.l 16,.h 6,.h 17,.l 18,.h 19,.l 20])] }
def e_print_sig:List Sig:=[g_print_sig,g_print_typ,g_print_words,g_print_each]
theorem print_sig_eq (k:Nat) (x:Tr):print_sig (k+1) x=fx xt e_print_sig g_print_sig Tryz.f37 h_print_sig (bodyOf Tryz.f37) k x:=(print_sig.eq_def ..).trans (by kernel_rfl)
theorem print_spec_all (K:Nat):SigOk Tryz.prog g_print_spec K∧SigOk Tryz.prog g_print_each K∧SigOk Tryz.prog g_print_sig K:=by
  induction K using Nat.strongRecOn with
  | ind K ih=>exact ⟨sig_rec (X:=xt) (g:=g_print_spec) (H:=h_print_spec) (env:=e_print_spec) (c:=bodyOf Tryz.f39) xt_ok mixed (fun k hk=>(AllOk.cons (print_typ_ok k) (AllOk.cons (print_words_ok k) (AllOk.cons (print_cons_ok k) (AllOk.cons (ih k hk).2.2 AllOk.nil))))) Tryz.func39 (by kernel_rfl) (by kernel_rfl) (by kernel_rfl) (UpTo.all UpTo.zero (by kernel_rfl) (by kernel_rfl)) (fun _=>rfl) print_spec_eq,sig_rec (X:=xt) (g:=g_print_each) (H:=h_print_each) (env:=e_print_each) (c:=bodyOf Tryz.f73) xt_ok mixed (fun k hk=>(AllOk.cons (ih k hk).1 (AllOk.cons (print_words_ok k) AllOk.nil))) Tryz.func73 (by kernel_rfl) (by kernel_rfl) (by kernel_rfl) (UpTo.all (UpTo.zero.succ l_print_each_0 (by kernel_rfl) (fun _=>rfl) print_each_l0_eq) (by kernel_rfl) (by kernel_rfl)) (fun _=>rfl) print_each_eq,sig_rec (X:=xt) (g:=g_print_sig) (H:=h_print_sig) (env:=e_print_sig) (c:=bodyOf Tryz.f37) xt_ok mixed (fun k hk=>(AllOk.cons (ih k hk).2.2 (AllOk.cons (print_typ_ok k) (AllOk.cons (print_words_ok k) (AllOk.cons (ih k hk).2.1 AllOk.nil))))) Tryz.func37 (by kernel_rfl) (by kernel_rfl) (by kernel_rfl) (UpTo.all UpTo.zero (by kernel_rfl) (by kernel_rfl)) (fun _=>rfl) print_sig_eq⟩
theorem print_spec_ok (K:Nat):SigOk Tryz.prog g_print_spec K:=(print_spec_all K).1
theorem print_sig_ok (K:Nat):SigOk Tryz.prog g_print_sig K:=(print_spec_all K).2.2
def g_print_each_2:Sig:={ fid:=73,Γ:=[(.list false .tree)],args:=[(.var 0),(.fn 28 [] [])],Δ:=[.str],res:=(.var 0),f:=fun k x=>print_each_2 k x }
def g_print_mod:Sig:={ fid:=35,Γ:=[.tree],args:=[(.var 0)],Δ:=[.str],res:=(.var 0),f:=fun k x=>print_mod k x }
def g_print_decl:Sig:={ fid:=28,Γ:=[.tree],args:=[(.var 0)],Δ:=[.str],res:=(.var 0),f:=fun k x=>print_decl k x }
def l_print_each_2_0:LH ((List UInt8)):={ Γ:=[(.list false .str),(.list false .tree),(.int .i64)],live:=[(1,(.fn 28 [] [])),(5,(.row 0 0)),(8,(.var 1)),(9,(.len 1)),(10,(.var 2))],sto:=[(0,(.list 9 0 none))],nk:=1,ad:=[.t 5 9 .str],F:=fun k x=>print_each_2_l0 k x.1 x.2.1 x.2.2 }
def h_print_each_2:Hints ((List UInt8)):={ loops:=[(3,l_print_each_2_0)] }
def e_print_each_2:List Sig:=[g_print_decl,g_print_words]
theorem print_each_2_eq (k:Nat) (x:(List Tr)):print_each_2 (k+1) x=fx xt e_print_each_2 g_print_each_2 Tryz.f73 h_print_each_2 (bodyOf Tryz.f73) k x:=(print_each_2.eq_def ..).trans (by kernel_rfl)
theorem print_each_2_l0_eq (k:Nat) (x:(List (List UInt8))×(List Tr)×Int):print_each_2_l0 (k+1) x.1 x.2.1 x.2.2=lrhs xt e_print_each_2 23 0 h_print_each_2 (bodyOf Tryz.f73) (retK xt.T Tryz.f73.results g_print_each_2) 0 l_print_each_2_0 k x:=(print_each_2_l0.eq_def ..).trans (by kernel_rfl)
def c_print_mod_0:LH ((List UInt8)):={ Γ:=[.tree,.str],live:=[(0,(.var 0)),(3,(.var 1))],F:=fun k x=>print_mod_c0 k x.1 x.2 }
def h_print_mod:Hints ((List UInt8)):={ ord:=[(5,[.l 0,.l 1,.l 2,.l 3,.l 4,.l 5,.l 6,.l 7,.l 8,.l 9,.h 10,.l 11,.h 12,.l 13]),(10,[.l 0,.l 1,.l 2,.l 3,.l 4,.l 5,.l 7,.l 8,.l 9,.l 10,.l 11,.l 12,.l 13,.h 6,.h 14,.l 15,.h 16,.l 17])],cuts:=[(10,c_print_mod_0)] }
def e_print_mod:List Sig:=[g_print_mod,g_print_words,g_print_sig,g_print_each_2]
theorem print_mod_eq (k:Nat) (x:Tr):print_mod (k+1) x=fx xt e_print_mod g_print_mod Tryz.f35 h_print_mod (bodyOf Tryz.f35) k x:=(print_mod.eq_def ..).trans (by kernel_rfl)
theorem print_mod_c0_eq (k:Nat) (x:Tr×(List UInt8)):print_mod_c0 (k+1) x.1 x.2=lrhs xt e_print_mod 60 0 h_print_mod (bodyOf Tryz.f35) (retK xt.T Tryz.f35.results g_print_mod) 0 c_print_mod_0 k x:=(print_mod_c0.eq_def ..).trans (by kernel_rfl)
def h_print_decl:Hints ((List UInt8)):={ ord:=[(4,[.l 0,.l 1,.l 2,.l 3,.l 4,.l 5,.l 6,.l 7,.l 8,.l 9,.l 11,.l 12,.l 13,.l 14,.l 15,.l 16,.h 10,.h 17,.l 18,.h 19,.l 20]),(5,[.l 0,.l 1,.l 2,.l 3,.l 4,.l 5,.l 6,.l 7,.l 8,.l 9,.h 10,.l 11,.h 12,.l 13]),(7,[.l 0,.l 1,.l 2,.l 3,.l 4,.l 5,.l 6,.l 7,.l 8,.l 9,.h 10,.l 11,.h 12,.l 13]),(9,[.l 0,.l 1,.l 2,.l 3,.l 4,.l 5,.l 6,.l 7,.h 8,.l 9,.h 10,.l 11]),(11,[.l 0,.l 1,.l 2,.l 3,.l 4,.l 5,.l 6,.l 7,.l 8,.l 9,.h 10,.l 11,.h 12,.l 13]),(13,[.l 0,.l 1,.l 2,.l 3,.l 4,.l 5,.l 6,.l 7,.l 8,.l 9,.h 10,.l 11,.h 12,.l 13]),(15,[.l 0,.l 1,.l 2,.l 3,.l 4,.l 5,.l 6,.l 7,.l 8,.l 9,.l 10,.l 11,.l 12,.l 13,.l 15,.l 16,.l 17,.l 18,.l 19,.l 20,.h 14,.h 21,.l 22,.h 23,.l 24])] }
def e_print_decl:List Sig:=[g_print_typ,g_print_expr,g_print_words,g_print_cons,g_print_mod,g_print_sig]
theorem print_decl_eq (k:Nat) (x:Tr):print_decl (k+1) x=fx xt e_print_decl g_print_decl Tryz.f28 h_print_decl (bodyOf Tryz.f28) k x:=(print_decl.eq_def ..).trans (by kernel_rfl)
theorem print_each_2_all (K:Nat):SigOk Tryz.prog g_print_each_2 K∧SigOk Tryz.prog g_print_mod K∧SigOk Tryz.prog g_print_decl K:=by
  induction K using Nat.strongRecOn with
  | ind K ih=>exact ⟨sig_rec (X:=xt) (g:=g_print_each_2) (H:=h_print_each_2) (env:=e_print_each_2) (c:=bodyOf Tryz.f73) xt_ok mixed (fun k hk=>(AllOk.cons (ih k hk).2.2 (AllOk.cons (print_words_ok k) AllOk.nil))) Tryz.func73 (by kernel_rfl) (by kernel_rfl) (by kernel_rfl) (UpTo.all (UpTo.zero.succ l_print_each_2_0 (by kernel_rfl) (fun _=>rfl) print_each_2_l0_eq) (by kernel_rfl) (by kernel_rfl)) (fun _=>rfl) print_each_2_eq,sig_rec (X:=xt) (g:=g_print_mod) (H:=h_print_mod) (env:=e_print_mod) (c:=bodyOf Tryz.f35) xt_ok mixed (fun k hk=>(AllOk.cons (ih k hk).2.1 (AllOk.cons (print_words_ok k) (AllOk.cons (print_sig_ok k) (AllOk.cons (ih k hk).1 AllOk.nil))))) Tryz.func35 (by kernel_rfl) (by kernel_rfl) (by kernel_rfl) (UpTo.all (UpTo.zero.succ c_print_mod_0 (by kernel_rfl) (fun _=>rfl) print_mod_c0_eq) (by kernel_rfl) (by kernel_rfl)) (fun _=>rfl) print_mod_eq,sig_rec (X:=xt) (g:=g_print_decl) (H:=h_print_decl) (env:=e_print_decl) (c:=bodyOf Tryz.f28) xt_ok mixed (fun k hk=>(AllOk.cons (print_typ_ok k) (AllOk.cons (print_expr_ok k) (AllOk.cons (print_words_ok k) (AllOk.cons (print_cons_ok k) (AllOk.cons (ih k hk).2.1 (AllOk.cons (print_sig_ok k) AllOk.nil))))))) Tryz.func28 (by kernel_rfl) (by kernel_rfl) (by kernel_rfl) (UpTo.all UpTo.zero (by kernel_rfl) (by kernel_rfl)) (fun _=>rfl) print_decl_eq⟩
theorem print_mod_ok (K:Nat):SigOk Tryz.prog g_print_mod K:=(print_each_2_all K).2.1
theorem print_decl_ok (K:Nat):SigOk Tryz.prog g_print_decl K:=(print_each_2_all K).2.2
def g_print_Prog:Sig:={ fid:=10,Γ:=[.tree],args:=[(.var 0)],Δ:=[.str,(.int .i64)],res:=(.tup [(.var 0),(.var 1)]),f:=fun k x=>print_Prog k x }
def ren_bld:Shelf.Ren:=⟨fun n=>match n with | 169=>30 | 240=>60 | 276=>94 | _=>0,fun n=>match n with | 0=>0 | 3=>3 | 4=>4 | 5=>5 | 9=>9 | 20=>20 | 37=>55 | 70=>54 | 72=>57 | 75=>62 | 76=>63 | 80=>67 | 127=>96 | 164=>114 | _=>0,fun n=>n⟩
theorem lay_cc:Lays.n240 Tryz.prog ren_bld:=by
  constructor <;> first | kernel_rfl | (intro w; kernel_rfl)
theorem lay_str:Lays.n169 Tryz.prog ren_bld:=by
  constructor <;> first | kernel_rfl | (intro w; kernel_rfl)
theorem ext_bld:Builder.Extra Tryz.prog ren_bld:=by
  refine { toX72:=?_,t5:=?_,a5:=?_,z5:=?_,v5:=?_,infoByte:=?_,cellsByte:=?_,sizeByte:=?_,neB5:=?_ } <;> first | kernel_rfl | (intro w; kernel_rfl) | decide | (constructor <;> kernel_rfl)
theorem bld_cc {ib:Nat} {p c1:AV} (hp:p=.lit (.pointer none)∨p=.ref ib 0):ACalls Tryz.prog 60 [.ref ib 0] [(ib,.row 57 2 [p,c1] 0)] (fun av s=>av=.tup []∧s=[(ib,.row 57 2 [.ref ib 0,c1] 0)]) :=
  acalls_cc lay_cc ext_bld.toX72 (by kernel_rfl) hp
theorem bld_w0 {ib:Nat} {d:List UInt8} (h0:0<d.length) (hb:d.length≤140737488355328):ACalls Tryz.prog 27 [.ref ib 0,.s d] [(ib,.row 57 2 [.lit (.pointer none),.lit (.slice none 0 0)] 0)]
    (fun _ s=>∃ ig,s=[(ig,.row 5 1 (byAV d) 0),(ib,.row 57 2 [.ref ib 0,.row ig d.length] 0)]):=by
  refine acalls_enter Tryz.func27 rfl rfl ?_
  refine aw_seq ?_
  refine aw_normal [(0,.ref ib 0),(1,.s d)] (s':=[(ib,.row 57 2 [.lit (.pointer none),.lit (.slice none 0 0)] 0)]) (by kernel_rfl) rfl ?_
  refine aw_reg ?_
  refine at_run tt_ok 2 [(0,.ref ib 0),(1,.s d)] rfl (by kernel_rfl) ?_
  refine at_end rfl ?_
  refine aw_seq ?_
  refine aw_reg ?_
  refine at_run tt_ok 1 [(0,.ref ib 0),(1,.s d),(6,.ref ib 0)] rfl (by kernel_rfl) ?_
  refine at_op rfl rfl rfl (aop_call (first:=[]) (caps:=[]) (xs:=[.ref ib 0]) (args':=[.ref ib 0]) (sm:=[(ib,.row 57 2 [.lit (.pointer none),.lit (.slice none 0 0)] 0)]) (r:=[]) rfl (by kernel_rfl) Tryz.func60 rfl rfl (bld_cc (.inl rfl)) (by kernel_rfl) (VW.refl _) (permTo [0] (by kernel_rfl))) ?_
  rintro _ _ ⟨_,⟨rfl,rfl⟩,rfl⟩
  refine at_end rfl ?_
  refine aw_seq ?_
  refine aw_reg ?_
  refine at_run tt_ok 4 [(0,.ref ib 0),(1,.s d),(8,.ref ib 0),(11,.ref ib 1)] rfl (by kernel_rfl) ?_
  refine at_one rfl rfl rfl (aop_loadRef (id:=ib) (off:=1) (j:=0) (av:=.lit (.slice none 0 0)) tt_ok rfl rfl rfl rfl) ?_
  refine at_run tt_ok 6 [(1,.s d),(8,.ref ib 0),(12,.lit (.slice none 0 0)),(13,.s d)] rfl (by kernel_rfl) ?_
  refine at_op rfl rfl rfl (aop_appS0 (d:=d) tt_ok rfl rfl rfl rfl rfl rfl rfl rfl h0 hb) ?_
  rintro _ _ ⟨ig,rfl,rfl⟩
  refine at_run tt_ok 9 [(1,.s d),(14,.row ig d.length),(16,.ref ib 1)] rfl (by kernel_rfl) ?_
  refine at_one rfl rfl rfl (aop_storeRef (id:=ib) (off:=1) (j:=1) (ds:=[.row ig d.length]) tt_ok rfl rfl rfl rfl rfl) ?_
  refine at_end rfl ?_
  refine aw_seq ?_
  refine aw_reg ?_
  refine at_run tt_ok 4 [(4,.i ((d.length:Nat):Int)),(5,.lit .nilIface)] rfl (by kernel_rfl) ?_
  refine at_end rfl ?_
  refine aw_ret ?_
  exact ⟨(.tup [.i ((d.length:Nat):Int),.lit .nilIface]),(.tup [.i ((d.length:Nat):Int),.lit .nilIface]),_,(res_tmps (by kernel_rfl)),(View.refl _),⟨_,perm_sel _ [0,1],List.take_sublist 2 _⟩,ig,rfl⟩
theorem bld_w1 {ib ig:Nat} {l d:List UInt8} (hl:0<l.length) (h0:0<d.length) (hb:l.length+d.length≤140737488355328):ACalls Tryz.prog 27 [.ref ib 0,.s d] [(ig,.row 5 1 (byAV l) 0),(ib,.row 57 2 [.ref ib 0,.row ig l.length] 0)]
    (fun _ s=>∃ ig',s=[(ig',.row 5 1 (byAV (l++d)) 0),(ib,.row 57 2 [.ref ib 0,.row ig' (l.length+d.length)] 0)]):=by
  refine acalls_enter Tryz.func27 rfl rfl ?_
  refine aw_seq ?_
  refine aw_normal [(0,.ref ib 0),(1,.s d)] (s':=[(ig,.row 5 1 (byAV l) 0),(ib,.row 57 2 [.ref ib 0,.row ig l.length] 0)]) (by kernel_rfl) rfl ?_
  refine aw_reg ?_
  refine at_run tt_ok 2 [(0,.ref ib 0),(1,.s d)] rfl (by kernel_rfl) ?_
  refine at_end rfl ?_
  refine aw_seq ?_
  refine aw_reg ?_
  refine at_run tt_ok 1 [(0,.ref ib 0),(1,.s d),(6,.ref ib 0)] rfl (by kernel_rfl) ?_
  refine at_op rfl rfl rfl (aop_call (first:=[]) (caps:=[]) (xs:=[.ref ib 0]) (args':=[.ref ib 0]) (sm:=[(ib,.row 57 2 [.ref ib 0,.row ig l.length] 0)]) (r:=[(ig,.row 5 1 (byAV l) 0)]) rfl (by kernel_rfl) Tryz.func60 rfl rfl (bld_cc (.inr rfl)) (by kernel_rfl) (VW.refl _) (permTo [1,0] (by kernel_rfl))) ?_
  rintro _ _ ⟨_,⟨rfl,rfl⟩,rfl⟩
  refine at_end rfl ?_
  refine aw_seq ?_
  refine aw_reg ?_
  refine at_run tt_ok 4 [(0,.ref ib 0),(1,.s d),(8,.ref ib 0),(11,.ref ib 1)] rfl (by kernel_rfl) ?_
  refine at_one rfl rfl rfl (aop_loadRef (id:=ib) (off:=1) (j:=0) (av:=.row ig l.length) tt_ok rfl rfl rfl rfl) ?_
  refine at_run tt_ok 6 [(1,.s d),(8,.ref ib 0),(12,.row ig l.length),(13,.s d)] rfl (by kernel_rfl) ?_
  refine at_op rfl rfl rfl (aop_appS1 (d:=d) (l:=l) (j:=1) (id:=ig) tt_ok rfl rfl rfl rfl rfl rfl rfl hl rfl rfl h0 hb) ?_
  rintro _ _ ⟨ig',rfl,rfl⟩
  refine at_run tt_ok 9 [(1,.s d),(14,.row ig' (l.length+d.length)),(16,.ref ib 1)] rfl (by kernel_rfl) ?_
  refine at_one rfl rfl rfl (aop_storeRef (id:=ib) (off:=1) (j:=1) (ds:=[.row ig' (l.length+d.length)]) tt_ok rfl rfl rfl rfl rfl) ?_
  refine at_end rfl ?_
  refine aw_seq ?_
  refine aw_reg ?_
  refine at_run tt_ok 4 [(4,.i ((d.length:Nat):Int)),(5,.lit .nilIface)] rfl (by kernel_rfl) ?_
  refine at_end rfl ?_
  refine aw_ret ?_
  exact ⟨(.tup [.i ((d.length:Nat):Int),.lit .nilIface]),(.tup [.i ((d.length:Nat):Int),.lit .nilIface]),_,(res_tmps (by kernel_rfl)),(View.refl _),⟨_,perm_sel _ [0,1],List.take_sublist 2 _⟩,ig',rfl⟩
theorem bld_n0 {ib:Nat} {p:AV}:ACalls Tryz.prog 29 [.ref ib 0] [(ib,.row 57 2 [p,.lit (.slice none 0 0)] 0)] (fun av s=>av=.i 0∧s=[(ib,.row 57 2 [p,.lit (.slice none 0 0)] 0)]):=by
  refine acalls_enter Tryz.func29 rfl rfl ?_
  refine aw_seq ?_
  refine aw_normal [(0,.ref ib 0)] (s':=[(ib,.row 57 2 [p,.lit (.slice none 0 0)] 0)]) (by kernel_rfl) rfl ?_
  refine aw_reg ?_
  refine at_run tt_ok 1 [(0,.ref ib 0)] rfl (by kernel_rfl) ?_
  refine at_end rfl ?_
  refine aw_seq ?_
  refine aw_reg ?_
  refine at_run tt_ok 3 [(5,.ref ib 1)] rfl (by kernel_rfl) ?_
  refine at_one rfl rfl rfl (aop_loadRef (id:=ib) (off:=1) (j:=0) (av:=.lit (.slice none 0 0)) tt_ok rfl rfl rfl rfl) ?_
  refine at_run tt_ok 6 [(2,.i 0)] rfl (by kernel_rfl) ?_
  refine at_end rfl ?_
  refine aw_ret ?_
  exact ⟨.i 0,.i 0,_,(res_tmps (by kernel_rfl)),(View.refl _),⟨_,perm_sel _ [0],List.take_sublist 1 _⟩,rfl,rfl⟩
theorem bld_n1 {ib ig n:Nat} {p:AV} {c:Ob}:ACalls Tryz.prog 29 [.ref ib 0] [(ig,c),(ib,.row 57 2 [p,.row ig n] 0)] (fun av s=>av=.i (n:Int)∧s=[(ig,c),(ib,.row 57 2 [p,.row ig n] 0)]):=by
  refine acalls_enter Tryz.func29 rfl rfl ?_
  refine aw_seq ?_
  refine aw_normal [(0,.ref ib 0)] (s':=[(ig,c),(ib,.row 57 2 [p,.row ig n] 0)]) (by kernel_rfl) rfl ?_
  refine aw_reg ?_
  refine at_run tt_ok 1 [(0,.ref ib 0)] rfl (by kernel_rfl) ?_
  refine at_end rfl ?_
  refine aw_seq ?_
  refine aw_reg ?_
  refine at_run tt_ok 3 [(5,.ref ib 1)] rfl (by kernel_rfl) ?_
  refine at_one rfl rfl rfl (aop_loadRef (id:=ib) (off:=1) (j:=1) (av:=.row ig n) tt_ok rfl rfl rfl rfl) ?_
  refine at_run tt_ok 6 [(2,.i (n:Int))] rfl (by kernel_rfl) ?_
  refine at_end rfl ?_
  refine aw_ret ?_
  exact ⟨.i (n:Int),.i (n:Int),_,(res_tmps (by kernel_rfl)),(View.refl _),⟨_,perm_sel _ [0,1],List.take_sublist 2 _⟩,rfl,rfl⟩
def bldS (ib ig:Nat) (l:List UInt8):Store:=if l=[] then [(ib,.row 57 2 [.lit (.pointer none),.lit (.slice none 0 0)] 0)] else [(ig,.row 5 1 (byAV l) 0),(ib,.row 57 2 [.ref ib 0,.row ig l.length] 0)]
theorem bld_w {ib ig:Nat} {l d:List UInt8} (h0:0<d.length) (hb:l.length+d.length≤140737488355328):ACalls Tryz.prog 27 [.ref ib 0,.s d] (bldS ib ig l) (fun _ s=>∃ ig',s=bldS ib ig' (l++d)):=by
  have hd:d≠[]:=fun e=>by rw [e] at h0; exact absurd h0 (by decide)
  unfold bldS
  by_cases hl:l=[]
  · subst hl
    rw [if_pos rfl]
    refine (bld_w0 h0 (by simpa using hb)).mono ?_
    rintro av s ⟨ig',rfl⟩
    exact ⟨ig',by rw [List.nil_append,if_neg hd]⟩
  · rw [if_neg hl]
    refine (bld_w1 (List.length_pos_iff.2 hl) h0 hb).mono ?_
    rintro av s ⟨ig',rfl⟩
    exact ⟨ig',by rw [if_neg (by simp [hd]),List.length_append]⟩
theorem bld_n {ib ig:Nat} {l:List UInt8}:ACalls Tryz.prog 29 [.ref ib 0] (bldS ib ig l) (fun av s=>av=.i ((l.length:Nat):Int)∧s=bldS ib ig l):=by
  unfold bldS
  by_cases hl:l=[]
  · subst hl
    rw [if_pos rfl]
    exact bld_n0
  · rw [if_neg hl]
    exact bld_n1
theorem bld_s {ib ig:Nat} {l:List UInt8}:ACalls Tryz.prog 30 [.ref ib 0] (bldS ib ig l) (fun av s=>av=.s l∧s=[]):=by
  unfold bldS
  by_cases hl:l=[]
  · subst hl
    rw [if_pos rfl]
    exact acalls_str0 lay_str ext_bld
  · rw [if_neg hl]
    refine ((acalls_str1 (ib:=ib) (ig:=ig) (p:=.ref ib 0) lay_str ext_bld hl).frame (r:=[]) (List.Perm.swap _ _ _)).mono ?_
    rintro av s ⟨_,⟨rfl,rfl⟩,rfl⟩
    exact ⟨rfl,rfl⟩
theorem print_Prog_body (K:Nat) (hsh:∀ t e,shape_Prog K t=some e→ACalls Tryz.prog 26 [.tree t] [] (fun av s=>av=.i e∧s=[]))
    (hdc:∀ k t v,print_decl k t=some v→ACalls Tryz.prog 28 [.tree t] [] (fun av s=>av=.s v∧s=[])) (p0:Tr) (r:List UInt8×Int) (h:print_Prog K p0=some r):ACalls Tryz.prog 10 [.tree p0] [] (fun av s=>av=.tup [.s r.1,.i r.2]∧s=[]):=by
  unfold print_Prog at h
  obtain ⟨e,he,h⟩:=bind_some' h
  refine acalls_enter Tryz.func10 rfl rfl ?_
  refine aw_seq ?_
  refine aw_normal [(0,.tree p0)] (s':=[]) (by kernel_rfl) rfl ?_
  refine aw_reg ?_
  refine at_run tt_ok 2 [(0,.tree p0),(2,.s []),(3,.i 0)] rfl (by kernel_rfl) ?_
  refine at_end rfl ?_
  refine aw_seq ?_
  refine aw_seq ?_
  refine aw_reg ?_
  refine at_run tt_ok 1 [(0,.tree p0),(8,.tree p0)] rfl (by kernel_rfl) ?_
  refine at_op rfl rfl rfl (aop_call (first:=[]) (caps:=[]) (xs:=[.tree p0]) (args':=[.tree p0]) (sm:=[]) (r:=[]) rfl (by kernel_rfl) Tryz.func26 rfl rfl (hsh p0 e he) (by kernel_rfl) (VW.refl _) (permTo [] (by kernel_rfl))) ?_
  rintro _ _ ⟨_,⟨rfl,rfl⟩,rfl⟩
  refine at_run tt_ok 3 [(0,.tree p0),(4,.i e)] rfl (by kernel_rfl) ?_
  refine at_end rfl ?_
  refine aw_seq ?_
  refine aw_reg ?_
  refine at_run tt_ok 2 [(0,.tree p0),(4,.i e),(11,.b (!decide (e=0)))] rfl (by kernel_rfl) ?_
  refine at_end rfl ?_
  refine aw_cond (!decide (e=0)) rfl (fun hb=>?_) (fun hb=>?_)
  · have he0:¬ e=0:=by simpa using hb
    rw [if_neg he0] at h
    obtain rfl:=Option.some.inj h
    refine aw_seq ?_
    refine aw_reg ?_
    refine at_run tt_ok 3 [(2,.s []),(3,.i e)] rfl (by kernel_rfl) ?_
    refine at_end rfl ?_
    refine aw_ret ?_
    exact ⟨.tup [.s [],.i e],.tup [.s [],.i e],_,(res_tmps (by kernel_rfl)),(View.refl _),⟨_,perm_sel _ [],List.take_sublist 0 _⟩,rfl,rfl⟩
  · have he0:e=0:=by simpa using hb
    rw [if_pos he0] at h
    refine aw_skip ?_
    cases p0 with
    | nil=>cases h
    | node n1 n2 n3 n4 ks =>
    obtain ⟨s,hs,h⟩:=bind_some' h
    refine aw_seq ?_
    refine aw_reg ?_
    refine at_op rfl rfl rfl (aop_alloc (zs:=[(.pointer none),(.slice none 0 0)]) tt_ok rfl rfl rfl) ?_
    rintro _ _ ⟨ib,rfl,rfl⟩
    refine at_end rfl ?_
    refine aw_seq ?_
    refine aw_seq ?_
    refine aw_normal [(0,.tree (.node n1 n2 n3 n4 ks)),(5,.ref ib 0)] (s':=bldS ib 0 []) (by kernel_rfl) rfl ?_
    refine aw_reg ?_
    refine at_run tt_ok 6 [(5,.ref ib 0),(16,.slc (ks.map AV.tree) ks.length false),(17,.i ((ks.length:Nat):Int)),(18,.i 0)] rfl (by kernel_rfl) ?_
    refine at_end rfl ?_
    refine aw_block ?_
    refine aw_loop_ind' (X:=List UInt8×Int×Nat) (fun k' x=>print_Prog_l0 k' ks x.1 x.2.1=some s) (fun x=>[(5,.ref ib 0),(16,.slc (ks.map AV.tree) ks.length false),(17,.i ((ks.length:Nat):Int)),(18,.i x.2.1)]) (fun x=>bldS ib x.2.2 x.1) (fun x hx=>by cases hx) ?_ K ([],0,0) hs (by kernel_rfl) rfl
    clear hs
    rintro k9 ⟨acc,i,ig⟩ hs
    simp only at hs
    refine aw_seq ?_
    refine aw_reg ?_
    refine at_run tt_ok 1 [(5,.ref ib 0),(16,.slc (ks.map AV.tree) ks.length false),(17,.i ((ks.length:Nat):Int)),(18,.i i),(19,.b (decide (i<((ks.length:Nat):Int))))] rfl (by kernel_rfl) ?_
    refine at_end rfl ?_
    refine aw_seq ?_
    unfold print_Prog_l0 at hs
    refine aw_cond (decide (i<((ks.length:Nat):Int))) rfl (fun hb10=>?_) (fun hb10=>?_)
    · rw [hb10] at hs
      obtain ⟨t,ht,hs⟩:=bind_some' hs
      obtain ⟨v,hv,hs⟩:=bind_some' hs
      by_cases hsz:acc.length+(v.length+1)≤140737488355328
      · rw [if_pos hsz] at hs
        refine aw_skip ?_
        refine aw_seq ?_
        refine aw_block ?_
        refine aw_seq ?_
        refine aw_reg ?_
        refine at_one rfl rfl rfl (aop_idx1 (k:=.i64) (g:=AV.tree) (l:=ks) (fu:=false) (j:=i) (v:=t) tt_ok rfl rfl rfl rfl rfl ht) ?_
        refine at_run tt_ok 3 [(5,.ref ib 0),(7,.tree t),(16,.slc (ks.map AV.tree) ks.length false),(17,.i ((ks.length:Nat):Int)),(18,.i i)] rfl (by kernel_rfl) ?_
        refine at_end rfl ?_
        refine aw_reg ?_
        refine at_run tt_ok 1 [(5,.ref ib 0),(16,.slc (ks.map AV.tree) ks.length false),(17,.i ((ks.length:Nat):Int)),(18,.i i),(22,.tree t)] rfl (by kernel_rfl) ?_
        refine at_op rfl rfl rfl (aop_call (first:=[]) (caps:=[]) (xs:=[.tree t]) (args':=[.tree t]) (sm:=[]) (r:=bldS ib ig acc) rfl (by kernel_rfl) Tryz.func28 rfl rfl (hdc _ _ v hv) (by kernel_rfl) (VW.refl _) (List.Perm.refl _)) ?_
        rintro _ _ ⟨_,⟨rfl,rfl⟩,rfl⟩
        refine at_one rfl rfl rfl (aop_cat (l:=v) (r:=[10]) (v:=v++[10]) (by unfold catS; rw [if_pos (by simp; omega)]) rfl rfl rfl) ?_
        refine at_op rfl rfl rfl (aop_call (first:=[]) (caps:=[]) (xs:=[.ref ib 0,.s (v++[10])]) (args':=[.ref ib 0,.s (v++[10])]) (sm:=bldS ib ig acc) (r:=[]) rfl (by kernel_rfl) Tryz.func27 rfl rfl (bld_w (by simp) (by simp; omega)) (by kernel_rfl) (VW.refl _) (by simp)) ?_
        rintro _ _ ⟨_,⟨ig',rfl⟩,rfl⟩
        refine at_end rfl ?_
        refine aw_reg ?_
        refine at_run tt_ok 2 [(5,.ref ib 0),(16,.slc (ks.map AV.tree) ks.length false),(17,.i ((ks.length:Nat):Int)),(18,.i (IntKind.i64.wrap (i+1)))] rfl (by kernel_rfl) ?_
        refine at_end rfl ?_
        exact ⟨k9,(acc++(v++[10]),IntKind.i64.wrap (i+1),ig'),[],[],Nat.le_refl _,hs,by kernel_rfl,rfl⟩
      · rw [if_neg hsz] at hs; cases hs
    · have hb11:decide (i<((ks.length:Nat):Int))=false:=by simpa using hb10
      rw [hb11] at hs
      obtain rfl:=Option.some.inj hs
      refine aw_exit ?_
      refine aw_seq ?_
      refine aw_seq ?_
      refine aw_reg ?_
      refine at_op rfl rfl rfl (aop_call (first:=[]) (caps:=[]) (xs:=[.ref ib 0]) (args':=[.ref ib 0]) (sm:=bldS ib ig acc) (r:=[]) rfl (by kernel_rfl) Tryz.func29 rfl rfl bld_n (by kernel_rfl) (VW.refl _) (by simp)) ?_
      rintro _ _ ⟨_,⟨rfl,rfl⟩,rfl⟩
      refine at_run tt_ok 2 [(5,.ref ib 0),(28,.b (decide (16384<((acc.length:Nat):Int))))] rfl (by kernel_rfl) ?_
      refine at_end rfl ?_
      refine aw_cond (decide (16384<((acc.length:Nat):Int))) rfl (fun hb12=>?_) (fun hb12=>?_)
      · have hl:16384<acc.length:=by have:=of_decide_eq_true hb12; omega
        rw [if_pos hl] at h
        obtain rfl:=Option.some.inj h
        refine aw_seq ?_
        refine aw_reg ?_
        refine at_run tt_ok 2 [(2,.s []),(3,.i 3)] rfl (by kernel_rfl) ?_
        refine at_end rfl ?_
        refine aw_ret ?_
        exact ⟨.tup [.s [],.i 3],.tup [.s [],.i 3],_,(res_tmps (by kernel_rfl)),(View.refl _),⟨_,perm_sel _ [],List.take_sublist 0 _⟩,rfl,rfl⟩
      · have hl:¬ 16384<acc.length:=by have:=of_decide_eq_false hb12; omega
        rw [if_neg hl] at h
        obtain rfl:=Option.some.inj h
        refine aw_skip ?_
        refine aw_seq ?_
        refine aw_reg ?_
        refine at_op rfl rfl rfl (aop_call (first:=[]) (caps:=[]) (xs:=[.ref ib 0]) (args':=[.ref ib 0]) (sm:=bldS ib ig acc) (r:=[]) rfl (by kernel_rfl) Tryz.func30 rfl rfl bld_s (by kernel_rfl) (VW.refl _) (by simp)) ?_
        rintro _ _ ⟨_,⟨rfl,rfl⟩,rfl⟩
        refine at_run tt_ok 3 [(2,.s acc),(3,.i 0)] rfl (by kernel_rfl) ?_
        refine at_end rfl ?_
        refine aw_ret ?_
        exact ⟨.tup [.s acc,.i 0],.tup [.s acc,.i 0],_,(res_tmps (by kernel_rfl)),(View.refl _),⟨_,perm_sel _ [],List.take_sublist 0 _⟩,rfl,rfl⟩
theorem print_Prog_ok (K:Nat):SigOk Tryz.prog g_print_Prog K:=⟨⟨_,Tryz.func10,by kernel_rfl,by kernel_rfl⟩,fun ids x y hy=>by
  refine (print_Prog_body K (fun t e h=>((shape_Prog_ok K).ok (fun _=>0) t e h).mono (by rintro av s ⟨ids',_,rfl,rfl⟩; exact ⟨rfl,rfl⟩)) (fun k t v h=>((print_decl_ok k).ok (fun _=>0) t v h).mono (by rintro av s ⟨ids',_,rfl,rfl⟩; exact ⟨rfl,rfl⟩)) x y hy).mono ?_
  rintro av s ⟨rfl,rfl⟩
  exact ⟨ids,fun _ _=>rfl,rfl,rfl⟩⟩
def g_ref04_hole:Sig:={ fid:=98,Γ:=[.tree],args:=[(.var 0)],Δ:=[.bool],res:=(.var 0),f:=fun k x=>ref04_hole k x }
def l_ref04_hole_0:LH (Bool):={ Γ:=[.tree,(.int .i64)],live:=[(0,(.var 0)),(3,(.var 1))],F:=fun k x=>ref04_hole_l0 k x.1 x.2 }
def h_ref04_hole:Hints (Bool):={ loops:=[(4,l_ref04_hole_0)] }
def e_ref04_hole:List Sig:=[g_ref04_hole]
theorem ref04_hole_eq (k:Nat) (x:Tr):ref04_hole (k+1) x=fx xt e_ref04_hole g_ref04_hole Tryz.f98 h_ref04_hole (bodyOf Tryz.f98) k x:=(ref04_hole.eq_def ..).trans (by kernel_rfl)
theorem ref04_hole_l0_eq (k:Nat) (x:Tr×Int):ref04_hole_l0 (k+1) x.1 x.2=lrhs xt e_ref04_hole 23 0 h_ref04_hole (bodyOf Tryz.f98) (retK xt.T Tryz.f98.results g_ref04_hole) 0 l_ref04_hole_0 k x:=(ref04_hole_l0.eq_def ..).trans (by kernel_rfl)
theorem ref04_hole_all (K:Nat):SigOk Tryz.prog g_ref04_hole K:=by
  induction K using Nat.strongRecOn with
  | ind K ih=>exact sig_rec (X:=xt) (g:=g_ref04_hole) (H:=h_ref04_hole) (env:=e_ref04_hole) (c:=bodyOf Tryz.f98) xt_ok mixed (fun k hk=>(AllOk.cons (ih k hk) AllOk.nil)) Tryz.func98 (by kernel_rfl) (by kernel_rfl) (by kernel_rfl) (UpTo.all (UpTo.zero.succ l_ref04_hole_0 (by kernel_rfl) (fun _=>rfl) ref04_hole_l0_eq) (by kernel_rfl) (by kernel_rfl)) (fun _=>rfl) ref04_hole_eq
theorem ref04_hole_ok (K:Nat):SigOk Tryz.prog g_ref04_hole K:=(ref04_hole_all K)
def g_ref04_Size:Sig:={ fid:=99,Γ:=[.tree],args:=[(.var 0)],Δ:=[(.int .i64)],res:=(.var 0),f:=fun k x=>ref04_Size k x }
def l_ref04_Size_0:LH (Int):={ Γ:=[.tree,(.int .i64),(.int .i64)],live:=[(0,(.var 0)),(3,(.var 1)),(4,(.var 2))],F:=fun k x=>ref04_Size_l0 k x.1 x.2.1 x.2.2 }
def h_ref04_Size:Hints (Int):={ loops:=[(5,l_ref04_Size_0)] }
def e_ref04_Size:List Sig:=[g_ref04_Size]
theorem ref04_Size_eq (k:Nat) (x:Tr):ref04_Size (k+1) x=fx xt e_ref04_Size g_ref04_Size Tryz.f99 h_ref04_Size (bodyOf Tryz.f99) k x:=(ref04_Size.eq_def ..).trans (by kernel_rfl)
theorem ref04_Size_l0_eq (k:Nat) (x:Tr×Int×Int):ref04_Size_l0 (k+1) x.1 x.2.1 x.2.2=lrhs xt e_ref04_Size 27 0 h_ref04_Size (bodyOf Tryz.f99) (retK xt.T Tryz.f99.results g_ref04_Size) 0 l_ref04_Size_0 k x:=(ref04_Size_l0.eq_def ..).trans (by kernel_rfl)
theorem ref04_Size_all (K:Nat):SigOk Tryz.prog g_ref04_Size K:=by
  induction K using Nat.strongRecOn with
  | ind K ih=>exact sig_rec (X:=xt) (g:=g_ref04_Size) (H:=h_ref04_Size) (env:=e_ref04_Size) (c:=bodyOf Tryz.f99) xt_ok mixed (fun k hk=>(AllOk.cons (ih k hk) AllOk.nil)) Tryz.func99 (by kernel_rfl) (by kernel_rfl) (by kernel_rfl) (UpTo.all (UpTo.zero.succ l_ref04_Size_0 (by kernel_rfl) (fun _=>rfl) ref04_Size_l0_eq) (by kernel_rfl) (by kernel_rfl)) (fun _=>rfl) ref04_Size_eq
theorem ref04_Size_ok (K:Nat):SigOk Tryz.prog g_ref04_Size K:=(ref04_Size_all K)
def g_ref04_cells:Sig:={ fid:=100,Γ:=[.tree,(.int .i64)],args:=[(.var 0),(.var 1)],Δ:=[(.list false (.pair (.int .i64) (.pair (.int .i64) (.pair .str (.pair .str (.list false (.int .i64)))))))],res:=(.var 0),f:=fun k x=>ref04_cells k x.1 x.2 }
def l_ref04_cells_0:LH ((List (Int×Int×(List UInt8)×(List UInt8)×(List Int)))):={ Γ:=[.tree,(.int .i64),(.list false (.pair (.int .i64) (.pair (.int .i64) (.pair .str (.pair .str (.list false (.int .i64))))))),(.int .i64),(.int .i64),(.int .i64),.str,.str,(.list false (.int .i64))],live:=[(0,(.var 0)),(1,(.var 1)),(5,(.row 1 2)),(6,(.ref 0 0)),(7,(.var 3))],sto:=[(0,(.cells 51 5 [(.var 4),(.var 5),(.var 6),(.var 7),(.row 2 8)] false)),(1,(.list 51 2 none)),(2,(.list 3 8 none))],nk:=3,ad:=[.t 5 51 (.pair (.int .i64) (.pair (.int .i64) (.pair .str (.pair .str (.list false (.int .i64)))))),.c 6 4 3 (.int .i64)],F:=fun k x=>ref04_cells_l0 k x.1 x.2.1 x.2.2.1 x.2.2.2.1 x.2.2.2.2.1 x.2.2.2.2.2.1 x.2.2.2.2.2.2.1 x.2.2.2.2.2.2.2.1 x.2.2.2.2.2.2.2.2 }
def h_ref04_cells:Hints ((List (Int×Int×(List UInt8)×(List UInt8)×(List Int)))):={ ord:=[(2,[.l 0,.l 1,.l 2,.l 3,.l 4,.l 5,.l 6,.l 7,.l 8,.l 9,.l 10,.l 11,.l 12,.l 13,.l 14,.l 15,.l 16,.h 17,.h 18])],loops:=[(4,l_ref04_cells_0)] }
def e_ref04_cells:List Sig:=[g_ref04_cells]
theorem ref04_cells_eq (k:Nat) (x:Tr×Int):ref04_cells (k+1) x.1 x.2=fx xt e_ref04_cells g_ref04_cells Tryz.f100 h_ref04_cells (bodyOf Tryz.f100) k x:=(ref04_cells.eq_def ..).trans (by kernel_rfl)
theorem ref04_cells_l0_eq (k:Nat) (x:Tr×Int×(List (Int×Int×(List UInt8)×(List UInt8)×(List Int)))×Int×Int×Int×(List UInt8)×(List UInt8)×(List Int)):ref04_cells_l0 (k+1) x.1 x.2.1 x.2.2.1 x.2.2.2.1 x.2.2.2.2.1 x.2.2.2.2.2.1 x.2.2.2.2.2.2.1 x.2.2.2.2.2.2.2.1 x.2.2.2.2.2.2.2.2=lrhs xt e_ref04_cells 62 0 h_ref04_cells (bodyOf Tryz.f100) (retK xt.T Tryz.f100.results g_ref04_cells) 0 l_ref04_cells_0 k x:=(ref04_cells_l0.eq_def ..).trans (by kernel_rfl)
theorem ref04_cells_all (K:Nat):SigOk Tryz.prog g_ref04_cells K:=by
  induction K using Nat.strongRecOn with
  | ind K ih=>exact sig_rec (X:=xt) (g:=g_ref04_cells) (H:=h_ref04_cells) (env:=e_ref04_cells) (c:=bodyOf Tryz.f100) xt_ok mixed (fun k hk=>(AllOk.cons (ih k hk) AllOk.nil)) Tryz.func100 (by kernel_rfl) (by kernel_rfl) (by kernel_rfl) (UpTo.all (UpTo.zero.succ l_ref04_cells_0 (by kernel_rfl) (fun _=>rfl) ref04_cells_l0_eq) (by kernel_rfl) (by kernel_rfl)) (fun _=>rfl) ref04_cells_eq
theorem ref04_cells_ok (K:Nat):SigOk Tryz.prog g_ref04_cells K:=(ref04_cells_all K)
def g_ref04_Pack:Sig:={ fid:=65,Γ:=[.tree],args:=[(.var 0)],Δ:=[(.list false (.pair (.int .i64) (.pair (.int .i64) (.pair .str (.pair .str (.list false (.int .i64))))))),(.int .i64)],res:=(.tup [(.agg [(.var 0)]),(.var 1)]),f:=fun k x=>ref04_Pack k x }
def h_ref04_Pack:Hints ((List (Int×Int×(List UInt8)×(List UInt8)×(List Int)))×Int):={}
def e_ref04_Pack:List Sig:=[g_ref04_hole,g_ref04_Size,g_ref04_cells]
theorem ref04_Pack_eq (k:Nat) (x:Tr):ref04_Pack k x=fx xt e_ref04_Pack g_ref04_Pack Tryz.f65 h_ref04_Pack (bodyOf Tryz.f65) k x:=by kernel_rfl
theorem ref04_Pack_ok (K:Nat):SigOk Tryz.prog g_ref04_Pack K:=sig_fun (X:=xt) (g:=g_ref04_Pack) (H:=h_ref04_Pack) (env:=e_ref04_Pack) (c:=bodyOf Tryz.f65) xt_ok mixed (fun k=>(AllOk.cons (ref04_hole_ok k) (AllOk.cons (ref04_Size_ok k) (AllOk.cons (ref04_cells_ok k) AllOk.nil)))) Tryz.func65 (by kernel_rfl) (by kernel_rfl) (by kernel_rfl) (UpTo.all UpTo.zero (by kernel_rfl) (by kernel_rfl)) ref04_Pack_eq K
def g_ref04_Deep:Sig:={ fid:=66,Γ:=[.tree],args:=[(.var 0)],Δ:=[(.int .i64)],res:=(.var 0),f:=fun k x=>ref04_Deep k x }
def l_ref04_Deep_0:LH (Int):={ Γ:=[.tree,(.int .i64),(.int .i64)],live:=[(0,(.var 0)),(3,(.var 1)),(4,(.var 2))],F:=fun k x=>ref04_Deep_l0 k x.1 x.2.1 x.2.2 }
def h_ref04_Deep:Hints (Int):={ loops:=[(5,l_ref04_Deep_0)] }
def e_ref04_Deep:List Sig:=[g_ref04_Deep]
theorem ref04_Deep_eq (k:Nat) (x:Tr):ref04_Deep (k+1) x=fx xt e_ref04_Deep g_ref04_Deep Tryz.f66 h_ref04_Deep (bodyOf Tryz.f66) k x:=(ref04_Deep.eq_def ..).trans (by kernel_rfl)
theorem ref04_Deep_l0_eq (k:Nat) (x:Tr×Int×Int):ref04_Deep_l0 (k+1) x.1 x.2.1 x.2.2=lrhs xt e_ref04_Deep 31 0 h_ref04_Deep (bodyOf Tryz.f66) (retK xt.T Tryz.f66.results g_ref04_Deep) 0 l_ref04_Deep_0 k x:=(ref04_Deep_l0.eq_def ..).trans (by kernel_rfl)
theorem ref04_Deep_all (K:Nat):SigOk Tryz.prog g_ref04_Deep K:=by
  induction K using Nat.strongRecOn with
  | ind K ih=>exact sig_rec (X:=xt) (g:=g_ref04_Deep) (H:=h_ref04_Deep) (env:=e_ref04_Deep) (c:=bodyOf Tryz.f66) xt_ok mixed (fun k hk=>(AllOk.cons (ih k hk) AllOk.nil)) Tryz.func66 (by kernel_rfl) (by kernel_rfl) (by kernel_rfl) (UpTo.all (UpTo.zero.succ l_ref04_Deep_0 (by kernel_rfl) (fun _=>rfl) ref04_Deep_l0_eq) (by kernel_rfl) (by kernel_rfl)) (fun _=>rfl) ref04_Deep_eq
theorem ref04_Deep_ok (K:Nat):SigOk Tryz.prog g_ref04_Deep K:=(ref04_Deep_all K)
def g_ref05_rows:Sig:={ fid:=101,Γ:=[],args:=[],Δ:=[(.list false (.pair (.int .i64) (.pair (.int .i64) (.pair .str (.pair .str (.pair (.int .i64) (.pair (.int .i64) .str)))))))],res:=(.var 0),f:=fun k _=>ref05_rows k }
def h_ref05_rows:Hints ((List (Int×Int×(List UInt8)×(List UInt8)×Int×Int×(List UInt8)))):={}
def e_ref05_rows:List Sig:=[]
theorem ref05_rows_eq (k:Nat) (x:Unit):ref05_rows k=fx xt e_ref05_rows g_ref05_rows Tryz.f101 h_ref05_rows (bodyOf Tryz.f101) k x:=by kernel_rfl
theorem ref05_rows_ok (K:Nat):SigOk Tryz.prog g_ref05_rows K:=sig_fun (X:=xt) (g:=g_ref05_rows) (H:=h_ref05_rows) (env:=e_ref05_rows) (c:=bodyOf Tryz.f101) xt_ok mixed (fun k=>AllOk.nil) Tryz.func101 (by kernel_rfl) (by kernel_rfl) (by kernel_rfl) (UpTo.all UpTo.zero (by kernel_rfl) (by kernel_rfl)) ref05_rows_eq K
def g_ref01_next:Sig:={ fid:=190,Γ:=[.str,(.int .i64)],args:=[(.var 0),(.var 1)],Δ:=[(.int .i32),(.int .i64)],res:=(.tup [(.var 0),(.var 1)]),f:=fun k x=>ref01_next k x.1 x.2 }
def c_ref01_next_0:LH (Int×Int):={ Γ:=[.str,(.int .i64),(.int .i64),(.int .i64),(.int .i64)],live:=[(0,(.var 0)),(1,(.var 1)),(7,(.var 2)),(8,(.var 3)),(9,(.var 4))],F:=fun k x=>ref01_next_c0 k x.1 x.2.1 x.2.2.1 x.2.2.2.1 x.2.2.2.2 }
def l_ref01_next_0:LH (Int×Int):={ Γ:=[.str,(.int .i64),(.int .i64),(.int .i64),(.int .i64),(.int .i64)],live:=[(0,(.var 0)),(1,(.var 1)),(7,(.var 2)),(8,(.var 3)),(9,(.var 4)),(10,(.var 5))],F:=fun k x=>ref01_next_l0 k x.1 x.2.1 x.2.2.1 x.2.2.2.1 x.2.2.2.2.1 x.2.2.2.2.2 }
def h_ref01_next:Hints (Int×Int):={ loops:=[(22,l_ref01_next_0)],cuts:=[(19,c_ref01_next_0)] }
def e_ref01_next:List Sig:=[]
theorem ref01_next_eq (k:Nat) (x:(List UInt8)×Int):ref01_next k x.1 x.2=fx xt e_ref01_next g_ref01_next Tryz.f190 h_ref01_next (bodyOf Tryz.f190) k x:=by kernel_rfl
theorem ref01_next_c0_eq (k:Nat) (x:(List UInt8)×Int×Int×Int×Int):ref01_next_c0 (k+1) x.1 x.2.1 x.2.2.1 x.2.2.2.1 x.2.2.2.2=lrhs xt e_ref01_next 94 0 h_ref01_next (bodyOf Tryz.f190) (retK xt.T Tryz.f190.results g_ref01_next) 0 c_ref01_next_0 k x:=(ref01_next_c0.eq_def ..).trans (by kernel_rfl)
theorem ref01_next_l0_eq (k:Nat) (x:(List UInt8)×Int×Int×Int×Int×Int):ref01_next_l0 (k+1) x.1 x.2.1 x.2.2.1 x.2.2.2.1 x.2.2.2.2.1 x.2.2.2.2.2=lrhs xt e_ref01_next 94 0 h_ref01_next (bodyOf Tryz.f190) (retK xt.T Tryz.f190.results g_ref01_next) 1 l_ref01_next_0 k x:=(ref01_next_l0.eq_def ..).trans (by kernel_rfl)
theorem ref01_next_ok (K:Nat):SigOk Tryz.prog g_ref01_next K:=sig_fun (X:=xt) (g:=g_ref01_next) (H:=h_ref01_next) (env:=e_ref01_next) (c:=bodyOf Tryz.f190) xt_ok mixed (fun k=>AllOk.nil) Tryz.func190 (by kernel_rfl) (by kernel_rfl) (by kernel_rfl) (UpTo.all ((UpTo.zero.succ c_ref01_next_0 (by kernel_rfl) (fun _=>rfl) ref01_next_c0_eq).succ l_ref01_next_0 (by kernel_rfl) (fun _=>rfl) ref01_next_l0_eq) (by kernel_rfl) (by kernel_rfl)) ref01_next_eq K
def g_ref01_Decode:Sig:={ fid:=178,Γ:=[.str],args:=[(.var 0)],Δ:=[(.list false (.int .i32)),(.int .i64)],res:=(.tup [(.var 0),(.var 1)]),f:=fun k x=>ref01_Decode k x }
def l_ref01_Decode_0:LH ((List Int)×Int):={ Γ:=[.str,(.list false (.int .i32)),(.int .i64)],live:=[(0,(.var 0)),(4,(.row 0 1)),(5,(.var 2))],sto:=[(0,(.list 21 1 none))],nk:=1,ad:=[.t 4 21 (.int .i32)],F:=fun k x=>ref01_Decode_l0 k x.1 x.2.1 x.2.2 }
def h_ref01_Decode:Hints ((List Int)×Int):={ loops:=[(3,l_ref01_Decode_0)] }
def e_ref01_Decode:List Sig:=[g_ref01_next]
theorem ref01_Decode_eq (k:Nat) (x:(List UInt8)):ref01_Decode k x=fx xt e_ref01_Decode g_ref01_Decode Tryz.f178 h_ref01_Decode (bodyOf Tryz.f178) k x:=by kernel_rfl
theorem ref01_Decode_l0_eq (k:Nat) (x:(List UInt8)×(List Int)×Int):ref01_Decode_l0 (k+1) x.1 x.2.1 x.2.2=lrhs xt e_ref01_Decode 28 0 h_ref01_Decode (bodyOf Tryz.f178) (retK xt.T Tryz.f178.results g_ref01_Decode) 0 l_ref01_Decode_0 k x:=(ref01_Decode_l0.eq_def ..).trans (by kernel_rfl)
theorem ref01_Decode_ok (K:Nat):SigOk Tryz.prog g_ref01_Decode K:=sig_fun (X:=xt) (g:=g_ref01_Decode) (H:=h_ref01_Decode) (env:=e_ref01_Decode) (c:=bodyOf Tryz.f178) xt_ok mixed (fun k=>(AllOk.cons (ref01_next_ok k) AllOk.nil)) Tryz.func178 (by kernel_rfl) (by kernel_rfl) (by kernel_rfl) (UpTo.all (UpTo.zero.succ l_ref01_Decode_0 (by kernel_rfl) (fun _=>rfl) ref01_Decode_l0_eq) (by kernel_rfl) (by kernel_rfl)) ref01_Decode_eq K
def g_ref01_Class:Sig:={ fid:=179,Γ:=[(.int .i32)],args:=[(.var 0)],Δ:=[(.int .i64)],res:=(.var 0),f:=fun k x=>ref01_Class k x }
def h_ref01_Class:Hints (Int):={}
def e_ref01_Class:List Sig:=[]
theorem ref01_Class_eq (k:Nat) (x:Int):ref01_Class k x=fx xt e_ref01_Class g_ref01_Class Tryz.f179 h_ref01_Class (bodyOf Tryz.f179) k x:=by kernel_rfl
theorem ref01_Class_ok (K:Nat):SigOk Tryz.prog g_ref01_Class K:=sig_fun (X:=xt) (g:=g_ref01_Class) (H:=h_ref01_Class) (env:=e_ref01_Class) (c:=bodyOf Tryz.f179) xt_ok mixed (fun k=>AllOk.nil) Tryz.func179 (by kernel_rfl) (by kernel_rfl) (by kernel_rfl) (UpTo.all UpTo.zero (by kernel_rfl) (by kernel_rfl)) ref01_Class_eq K
def g_ref01_Name:Sig:={ fid:=163,Γ:=[.str],args:=[(.var 0)],Δ:=[.bool],res:=(.var 0),f:=fun k x=>ref01_Name k x }
def l_ref01_Name_0:LH (Bool):={ Γ:=[(.list false (.int .i32)),(.int .i64)],live:=[(3,(.var 0)),(5,(.var 1))],F:=fun k x=>ref01_Name_l0 k x.1 x.2 }
def h_ref01_Name:Hints (Bool):={ loops:=[(5,l_ref01_Name_0)] }
def e_ref01_Name:List Sig:=[g_ref01_Decode,g_ref01_Class]
theorem ref01_Name_eq (k:Nat) (x:(List UInt8)):ref01_Name k x=fx xt e_ref01_Name g_ref01_Name Tryz.f163 h_ref01_Name (bodyOf Tryz.f163) k x:=by kernel_rfl
theorem ref01_Name_l0_eq (k:Nat) (x:(List Int)×Int):ref01_Name_l0 (k+1) x.1 x.2=lrhs xt e_ref01_Name 52 0 h_ref01_Name (bodyOf Tryz.f163) (retK xt.T Tryz.f163.results g_ref01_Name) 0 l_ref01_Name_0 k x:=(ref01_Name_l0.eq_def ..).trans (by kernel_rfl)
theorem ref01_Name_ok (K:Nat):SigOk Tryz.prog g_ref01_Name K:=sig_fun (X:=xt) (g:=g_ref01_Name) (H:=h_ref01_Name) (env:=e_ref01_Name) (c:=bodyOf Tryz.f163) xt_ok mixed (fun k=>(AllOk.cons (ref01_Decode_ok k) (AllOk.cons (ref01_Class_ok k) AllOk.nil))) Tryz.func163 (by kernel_rfl) (by kernel_rfl) (by kernel_rfl) (UpTo.all (UpTo.zero.succ l_ref01_Name_0 (by kernel_rfl) (fun _=>rfl) ref01_Name_l0_eq) (by kernel_rfl) (by kernel_rfl)) ref01_Name_eq K
def g_ref02_Words:Sig:={ fid:=180,Γ:=[],args:=[],Δ:=[(.list false .str)],res:=(.var 0),f:=fun k _=>ref02_Words k }
def h_ref02_Words:Hints ((List (List UInt8))):={}
def e_ref02_Words:List Sig:=[]
theorem ref02_Words_eq (k:Nat) (x:Unit):ref02_Words k=fx xt e_ref02_Words g_ref02_Words Tryz.f180 h_ref02_Words (bodyOf Tryz.f180) k x:=by kernel_rfl
theorem ref02_Words_ok (K:Nat):SigOk Tryz.prog g_ref02_Words K:=sig_fun (X:=xt) (g:=g_ref02_Words) (H:=h_ref02_Words) (env:=e_ref02_Words) (c:=bodyOf Tryz.f180) xt_ok mixed (fun k=>AllOk.nil) Tryz.func180 (by kernel_rfl) (by kernel_rfl) (by kernel_rfl) (UpTo.all UpTo.zero (by kernel_rfl) (by kernel_rfl)) ref02_Words_eq K
def g_ref02_Word:Sig:={ fid:=164,Γ:=[.str],args:=[(.var 0)],Δ:=[.bool],res:=(.var 0),f:=fun k x=>ref02_Word k x }
def l_ref02_Word_0:LH (Bool):={ Γ:=[.str,(.list false .str),(.int .i64)],live:=[(0,(.var 0)),(3,(.var 1)),(4,(.var 2))],F:=fun k x=>ref02_Word_l0 k x.1 x.2.1 x.2.2 }
def h_ref02_Word:Hints (Bool):={ loops:=[(3,l_ref02_Word_0)] }
def e_ref02_Word:List Sig:=[g_ref02_Words]
theorem ref02_Word_eq (k:Nat) (x:(List UInt8)):ref02_Word k x=fx xt e_ref02_Word g_ref02_Word Tryz.f164 h_ref02_Word (bodyOf Tryz.f164) k x:=by kernel_rfl
theorem ref02_Word_l0_eq (k:Nat) (x:(List UInt8)×(List (List UInt8))×Int):ref02_Word_l0 (k+1) x.1 x.2.1 x.2.2=lrhs xt e_ref02_Word 18 0 h_ref02_Word (bodyOf Tryz.f164) (retK xt.T Tryz.f164.results g_ref02_Word) 0 l_ref02_Word_0 k x:=(ref02_Word_l0.eq_def ..).trans (by kernel_rfl)
theorem ref02_Word_ok (K:Nat):SigOk Tryz.prog g_ref02_Word K:=sig_fun (X:=xt) (g:=g_ref02_Word) (H:=h_ref02_Word) (env:=e_ref02_Word) (c:=bodyOf Tryz.f164) xt_ok mixed (fun k=>(AllOk.cons (ref02_Words_ok k) AllOk.nil)) Tryz.func164 (by kernel_rfl) (by kernel_rfl) (by kernel_rfl) (UpTo.all (UpTo.zero.succ l_ref02_Word_0 (by kernel_rfl) (fun _=>rfl) ref02_Word_l0_eq) (by kernel_rfl) (by kernel_rfl)) ref02_Word_eq K
def g_ref03_Check:Sig:={ fid:=137,Γ:=[.str],args:=[(.var 0)],Δ:=[.bool],res:=(.var 0),f:=fun k x=>ref03_Check k x }
def h_ref03_Check:Hints (Bool):={}
def e_ref03_Check:List Sig:=[g_ref01_Name,g_ref02_Word]
theorem ref03_Check_eq (k:Nat) (x:(List UInt8)):ref03_Check k x=fx xt e_ref03_Check g_ref03_Check Tryz.f137 h_ref03_Check (bodyOf Tryz.f137) k x:=by kernel_rfl
theorem ref03_Check_ok (K:Nat):SigOk Tryz.prog g_ref03_Check K:=sig_fun (X:=xt) (g:=g_ref03_Check) (H:=h_ref03_Check) (env:=e_ref03_Check) (c:=bodyOf Tryz.f137) xt_ok mixed (fun k=>(AllOk.cons (ref01_Name_ok k) (AllOk.cons (ref02_Word_ok k) AllOk.nil))) Tryz.func137 (by kernel_rfl) (by kernel_rfl) (by kernel_rfl) (UpTo.all UpTo.zero (by kernel_rfl) (by kernel_rfl)) ref03_Check_eq K
def g_ref03_pieces:Sig:={ fid:=165,Γ:=[.str],args:=[(.var 0)],Δ:=[(.list false .str)],res:=(.var 0),f:=fun k x=>ref03_pieces k x }
def l_ref03_pieces_0:LH ((List (List UInt8))):={ Γ:=[.str,(.list false .str),(.int .i64),(.int .i64)],live:=[(0,(.var 0)),(3,(.row 0 1)),(4,(.var 2)),(5,(.var 3))],sto:=[(0,(.list 9 1 none))],nk:=1,ad:=[.t 3 9 .str],F:=fun k x=>ref03_pieces_l0 k x.1 x.2.1 x.2.2.1 x.2.2.2 }
def h_ref03_pieces:Hints ((List (List UInt8))):={ loops:=[(4,l_ref03_pieces_0)] }
def e_ref03_pieces:List Sig:=[]
theorem ref03_pieces_eq (k:Nat) (x:(List UInt8)):ref03_pieces k x=fx xt e_ref03_pieces g_ref03_pieces Tryz.f165 h_ref03_pieces (bodyOf Tryz.f165) k x:=by kernel_rfl
theorem ref03_pieces_l0_eq (k:Nat) (x:(List UInt8)×(List (List UInt8))×Int×Int):ref03_pieces_l0 (k+1) x.1 x.2.1 x.2.2.1 x.2.2.2=lrhs xt e_ref03_pieces 31 0 h_ref03_pieces (bodyOf Tryz.f165) (retK xt.T Tryz.f165.results g_ref03_pieces) 0 l_ref03_pieces_0 k x:=(ref03_pieces_l0.eq_def ..).trans (by kernel_rfl)
theorem ref03_pieces_ok (K:Nat):SigOk Tryz.prog g_ref03_pieces K:=sig_fun (X:=xt) (g:=g_ref03_pieces) (H:=h_ref03_pieces) (env:=e_ref03_pieces) (c:=bodyOf Tryz.f165) xt_ok mixed (fun k=>AllOk.nil) Tryz.func165 (by kernel_rfl) (by kernel_rfl) (by kernel_rfl) (UpTo.all (UpTo.zero.succ l_ref03_pieces_0 (by kernel_rfl) (fun _=>rfl) ref03_pieces_l0_eq) (by kernel_rfl) (by kernel_rfl)) ref03_pieces_eq K
def g_ref03_Long:Sig:={ fid:=138,Γ:=[.str],args:=[(.var 0)],Δ:=[.bool],res:=(.var 0),f:=fun k x=>ref03_Long k x }
def l_ref03_Long_0:LH (Bool):={ Γ:=[(.list false .str),(.int .i64)],live:=[(3,(.var 0)),(4,(.var 1))],F:=fun k x=>ref03_Long_l0 k x.1 x.2 }
def h_ref03_Long:Hints (Bool):={ loops:=[(5,l_ref03_Long_0)] }
def e_ref03_Long:List Sig:=[g_ref03_pieces,g_ref03_Check]
theorem ref03_Long_eq (k:Nat) (x:(List UInt8)):ref03_Long k x=fx xt e_ref03_Long g_ref03_Long Tryz.f138 h_ref03_Long (bodyOf Tryz.f138) k x:=by kernel_rfl
theorem ref03_Long_l0_eq (k:Nat) (x:(List (List UInt8))×Int):ref03_Long_l0 (k+1) x.1 x.2=lrhs xt e_ref03_Long 22 0 h_ref03_Long (bodyOf Tryz.f138) (retK xt.T Tryz.f138.results g_ref03_Long) 0 l_ref03_Long_0 k x:=(ref03_Long_l0.eq_def ..).trans (by kernel_rfl)
theorem ref03_Long_ok (K:Nat):SigOk Tryz.prog g_ref03_Long K:=sig_fun (X:=xt) (g:=g_ref03_Long) (H:=h_ref03_Long) (env:=e_ref03_Long) (c:=bodyOf Tryz.f138) xt_ok mixed (fun k=>(AllOk.cons (ref03_pieces_ok k) (AllOk.cons (ref03_Check_ok k) AllOk.nil))) Tryz.func138 (by kernel_rfl) (by kernel_rfl) (by kernel_rfl) (UpTo.all (UpTo.zero.succ l_ref03_Long_0 (by kernel_rfl) (fun _=>rfl) ref03_Long_l0_eq) (by kernel_rfl) (by kernel_rfl)) ref03_Long_eq K
def g_ref05_word:Sig:={ fid:=102,Γ:=[.str,.str],args:=[(.var 0),(.var 1)],Δ:=[.bool],res:=(.var 0),f:=fun k x=>ref05_word k x.1 x.2 }
def h_ref05_word:Hints (Bool):={}
def e_ref05_word:List Sig:=[g_ref03_Check,g_ref03_Long]
theorem ref05_word_eq (k:Nat) (x:(List UInt8)×(List UInt8)):ref05_word k x.1 x.2=fx xt e_ref05_word g_ref05_word Tryz.f102 h_ref05_word (bodyOf Tryz.f102) k x:=by kernel_rfl
theorem ref05_word_ok (K:Nat):SigOk Tryz.prog g_ref05_word K:=sig_fun (X:=xt) (g:=g_ref05_word) (H:=h_ref05_word) (env:=e_ref05_word) (c:=bodyOf Tryz.f102) xt_ok mixed (fun k=>(AllOk.cons (ref03_Check_ok k) (AllOk.cons (ref03_Long_ok k) AllOk.nil))) Tryz.func102 (by kernel_rfl) (by kernel_rfl) (by kernel_rfl) (UpTo.all UpTo.zero (by kernel_rfl) (by kernel_rfl)) ref05_word_eq K
def g_ref05_cat:Sig:={ fid:=139,Γ:=[(.int .u8)],args:=[(.var 0)],Δ:=[(.int .i64)],res:=(.var 0),f:=fun k x=>ref05_cat k x }
def l_ref05_cat_0:LH (Int):={ Γ:=[(.int .u8),(.int .i64)],live:=[(0,(.var 0)),(3,(.str [116,101,109,115,112,100])),(4,(.var 1))],F:=fun k x=>ref05_cat_l0 k x.1 x.2 }
def h_ref05_cat:Hints (Int):={ loops:=[(3,l_ref05_cat_0)] }
def e_ref05_cat:List Sig:=[]
theorem ref05_cat_eq (k:Nat) (x:Int):ref05_cat k x=fx xt e_ref05_cat g_ref05_cat Tryz.f139 h_ref05_cat (bodyOf Tryz.f139) k x:=by kernel_rfl
theorem ref05_cat_l0_eq (k:Nat) (x:Int×Int):ref05_cat_l0 (k+1) x.1 x.2=lrhs xt e_ref05_cat 18 0 h_ref05_cat (bodyOf Tryz.f139) (retK xt.T Tryz.f139.results g_ref05_cat) 0 l_ref05_cat_0 k x:=(ref05_cat_l0.eq_def ..).trans (by kernel_rfl)
theorem ref05_cat_ok (K:Nat):SigOk Tryz.prog g_ref05_cat K:=sig_fun (X:=xt) (g:=g_ref05_cat) (H:=h_ref05_cat) (env:=e_ref05_cat) (c:=bodyOf Tryz.f139) xt_ok mixed (fun k=>AllOk.nil) Tryz.func139 (by kernel_rfl) (by kernel_rfl) (by kernel_rfl) (UpTo.all (UpTo.zero.succ l_ref05_cat_0 (by kernel_rfl) (fun _=>rfl) ref05_cat_l0_eq) (by kernel_rfl) (by kernel_rfl)) ref05_cat_eq K
def g_ref05_kids:Sig:={ fid:=103,Γ:=[(.list false .tree),.str],args:=[(.var 0),(.var 1)],Δ:=[.bool],res:=(.var 0),f:=fun k x=>ref05_kids k x.1 x.2 }
def g_ref05_Is:Sig:={ fid:=67,Γ:=[.tree,(.int .i64)],args:=[(.var 0),(.var 1)],Δ:=[.bool],res:=(.var 0),f:=fun k x=>ref05_Is k x.1 x.2 }
def l_ref05_kids_0:LH (Bool):={ Γ:=[(.list false .tree),.str,(.int .i64)],live:=[(0,(.var 0)),(1,(.var 1)),(5,(.var 2))],F:=fun k x=>ref05_kids_l0 k x.1 x.2.1 x.2.2 }
def l_ref05_kids_1:LH (Bool):={ Γ:=[(.list false .tree),.str,(.int .i64)],live:=[(0,(.var 0)),(1,(.var 1)),(6,(.var 2))],F:=fun k x=>ref05_kids_l1 k x.1 x.2.1 x.2.2 }
def l_ref05_kids_2:LH (Bool):={ Γ:=[(.list false .tree),.str,(.int .i64),(.int .i64)],live:=[(0,(.var 0)),(1,(.var 1)),(6,(.var 2)),(7,(.var 3))],F:=fun k x=>ref05_kids_l2 k x.1 x.2.1 x.2.2.1 x.2.2.2 }
def h_ref05_kids:Hints (Bool):={ ord:=[(7,[.l 0,.l 1,.l 2,.l 3,.l 4,.l 5,.h 6,.h 7,.l 8,.l 9,.l 10,.l 11,.l 12,.l 13,.l 14,.l 15,.l 16,.l 17,.l 18,.l 19,.l 20,.l 21,.l 22,.l 23,.l 24,.l 25,.l 26,.l 27,.l 28,.l 29,.l 30,.l 31,.l 32,.l 33]),(19,[.l 0,.l 1,.l 2,.l 3,.l 4,.l 5,.l 6,.l 7,.l 8,.l 9,.l 10,.l 11,.l 12,.l 13,.l 14]),(22,[.l 0,.l 1,.l 2,.l 3,.l 4,.l 5,.l 6,.l 7,.l 8,.h 9,.h 10,.l 11,.l 12,.l 13,.l 14,.l 15,.l 16,.h 17,.l 18,.l 19])],loops:=[(5,l_ref05_kids_0),(12,l_ref05_kids_1),(17,l_ref05_kids_2)] }
def e_ref05_kids:List Sig:=[g_ref05_cat,g_ref05_Is,g_ref05_kids]
theorem ref05_kids_eq (k:Nat) (x:(List Tr)×(List UInt8)):ref05_kids (k+1) x.1 x.2=fx xt e_ref05_kids g_ref05_kids Tryz.f103 h_ref05_kids (bodyOf Tryz.f103) k x:=(ref05_kids.eq_def ..).trans (by kernel_rfl)
theorem ref05_kids_l0_eq (k:Nat) (x:(List Tr)×(List UInt8)×Int):ref05_kids_l0 (k+1) x.1 x.2.1 x.2.2=lrhs xt e_ref05_kids 141 0 h_ref05_kids (bodyOf Tryz.f103) (retK xt.T Tryz.f103.results g_ref05_kids) 0 l_ref05_kids_0 k x:=(ref05_kids_l0.eq_def ..).trans (by kernel_rfl)
theorem ref05_kids_l1_eq (k:Nat) (x:(List Tr)×(List UInt8)×Int):ref05_kids_l1 (k+1) x.1 x.2.1 x.2.2=lrhs xt e_ref05_kids 141 0 h_ref05_kids (bodyOf Tryz.f103) (retK xt.T Tryz.f103.results g_ref05_kids) 1 l_ref05_kids_1 k x:=(ref05_kids_l1.eq_def ..).trans (by kernel_rfl)
theorem ref05_kids_l2_eq (k:Nat) (x:(List Tr)×(List UInt8)×Int×Int):ref05_kids_l2 (k+1) x.1 x.2.1 x.2.2.1 x.2.2.2=lrhs xt e_ref05_kids 141 0 h_ref05_kids (bodyOf Tryz.f103) (retK xt.T Tryz.f103.results g_ref05_kids) 2 l_ref05_kids_2 k x:=(ref05_kids_l2.eq_def ..).trans (by kernel_rfl)
def l_ref05_Is_0:LH (Bool):={ Γ:=[.tree,(.int .i64),(.list false (.pair (.int .i64) (.pair (.int .i64) (.pair .str (.pair .str (.pair (.int .i64) (.pair (.int .i64) .str))))))),(.int .i64)],live:=[(0,(.var 0)),(1,(.var 1)),(5,(.var 2)),(6,(.var 3))],F:=fun k x=>ref05_Is_l0 k x.1 x.2.1 x.2.2.1 x.2.2.2 }
def h_ref05_Is:Hints (Bool):={ ord:=[(6,[.l 0,.l 1,.l 2,.l 3,.l 4,.l 5,.l 6,.l 7,.l 8,.l 9,.l 10,.l 11,.l 12,.l 13,.l 14,.l 15,.l 16,.l 17,.l 18,.l 19,.h 20,.l 21,.l 22,.l 23,.l 24,.l 25,.l 26,.l 27,.l 28,.h 29,.l 30,.l 31,.l 32,.l 33,.l 34,.l 35,.l 36,.l 37,.l 38,.l 39,.l 40,.l 41,.l 42,.l 43,.l 44,.l 45,.l 46,.l 47,.l 48,.l 49,.l 50,.l 51,.l 52,.l 53,.l 54,.l 55,.h 56,.l 57])],loops:=[(3,l_ref05_Is_0)] }
def e_ref05_Is:List Sig:=[g_ref05_rows,g_ref05_word,g_ref05_kids]
theorem ref05_Is_eq (k:Nat) (x:Tr×Int):ref05_Is (k+1) x.1 x.2=fx xt e_ref05_Is g_ref05_Is Tryz.f67 h_ref05_Is (bodyOf Tryz.f67) k x:=(ref05_Is.eq_def ..).trans (by kernel_rfl)
theorem ref05_Is_l0_eq (k:Nat) (x:Tr×Int×(List (Int×Int×(List UInt8)×(List UInt8)×Int×Int×(List UInt8)))×Int):ref05_Is_l0 (k+1) x.1 x.2.1 x.2.2.1 x.2.2.2=lrhs xt e_ref05_Is 77 0 h_ref05_Is (bodyOf Tryz.f67) (retK xt.T Tryz.f67.results g_ref05_Is) 0 l_ref05_Is_0 k x:=(ref05_Is_l0.eq_def ..).trans (by kernel_rfl)
theorem ref05_kids_all (K:Nat):SigOk Tryz.prog g_ref05_kids K∧SigOk Tryz.prog g_ref05_Is K:=by
  induction K using Nat.strongRecOn with
  | ind K ih=>exact ⟨sig_rec (X:=xt) (g:=g_ref05_kids) (H:=h_ref05_kids) (env:=e_ref05_kids) (c:=bodyOf Tryz.f103) xt_ok mixed (fun k hk=>(AllOk.cons (ref05_cat_ok k) (AllOk.cons (ih k hk).2 (AllOk.cons (ih k hk).1 AllOk.nil)))) Tryz.func103 (by kernel_rfl) (by kernel_rfl) (by kernel_rfl) (UpTo.all (((UpTo.zero.succ l_ref05_kids_0 (by kernel_rfl) (fun _=>rfl) ref05_kids_l0_eq).succ l_ref05_kids_1 (by kernel_rfl) (fun _=>rfl) ref05_kids_l1_eq).succ l_ref05_kids_2 (by kernel_rfl) (fun _=>rfl) ref05_kids_l2_eq) (by kernel_rfl) (by kernel_rfl)) (fun _=>rfl) ref05_kids_eq,sig_rec (X:=xt) (g:=g_ref05_Is) (H:=h_ref05_Is) (env:=e_ref05_Is) (c:=bodyOf Tryz.f67) xt_ok mixed (fun k hk=>(AllOk.cons (ref05_rows_ok k) (AllOk.cons (ref05_word_ok k) (AllOk.cons (ih k hk).1 AllOk.nil)))) Tryz.func67 (by kernel_rfl) (by kernel_rfl) (by kernel_rfl) (UpTo.all (UpTo.zero.succ l_ref05_Is_0 (by kernel_rfl) (fun _=>rfl) ref05_Is_l0_eq) (by kernel_rfl) (by kernel_rfl)) (fun _=>rfl) ref05_Is_eq⟩
theorem ref05_Is_ok (K:Nat):SigOk Tryz.prog g_ref05_Is K:=(ref05_kids_all K).2
def g_ref05_Check:Sig:={ fid:=31,Γ:=[.tree,(.int .i64)],args:=[(.var 0),(.var 1)],Δ:=[(.int .i64)],res:=(.var 0),f:=fun k x=>ref05_Check k x.1 x.2 }
def h_ref05_Check:Hints (Int):={}
def e_ref05_Check:List Sig:=[g_ref04_Pack,g_ref04_Deep,g_ref05_Is]
theorem ref05_Check_eq (k:Nat) (x:Tr×Int):ref05_Check k x.1 x.2=fx xt e_ref05_Check g_ref05_Check Tryz.f31 h_ref05_Check (bodyOf Tryz.f31) k x:=by kernel_rfl
theorem ref05_Check_ok (K:Nat):SigOk Tryz.prog g_ref05_Check K:=sig_fun (X:=xt) (g:=g_ref05_Check) (H:=h_ref05_Check) (env:=e_ref05_Check) (c:=bodyOf Tryz.f31) xt_ok mixed (fun k=>(AllOk.cons (ref04_Pack_ok k) (AllOk.cons (ref04_Deep_ok k) (AllOk.cons (ref05_Is_ok k) AllOk.nil)))) Tryz.func31 (by kernel_rfl) (by kernel_rfl) (by kernel_rfl) (UpTo.all UpTo.zero (by kernel_rfl) (by kernel_rfl)) ref05_Check_eq K
def g_ref06_within:Sig:={ fid:=104,Γ:=[.tree,.bool],args:=[(.var 0),(.var 1)],Δ:=[.str],res:=(.var 0),f:=fun k x=>ref06_within k x.1 x.2 }
def g_ref06_Text:Sig:={ fid:=68,Γ:=[.tree],args:=[(.var 0)],Δ:=[.str],res:=(.var 0),f:=fun k x=>ref06_Text k x }
def h_ref06_within:Hints ((List UInt8)):={}
def e_ref06_within:List Sig:=[g_ref06_Text]
theorem ref06_within_eq (k:Nat) (x:Tr×Bool):ref06_within (k+1) x.1 x.2=fx xt e_ref06_within g_ref06_within Tryz.f104 h_ref06_within (bodyOf Tryz.f104) k x:=(ref06_within.eq_def ..).trans (by kernel_rfl)
def c_ref06_Text_0:LH ((List UInt8)):={ Γ:=[.tree],live:=[(0,(.var 0))],F:=fun k x=>ref06_Text_c0 k x }
def l_ref06_Text_0:LH ((List UInt8)):={ Γ:=[.tree,.str,(.int .i64)],live:=[(0,(.var 0)),(6,(.var 1)),(7,(.var 2))],F:=fun k x=>ref06_Text_l0 k x.1 x.2.1 x.2.2 }
def c_ref06_Text_1:LH ((List UInt8)):={ Γ:=[.tree,.str,(.int .i64)],live:=[(0,(.var 0)),(6,(.var 1)),(7,(.var 2))],F:=fun k x=>ref06_Text_c1 k x.1 x.2.1 x.2.2 }
def h_ref06_Text:Hints ((List UInt8)):={ ord:=[(7,[.l 0,.l 1,.l 2,.l 3,.l 4,.l 5,.l 6,.l 7,.l 8,.l 9,.l 10,.l 11,.l 12,.l 13,.l 14,.l 15,.l 18,.l 19,.l 20,.l 21,.l 22,.l 23,.h 16,.l 17,.h 24,.l 25,.l 26]),(9,[.l 0,.l 1,.l 2,.l 3,.l 4,.l 5,.l 6,.l 7,.l 8,.l 9,.l 10,.l 11,.l 12,.l 13]),(10,[.l 0,.l 1,.l 2,.l 3,.l 4,.l 5,.l 6,.l 7,.l 8,.l 9,.l 10,.l 11,.l 12,.l 15,.l 16,.l 17,.l 18,.l 19,.l 20,.h 13,.l 14,.h 21,.l 22,.l 23]),(17,[.l 0,.l 1,.l 2,.l 3,.l 4,.l 5,.l 6,.l 7,.l 8,.l 9,.l 10,.l 11,.l 12,.l 13,.l 14,.l 15,.l 16,.l 17,.l 18,.l 19,.l 20,.l 21,.l 22,.l 23,.l 24,.h 25,.l 26,.m 27])],loops:=[(13,l_ref06_Text_0)],cuts:=[(8,c_ref06_Text_0),(17,c_ref06_Text_1)] }
def e_ref06_Text:List Sig:=[g_ref06_within,g_ref06_Text]
theorem ref06_Text_eq (k:Nat) (x:Tr):ref06_Text (k+1) x=fx xt e_ref06_Text g_ref06_Text Tryz.f68 h_ref06_Text (bodyOf Tryz.f68) k x:=(ref06_Text.eq_def ..).trans (by kernel_rfl)
theorem ref06_Text_c0_eq (k:Nat) (x:Tr):ref06_Text_c0 (k+1) x=lrhs xt e_ref06_Text 149 0 h_ref06_Text (bodyOf Tryz.f68) (retK xt.T Tryz.f68.results g_ref06_Text) 0 c_ref06_Text_0 k x:=(ref06_Text_c0.eq_def ..).trans (by kernel_rfl)
theorem ref06_Text_l0_eq (k:Nat) (x:Tr×(List UInt8)×Int):ref06_Text_l0 (k+1) x.1 x.2.1 x.2.2=lrhs xt e_ref06_Text 149 0 h_ref06_Text (bodyOf Tryz.f68) (retK xt.T Tryz.f68.results g_ref06_Text) 1 l_ref06_Text_0 k x:=(ref06_Text_l0.eq_def ..).trans (by kernel_rfl)
theorem ref06_Text_c1_eq (k:Nat) (x:Tr×(List UInt8)×Int):ref06_Text_c1 (k+1) x.1 x.2.1 x.2.2=lrhs xt e_ref06_Text 149 0 h_ref06_Text (bodyOf Tryz.f68) (retK xt.T Tryz.f68.results g_ref06_Text) 2 c_ref06_Text_1 k x:=(ref06_Text_c1.eq_def ..).trans (by kernel_rfl)
theorem ref06_within_all (K:Nat):SigOk Tryz.prog g_ref06_within K∧SigOk Tryz.prog g_ref06_Text K:=by
  induction K using Nat.strongRecOn with
  | ind K ih=>exact ⟨sig_rec (X:=xt) (g:=g_ref06_within) (H:=h_ref06_within) (env:=e_ref06_within) (c:=bodyOf Tryz.f104) xt_ok mixed (fun k hk=>(AllOk.cons (ih k hk).2 AllOk.nil)) Tryz.func104 (by kernel_rfl) (by kernel_rfl) (by kernel_rfl) (UpTo.all UpTo.zero (by kernel_rfl) (by kernel_rfl)) (fun _=>rfl) ref06_within_eq,sig_rec (X:=xt) (g:=g_ref06_Text) (H:=h_ref06_Text) (env:=e_ref06_Text) (c:=bodyOf Tryz.f68) xt_ok mixed (fun k hk=>(AllOk.cons (ih k hk).1 (AllOk.cons (ih k hk).2 AllOk.nil))) Tryz.func68 (by kernel_rfl) (by kernel_rfl) (by kernel_rfl) (UpTo.all (((UpTo.zero.succ c_ref06_Text_0 (by kernel_rfl) (fun _=>rfl) ref06_Text_c0_eq).succ l_ref06_Text_0 (by kernel_rfl) (fun _=>rfl) ref06_Text_l0_eq).succ c_ref06_Text_1 (by kernel_rfl) (fun _=>rfl) ref06_Text_c1_eq) (by kernel_rfl) (by kernel_rfl)) (fun _=>rfl) ref06_Text_eq⟩
theorem ref06_Text_ok (K:Nat):SigOk Tryz.prog g_ref06_Text K:=(ref06_within_all K).2
def g_ref02_Number:Sig:={ fid:=105,Γ:=[(.int .i64)],args:=[(.var 0)],Δ:=[.str],res:=(.var 0),f:=fun k x=>ref02_Number k x }
def h_ref02_Number:Hints ((List UInt8)):={ ord:=[(4,[.l 0,.l 1,.l 3,.l 4,.l 5,.l 6,.l 7,.l 8,.l 9,.h 2,.l 10,.l 11]),(7,[.l 0,.l 1,.l 3,.l 4,.l 5,.l 6,.l 7,.l 8,.h 2,.l 9,.l 10])] }
def e_ref02_Number:List Sig:=[g_ref02_Number]
theorem ref02_Number_eq (k:Nat) (x:Int):ref02_Number (k+1) x=fx xt e_ref02_Number g_ref02_Number Tryz.f105 h_ref02_Number (bodyOf Tryz.f105) k x:=(ref02_Number.eq_def ..).trans (by kernel_rfl)
theorem ref02_Number_all (K:Nat):SigOk Tryz.prog g_ref02_Number K:=by
  induction K using Nat.strongRecOn with
  | ind K ih=>exact sig_rec (X:=xt) (g:=g_ref02_Number) (H:=h_ref02_Number) (env:=e_ref02_Number) (c:=bodyOf Tryz.f105) xt_ok mixed (fun k hk=>(AllOk.cons (ih k hk) AllOk.nil)) Tryz.func105 (by kernel_rfl) (by kernel_rfl) (by kernel_rfl) (UpTo.all UpTo.zero (by kernel_rfl) (by kernel_rfl)) (fun _=>rfl) ref02_Number_eq
theorem ref02_Number_ok (K:Nat):SigOk Tryz.prog g_ref02_Number K:=(ref02_Number_all K)
def g_ref07_level:Sig:={ fid:=107,Γ:=[.tree],args:=[(.var 0)],Δ:=[(.int .i64)],res:=(.var 0),f:=fun k x=>ref07_level k x }
def h_ref07_level:Hints (Int):={}
def e_ref07_level:List Sig:=[]
theorem ref07_level_eq (k:Nat) (x:Tr):ref07_level k x=fx xt e_ref07_level g_ref07_level Tryz.f107 h_ref07_level (bodyOf Tryz.f107) k x:=by kernel_rfl
theorem ref07_level_ok (K:Nat):SigOk Tryz.prog g_ref07_level K:=sig_fun (X:=xt) (g:=g_ref07_level) (H:=h_ref07_level) (env:=e_ref07_level) (c:=bodyOf Tryz.f107) xt_ok mixed (fun k=>AllOk.nil) Tryz.func107 (by kernel_rfl) (by kernel_rfl) (by kernel_rfl) (UpTo.all UpTo.zero (by kernel_rfl) (by kernel_rfl)) ref07_level_eq K
def g_ref07_armsText:Sig:={ fid:=108,Γ:=[(.list false .tree)],args:=[(.var 0)],Δ:=[.str],res:=(.var 0),f:=fun k x=>ref07_armsText k x }
def g_ref07_at:Sig:={ fid:=106,Γ:=[.tree,(.int .i64)],args:=[(.var 0),(.var 1)],Δ:=[.str],res:=(.var 0),f:=fun k x=>ref07_at k x.1 x.2 }
def g_ref07_Text:Sig:={ fid:=69,Γ:=[.tree],args:=[(.var 0)],Δ:=[.str],res:=(.var 0),f:=fun k x=>ref07_Text k x }
def l_ref07_armsText_0:LH ((List UInt8)):={ Γ:=[(.list false .tree),.str,(.int .i64)],live:=[(0,(.var 0)),(3,(.var 1)),(4,(.var 2))],F:=fun k x=>ref07_armsText_l0 k x.1 x.2.1 x.2.2 }
def c_ref07_armsText_0:LH ((List UInt8)):={ Γ:=[(.list false .tree),.str,(.int .i64)],live:=[(0,(.var 0)),(3,(.var 1)),(4,(.var 2))],F:=fun k x=>ref07_armsText_c0 k x.1 x.2.1 x.2.2 }
def h_ref07_armsText:Hints ((List UInt8)):={ ord:=[(7,[.l 0,.l 1,.l 2,.l 3,.l 4,.l 5,.l 6,.l 7,.l 8,.l 9,.l 10,.l 11,.l 12,.l 13,.l 14,.l 15,.l 16,.l 17,.l 18,.l 19,.l 20,.l 21,.l 22,.l 23,.l 24,.l 25,.l 26,.l 27,.h 28,.l 29,.m 30])],loops:=[(3,l_ref07_armsText_0)],cuts:=[(7,c_ref07_armsText_0)] }
def e_ref07_armsText:List Sig:=[g_ref07_Text]
theorem ref07_armsText_eq (k:Nat) (x:(List Tr)):ref07_armsText (k+1) x=fx xt e_ref07_armsText g_ref07_armsText Tryz.f108 h_ref07_armsText (bodyOf Tryz.f108) k x:=(ref07_armsText.eq_def ..).trans (by kernel_rfl)
theorem ref07_armsText_l0_eq (k:Nat) (x:(List Tr)×(List UInt8)×Int):ref07_armsText_l0 (k+1) x.1 x.2.1 x.2.2=lrhs xt e_ref07_armsText 47 0 h_ref07_armsText (bodyOf Tryz.f108) (retK xt.T Tryz.f108.results g_ref07_armsText) 0 l_ref07_armsText_0 k x:=(ref07_armsText_l0.eq_def ..).trans (by kernel_rfl)
theorem ref07_armsText_c0_eq (k:Nat) (x:(List Tr)×(List UInt8)×Int):ref07_armsText_c0 (k+1) x.1 x.2.1 x.2.2=lrhs xt e_ref07_armsText 47 0 h_ref07_armsText (bodyOf Tryz.f108) (retK xt.T Tryz.f108.results g_ref07_armsText) 1 c_ref07_armsText_0 k x:=(ref07_armsText_c0.eq_def ..).trans (by kernel_rfl)
def h_ref07_at:Hints ((List UInt8)):={}
def e_ref07_at:List Sig:=[g_ref07_level,g_ref07_Text]
theorem ref07_at_eq (k:Nat) (x:Tr×Int):ref07_at (k+1) x.1 x.2=fx xt e_ref07_at g_ref07_at Tryz.f106 h_ref07_at (bodyOf Tryz.f106) k x:=(ref07_at.eq_def ..).trans (by kernel_rfl)
def c_ref07_Text_0:LH ((List UInt8)):={ Γ:=[.tree,(.list false .tree),(.int .i64),(.int .i64)],live:=[(0,(.var 0)),(3,(.var 1)),(4,(.slc [(.str []),(.str [32,43,32]),(.str [32,45,32]),(.str [32,42,32]),(.str [32,61,32]),(.str [32,60,32])] 6 true)),(5,(.var 2)),(6,(.var 3))],F:=fun k x=>ref07_Text_c0 k x.1 x.2.1 x.2.2.1 x.2.2.2 }
def h_ref07_Text:Hints ((List UInt8)):={ ord:=[(14,[.l 0,.l 1,.l 2,.l 3,.l 4,.l 5,.l 6,.l 7,.l 8,.l 12,.l 13,.l 14,.h 9,.l 10,.l 11,.h 15,.l 16,.l 17]),(16,[.l 0,.l 1,.l 2,.l 5,.l 6,.l 7,.h 3,.l 4,.h 8,.l 9,.l 10]),(18,[.l 0,.l 1,.l 2,.l 6,.l 7,.l 8,.h 3,.l 4,.l 5,.h 9,.l 10,.l 11,.l 12]),(24,[.l 0,.l 1,.l 2,.l 3,.l 4,.l 5,.l 6,.l 7,.l 8,.l 12,.l 13,.l 14,.h 9,.l 10,.l 11,.h 15,.l 16,.l 17,.l 18]),(26,[.l 0,.l 1,.l 2,.l 6,.l 7,.l 8,.l 12,.l 13,.l 14,.h 3,.l 4,.l 5,.h 9,.l 10,.l 11,.h 15,.l 16,.l 17]),(33,[.l 0,.l 1,.l 2,.l 3,.l 5,.l 6,.l 7,.l 8,.l 9,.l 10,.l 11,.l 13,.l 14,.l 15,.l 16,.l 17,.h 4,.l 12,.h 18,.l 19,.l 20]),(35,[.l 0,.l 1,.l 2,.l 6,.l 7,.h 3,.l 4,.l 5,.h 8,.l 9,.l 10]),(36,[.l 0,.l 1,.l 2,.l 6,.l 7,.l 8,.l 12,.l 13,.h 3,.l 4,.l 5,.h 9,.l 10,.l 11,.h 14,.l 15,.l 16])],cuts:=[(33,c_ref07_Text_0)] }
def e_ref07_Text:List Sig:=[g_ref02_Number,g_ref06_Text,g_ref07_Text,g_ref07_at,g_ref07_level,g_ref07_armsText]
theorem ref07_Text_eq (k:Nat) (x:Tr):ref07_Text (k+1) x=fx xt e_ref07_Text g_ref07_Text Tryz.f69 h_ref07_Text (bodyOf Tryz.f69) k x:=(ref07_Text.eq_def ..).trans (by kernel_rfl)
theorem ref07_Text_c0_eq (k:Nat) (x:Tr×(List Tr)×Int×Int):ref07_Text_c0 (k+1) x.1 x.2.1 x.2.2.1 x.2.2.2=lrhs xt e_ref07_Text 191 0 h_ref07_Text (bodyOf Tryz.f69) (retK xt.T Tryz.f69.results g_ref07_Text) 0 c_ref07_Text_0 k x:=(ref07_Text_c0.eq_def ..).trans (by kernel_rfl)
theorem ref07_armsText_all (K:Nat):SigOk Tryz.prog g_ref07_armsText K∧SigOk Tryz.prog g_ref07_at K∧SigOk Tryz.prog g_ref07_Text K:=by
  induction K using Nat.strongRecOn with
  | ind K ih=>exact ⟨sig_rec (X:=xt) (g:=g_ref07_armsText) (H:=h_ref07_armsText) (env:=e_ref07_armsText) (c:=bodyOf Tryz.f108) xt_ok mixed (fun k hk=>(AllOk.cons (ih k hk).2.2 AllOk.nil)) Tryz.func108 (by kernel_rfl) (by kernel_rfl) (by kernel_rfl) (UpTo.all ((UpTo.zero.succ l_ref07_armsText_0 (by kernel_rfl) (fun _=>rfl) ref07_armsText_l0_eq).succ c_ref07_armsText_0 (by kernel_rfl) (fun _=>rfl) ref07_armsText_c0_eq) (by kernel_rfl) (by kernel_rfl)) (fun _=>rfl) ref07_armsText_eq,sig_rec (X:=xt) (g:=g_ref07_at) (H:=h_ref07_at) (env:=e_ref07_at) (c:=bodyOf Tryz.f106) xt_ok mixed (fun k hk=>(AllOk.cons (ref07_level_ok k) (AllOk.cons (ih k hk).2.2 AllOk.nil))) Tryz.func106 (by kernel_rfl) (by kernel_rfl) (by kernel_rfl) (UpTo.all UpTo.zero (by kernel_rfl) (by kernel_rfl)) (fun _=>rfl) ref07_at_eq,sig_rec (X:=xt) (g:=g_ref07_Text) (H:=h_ref07_Text) (env:=e_ref07_Text) (c:=bodyOf Tryz.f69) xt_ok mixed (fun k hk=>(AllOk.cons (ref02_Number_ok k) (AllOk.cons (ref06_Text_ok k) (AllOk.cons (ih k hk).2.2 (AllOk.cons (ih k hk).2.1 (AllOk.cons (ref07_level_ok k) (AllOk.cons (ih k hk).1 AllOk.nil))))))) Tryz.func69 (by kernel_rfl) (by kernel_rfl) (by kernel_rfl) (UpTo.all (UpTo.zero.succ c_ref07_Text_0 (by kernel_rfl) (fun _=>rfl) ref07_Text_c0_eq) (by kernel_rfl) (by kernel_rfl)) (fun _=>rfl) ref07_Text_eq⟩
theorem ref07_Text_ok (K:Nat):SigOk Tryz.prog g_ref07_Text K:=(ref07_armsText_all K).2.2
def g_ref09_row:Sig:={ fid:=70,Γ:=[.tree],args:=[(.var 0)],Δ:=[.str],res:=(.var 0),f:=fun k x=>ref09_row k x }
def h_ref09_row:Hints ((List UInt8)):={}
def e_ref09_row:List Sig:=[]
theorem ref09_row_eq (k:Nat) (x:Tr):ref09_row k x=fx xt e_ref09_row g_ref09_row Tryz.f70 h_ref09_row (bodyOf Tryz.f70) k x:=by kernel_rfl
theorem ref09_row_ok (K:Nat):SigOk Tryz.prog g_ref09_row K:=sig_fun (X:=xt) (g:=g_ref09_row) (H:=h_ref09_row) (env:=e_ref09_row) (c:=bodyOf Tryz.f70) xt_ok mixed (fun k=>AllOk.nil) Tryz.func70 (by kernel_rfl) (by kernel_rfl) (by kernel_rfl) (UpTo.all UpTo.zero (by kernel_rfl) (by kernel_rfl)) ref09_row_eq K
def g_ref09_part:Sig:={ fid:=71,Γ:=[.tree,.str],args:=[(.var 0),(.var 1)],Δ:=[.str],res:=(.var 0),f:=fun k x=>ref09_part k x.1 x.2 }
def g_ref09_Text:Sig:={ fid:=32,Γ:=[.tree],args:=[(.var 0)],Δ:=[.str],res:=(.var 0),f:=fun k x=>ref09_Text k x }
def l_ref09_part_0:LH ((List UInt8)):={ Γ:=[.tree,.str,.str,(.int .i64)],live:=[(0,(.var 0)),(1,(.var 1)),(5,(.var 2)),(6,(.var 3))],F:=fun k x=>ref09_part_l0 k x.1 x.2.1 x.2.2.1 x.2.2.2 }
def c_ref09_part_0:LH ((List UInt8)):={ Γ:=[.tree,.str,.str,(.int .i64)],live:=[(0,(.var 0)),(1,(.var 1)),(5,(.var 2)),(6,(.var 3))],F:=fun k x=>ref09_part_c0 k x.1 x.2.1 x.2.2.1 x.2.2.2 }
def c_ref09_part_1:LH ((List UInt8)):={ Γ:=[.tree,.str,.str,(.int .i64)],live:=[(0,(.var 0)),(1,(.var 1)),(5,(.var 2)),(6,(.var 3))],F:=fun k x=>ref09_part_c1 k x.1 x.2.1 x.2.2.1 x.2.2.2 }
def h_ref09_part:Hints ((List UInt8)):={ ord:=[(6,[.l 0,.l 1,.l 2,.l 3,.l 4,.l 5,.l 6,.l 7,.l 8,.l 9,.h 10,.l 11]),(18,[.l 0,.l 1,.l 2,.l 3,.l 4,.l 5,.l 6,.l 7,.l 8,.l 9,.l 10,.l 11,.l 12,.l 13,.l 14,.l 15,.l 16,.l 17,.l 18,.l 19,.l 20,.l 21,.l 22,.l 23,.l 24,.h 25,.l 26,.m 27])],loops:=[(11,l_ref09_part_0)],cuts:=[(15,c_ref09_part_0),(17,c_ref09_part_1)] }
def e_ref09_part:List Sig:=[g_ref09_Text,g_ref06_Text]
theorem ref09_part_eq (k:Nat) (x:Tr×(List UInt8)):ref09_part (k+1) x.1 x.2=fx xt e_ref09_part g_ref09_part Tryz.f71 h_ref09_part (bodyOf Tryz.f71) k x:=(ref09_part.eq_def ..).trans (by kernel_rfl)
theorem ref09_part_l0_eq (k:Nat) (x:Tr×(List UInt8)×(List UInt8)×Int):ref09_part_l0 (k+1) x.1 x.2.1 x.2.2.1 x.2.2.2=lrhs xt e_ref09_part 104 0 h_ref09_part (bodyOf Tryz.f71) (retK xt.T Tryz.f71.results g_ref09_part) 0 l_ref09_part_0 k x:=(ref09_part_l0.eq_def ..).trans (by kernel_rfl)
theorem ref09_part_c0_eq (k:Nat) (x:Tr×(List UInt8)×(List UInt8)×Int):ref09_part_c0 (k+1) x.1 x.2.1 x.2.2.1 x.2.2.2=lrhs xt e_ref09_part 104 0 h_ref09_part (bodyOf Tryz.f71) (retK xt.T Tryz.f71.results g_ref09_part) 1 c_ref09_part_0 k x:=(ref09_part_c0.eq_def ..).trans (by kernel_rfl)
theorem ref09_part_c1_eq (k:Nat) (x:Tr×(List UInt8)×(List UInt8)×Int):ref09_part_c1 (k+1) x.1 x.2.1 x.2.2.1 x.2.2.2=lrhs xt e_ref09_part 104 0 h_ref09_part (bodyOf Tryz.f71) (retK xt.T Tryz.f71.results g_ref09_part) 2 c_ref09_part_1 k x:=(ref09_part_c1.eq_def ..).trans (by kernel_rfl)
def l_ref09_Text_0:LH ((List UInt8)):={ Γ:=[.tree,.str,.str,(.int .i64),(.int .i64)],live:=[(0,(.var 0)),(3,(.var 1)),(4,(.var 2)),(5,(.var 3)),(6,(.var 4))],F:=fun k x=>ref09_Text_l0 k x.1 x.2.1 x.2.2.1 x.2.2.2.1 x.2.2.2.2 }
def h_ref09_Text:Hints ((List UInt8)):={ loops:=[(9,l_ref09_Text_0)] }
def e_ref09_Text:List Sig:=[g_ref06_Text,g_ref07_Text,g_ref09_row,g_ref09_part]
theorem ref09_Text_eq (k:Nat) (x:Tr):ref09_Text (k+1) x=fx xt e_ref09_Text g_ref09_Text Tryz.f32 h_ref09_Text (bodyOf Tryz.f32) k x:=(ref09_Text.eq_def ..).trans (by kernel_rfl)
theorem ref09_Text_l0_eq (k:Nat) (x:Tr×(List UInt8)×(List UInt8)×Int×Int):ref09_Text_l0 (k+1) x.1 x.2.1 x.2.2.1 x.2.2.2.1 x.2.2.2.2=lrhs xt e_ref09_Text 60 0 h_ref09_Text (bodyOf Tryz.f32) (retK xt.T Tryz.f32.results g_ref09_Text) 0 l_ref09_Text_0 k x:=(ref09_Text_l0.eq_def ..).trans (by kernel_rfl)
theorem ref09_part_all (K:Nat):SigOk Tryz.prog g_ref09_part K∧SigOk Tryz.prog g_ref09_Text K:=by
  induction K using Nat.strongRecOn with
  | ind K ih=>exact ⟨sig_rec (X:=xt) (g:=g_ref09_part) (H:=h_ref09_part) (env:=e_ref09_part) (c:=bodyOf Tryz.f71) xt_ok mixed (fun k hk=>(AllOk.cons (ih k hk).2 (AllOk.cons (ref06_Text_ok k) AllOk.nil))) Tryz.func71 (by kernel_rfl) (by kernel_rfl) (by kernel_rfl) (UpTo.all (((UpTo.zero.succ l_ref09_part_0 (by kernel_rfl) (fun _=>rfl) ref09_part_l0_eq).succ c_ref09_part_0 (by kernel_rfl) (fun _=>rfl) ref09_part_c0_eq).succ c_ref09_part_1 (by kernel_rfl) (fun _=>rfl) ref09_part_c1_eq) (by kernel_rfl) (by kernel_rfl)) (fun _=>rfl) ref09_part_eq,sig_rec (X:=xt) (g:=g_ref09_Text) (H:=h_ref09_Text) (env:=e_ref09_Text) (c:=bodyOf Tryz.f32) xt_ok mixed (fun k hk=>(AllOk.cons (ref06_Text_ok k) (AllOk.cons (ref07_Text_ok k) (AllOk.cons (ref09_row_ok k) (AllOk.cons (ih k hk).1 AllOk.nil))))) Tryz.func32 (by kernel_rfl) (by kernel_rfl) (by kernel_rfl) (UpTo.all (UpTo.zero.succ l_ref09_Text_0 (by kernel_rfl) (fun _=>rfl) ref09_Text_l0_eq) (by kernel_rfl) (by kernel_rfl)) (fun _=>rfl) ref09_Text_eq⟩
theorem ref09_Text_ok (K:Nat):SigOk Tryz.prog g_ref09_Text K:=(ref09_part_all K).2
def g_ref09_Prog:Sig:={ fid:=11,Γ:=[.tree],args:=[(.var 0)],Δ:=[.str,(.int .i64)],res:=(.tup [(.var 0),(.var 1)]),f:=fun k x=>ref09_Prog k x }
def l_ref09_Prog_0:LH ((List UInt8)×Int):={ Γ:=[.tree,.str,(.int .i64)],live:=[(0,(.var 0)),(5,(.var 1)),(6,(.var 2))],F:=fun k x=>ref09_Prog_l0 k x.1 x.2.1 x.2.2 }
def h_ref09_Prog:Hints ((List UInt8)×Int):={ loops:=[(6,l_ref09_Prog_0)] }
def e_ref09_Prog:List Sig:=[g_ref05_Check,g_ref09_Text]
theorem ref09_Prog_eq (k:Nat) (x:Tr):ref09_Prog k x=fx xt e_ref09_Prog g_ref09_Prog Tryz.f11 h_ref09_Prog (bodyOf Tryz.f11) k x:=by kernel_rfl
theorem ref09_Prog_l0_eq (k:Nat) (x:Tr×(List UInt8)×Int):ref09_Prog_l0 (k+1) x.1 x.2.1 x.2.2=lrhs xt e_ref09_Prog 36 0 h_ref09_Prog (bodyOf Tryz.f11) (retK xt.T Tryz.f11.results g_ref09_Prog) 0 l_ref09_Prog_0 k x:=(ref09_Prog_l0.eq_def ..).trans (by kernel_rfl)
theorem ref09_Prog_ok (K:Nat):SigOk Tryz.prog g_ref09_Prog K:=sig_fun (X:=xt) (g:=g_ref09_Prog) (H:=h_ref09_Prog) (env:=e_ref09_Prog) (c:=bodyOf Tryz.f11) xt_ok mixed (fun k=>(AllOk.cons (ref05_Check_ok k) (AllOk.cons (ref09_Text_ok k) AllOk.nil))) Tryz.func11 (by kernel_rfl) (by kernel_rfl) (by kernel_rfl) (UpTo.all (UpTo.zero.succ l_ref09_Prog_0 (by kernel_rfl) (fun _=>rfl) ref09_Prog_l0_eq) (by kernel_rfl) (by kernel_rfl)) ref09_Prog_eq K
def g_runes_Check:Sig:={ fid:=47,Γ:=[.str],args:=[(.var 0)],Δ:=[(.int .i64),(.int .i64)],res:=(.tup [(.var 0),(.var 1)]),f:=fun k x=>runes_Check k x }
def l_runes_Check_0:LH (Int×Int):={ Γ:=[.str,(.int .i64)],live:=[(10,(.it 0))],sto:=[(0,(.iter 0 1))],nk:=1,F:=fun k x=>runes_Check_l0 k x.1 x.2 }
def h_runes_Check:Hints (Int×Int):={ loops:=[(4,l_runes_Check_0)] }
def e_runes_Check:List Sig:=[g_runes_Class]
theorem runes_Check_eq (k:Nat) (x:(List UInt8)):runes_Check k x=fx xt e_runes_Check g_runes_Check Tryz.f47 h_runes_Check (bodyOf Tryz.f47) k x:=by kernel_rfl
theorem runes_Check_l0_eq (k:Nat) (x:(List UInt8)×Int):runes_Check_l0 (k+1) x.1 x.2=lrhs xt e_runes_Check 31 0 h_runes_Check (bodyOf Tryz.f47) (retK xt.T Tryz.f47.results g_runes_Check) 0 l_runes_Check_0 k x:=(runes_Check_l0.eq_def ..).trans (by kernel_rfl)
theorem runes_Check_ok (K:Nat):SigOk Tryz.prog g_runes_Check K:=sig_fun (X:=xt) (g:=g_runes_Check) (H:=h_runes_Check) (env:=e_runes_Check) (c:=bodyOf Tryz.f47) xt_ok mixed (fun k=>(AllOk.cons (runes_Class_ok k) AllOk.nil)) Tryz.func47 (by kernel_rfl) (by kernel_rfl) (by kernel_rfl) (UpTo.all (UpTo.zero.succ l_runes_Check_0 (by kernel_rfl) (fun _=>rfl) runes_Check_l0_eq) (by kernel_rfl) (by kernel_rfl)) runes_Check_eq K
def g_lexer_Lex_1:Sig:={ fid:=49,Γ:=[(.int .i32)],args:=[(.var 0)],Δ:=[.bool],res:=(.var 0),f:=fun k x=>lexer_Lex_1 k x }
def h_lexer_Lex_1:Hints (Bool):={}
def e_lexer_Lex_1:List Sig:=[g_runes_Class]
theorem lexer_Lex_1_eq (k:Nat) (x:Int):lexer_Lex_1 k x=fx xt e_lexer_Lex_1 g_lexer_Lex_1 Tryz.f49 h_lexer_Lex_1 (bodyOf Tryz.f49) k x:=by kernel_rfl
theorem lexer_Lex_1_ok (K:Nat):SigOk Tryz.prog g_lexer_Lex_1 K:=sig_fun (X:=xt) (g:=g_lexer_Lex_1) (H:=h_lexer_Lex_1) (env:=e_lexer_Lex_1) (c:=bodyOf Tryz.f49) xt_ok mixed (fun k=>(AllOk.cons (runes_Class_ok k) AllOk.nil)) Tryz.func49 (by kernel_rfl) (by kernel_rfl) (by kernel_rfl) (UpTo.all UpTo.zero (by kernel_rfl) (by kernel_rfl)) lexer_Lex_1_eq K
def g_lexer_span:Sig:={ fid:=48,Γ:=[.str],args:=[(.var 0),(.fn 49 [] [])],Δ:=[(.int .i64)],res:=(.var 0),f:=fun k x=>lexer_span k x }
def l_lexer_span_0:LH (Int):={ Γ:=[.str,.str,(.int .i64)],live:=[(0,(.var 0)),(1,(.fn 49 [] [])),(8,(.it 0))],sto:=[(0,(.iter 1 2))],nk:=1,F:=fun k x=>lexer_span_l0 k x.1 x.2.1 x.2.2 }
def h_lexer_span:Hints (Int):={ loops:=[(2,l_lexer_span_0)] }
def e_lexer_span:List Sig:=[g_lexer_Lex_1]
theorem lexer_span_eq (k:Nat) (x:(List UInt8)):lexer_span k x=fx xt e_lexer_span g_lexer_span Tryz.f48 h_lexer_span (bodyOf Tryz.f48) k x:=by kernel_rfl
theorem lexer_span_l0_eq (k:Nat) (x:(List UInt8)×(List UInt8)×Int):lexer_span_l0 (k+1) x.1 x.2.1 x.2.2=lrhs xt e_lexer_span 20 0 h_lexer_span (bodyOf Tryz.f48) (retK xt.T Tryz.f48.results g_lexer_span) 0 l_lexer_span_0 k x:=(lexer_span_l0.eq_def ..).trans (by kernel_rfl)
theorem lexer_span_ok (K:Nat):SigOk Tryz.prog g_lexer_span K:=sig_fun (X:=xt) (g:=g_lexer_span) (H:=h_lexer_span) (env:=e_lexer_span) (c:=bodyOf Tryz.f48) xt_ok mixed (fun k=>(AllOk.cons (lexer_Lex_1_ok k) AllOk.nil)) Tryz.func48 (by kernel_rfl) (by kernel_rfl) (by kernel_rfl) (UpTo.all (UpTo.zero.succ l_lexer_span_0 (by kernel_rfl) (fun _=>rfl) lexer_span_l0_eq) (by kernel_rfl) (by kernel_rfl)) lexer_span_eq K
def g_stringslite_HasPrefix:Sig:={ fid:=80,Γ:=[.str,.str],args:=[(.var 0),(.var 1)],Δ:=[.bool],res:=(.var 0),f:=fun k x=>stringslite_HasPrefix k x.1 x.2 }
def h_stringslite_HasPrefix:Hints (Bool):={}
def e_stringslite_HasPrefix:List Sig:=[]
theorem stringslite_HasPrefix_eq (k:Nat) (x:(List UInt8)×(List UInt8)):stringslite_HasPrefix k x.1 x.2=fx xt e_stringslite_HasPrefix g_stringslite_HasPrefix Tryz.f80 h_stringslite_HasPrefix (bodyOf Tryz.f80) k x:=by kernel_rfl
theorem stringslite_HasPrefix_ok (K:Nat):SigOk Tryz.prog g_stringslite_HasPrefix K:=sig_fun (X:=xt) (g:=g_stringslite_HasPrefix) (H:=h_stringslite_HasPrefix) (env:=e_stringslite_HasPrefix) (c:=bodyOf Tryz.f80) xt_ok mixed (fun k=>AllOk.nil) Tryz.func80 (by kernel_rfl) (by kernel_rfl) (by kernel_rfl) (UpTo.all UpTo.zero (by kernel_rfl) (by kernel_rfl)) stringslite_HasPrefix_eq K
def g_strings_HasPrefix:Sig:={ fid:=51,Γ:=[.str,.str],args:=[(.var 0),(.var 1)],Δ:=[.bool],res:=(.var 0),f:=fun k x=>strings_HasPrefix k x.1 x.2 }
def h_strings_HasPrefix:Hints (Bool):={}
def e_strings_HasPrefix:List Sig:=[g_stringslite_HasPrefix]
theorem strings_HasPrefix_eq (k:Nat) (x:(List UInt8)×(List UInt8)):strings_HasPrefix k x.1 x.2=fx xt e_strings_HasPrefix g_strings_HasPrefix Tryz.f51 h_strings_HasPrefix (bodyOf Tryz.f51) k x:=by kernel_rfl
theorem strings_HasPrefix_ok (K:Nat):SigOk Tryz.prog g_strings_HasPrefix K:=sig_fun (X:=xt) (g:=g_strings_HasPrefix) (H:=h_strings_HasPrefix) (env:=e_strings_HasPrefix) (c:=bodyOf Tryz.f51) xt_ok mixed (fun k=>(AllOk.cons (stringslite_HasPrefix_ok k) AllOk.nil)) Tryz.func51 (by kernel_rfl) (by kernel_rfl) (by kernel_rfl) (UpTo.all UpTo.zero (by kernel_rfl) (by kernel_rfl)) strings_HasPrefix_eq K
def g_lexer_comment:Sig:={ fid:=52,Γ:=[.str],args:=[(.var 0)],Δ:=[(.int .i64)],res:=(.var 0),f:=fun k x=>lexer_comment k x }
def l_lexer_comment_0:LH (Int):={ Γ:=[.str,(.int .i64),(.int .i64)],live:=[(0,(.var 0)),(3,(.var 1)),(4,(.var 2))],F:=fun k x=>lexer_comment_l0 k x.1 x.2.1 x.2.2 }
def h_lexer_comment:Hints (Int):={ loops:=[(3,l_lexer_comment_0)] }
def e_lexer_comment:List Sig:=[g_strings_HasPrefix]
theorem lexer_comment_eq (k:Nat) (x:(List UInt8)):lexer_comment k x=fx xt e_lexer_comment g_lexer_comment Tryz.f52 h_lexer_comment (bodyOf Tryz.f52) k x:=by kernel_rfl
theorem lexer_comment_l0_eq (k:Nat) (x:(List UInt8)×Int×Int):lexer_comment_l0 (k+1) x.1 x.2.1 x.2.2=lrhs xt e_lexer_comment 32 0 h_lexer_comment (bodyOf Tryz.f52) (retK xt.T Tryz.f52.results g_lexer_comment) 0 l_lexer_comment_0 k x:=(lexer_comment_l0.eq_def ..).trans (by kernel_rfl)
theorem lexer_comment_ok (K:Nat):SigOk Tryz.prog g_lexer_comment K:=sig_fun (X:=xt) (g:=g_lexer_comment) (H:=h_lexer_comment) (env:=e_lexer_comment) (c:=bodyOf Tryz.f52) xt_ok mixed (fun k=>(AllOk.cons (strings_HasPrefix_ok k) AllOk.nil)) Tryz.func52 (by kernel_rfl) (by kernel_rfl) (by kernel_rfl) (UpTo.all (UpTo.zero.succ l_lexer_comment_0 (by kernel_rfl) (fun _=>rfl) lexer_comment_l0_eq) (by kernel_rfl) (by kernel_rfl)) lexer_comment_eq K
def g_lexer_first:Sig:={ fid:=81,Γ:=[.str],args:=[(.var 0)],Δ:=[(.int .i32)],res:=(.var 0),f:=fun k x=>lexer_first k x }
def l_lexer_first_0:LH (Int):={ Γ:=[.str,(.int .i64)],live:=[(6,(.it 0))],sto:=[(0,(.iter 0 1))],nk:=1,F:=fun k x=>lexer_first_l0 k x.1 x.2 }
def h_lexer_first:Hints (Int):={ loops:=[(2,l_lexer_first_0)] }
def e_lexer_first:List Sig:=[]
theorem lexer_first_eq (k:Nat) (x:(List UInt8)):lexer_first k x=fx xt e_lexer_first g_lexer_first Tryz.f81 h_lexer_first (bodyOf Tryz.f81) k x:=by kernel_rfl
theorem lexer_first_l0_eq (k:Nat) (x:(List UInt8)×Int):lexer_first_l0 (k+1) x.1 x.2=lrhs xt e_lexer_first 11 0 h_lexer_first (bodyOf Tryz.f81) (retK xt.T Tryz.f81.results g_lexer_first) 0 l_lexer_first_0 k x:=(lexer_first_l0.eq_def ..).trans (by kernel_rfl)
theorem lexer_first_ok (K:Nat):SigOk Tryz.prog g_lexer_first K:=sig_fun (X:=xt) (g:=g_lexer_first) (H:=h_lexer_first) (env:=e_lexer_first) (c:=bodyOf Tryz.f81) xt_ok mixed (fun k=>AllOk.nil) Tryz.func81 (by kernel_rfl) (by kernel_rfl) (by kernel_rfl) (UpTo.all (UpTo.zero.succ l_lexer_first_0 (by kernel_rfl) (fun _=>rfl) lexer_first_l0_eq) (by kernel_rfl) (by kernel_rfl)) lexer_first_eq K
def g_lexer_inner:Sig:={ fid:=116,Γ:=[(.int .i32)],args:=[(.var 0)],Δ:=[.bool],res:=(.var 0),f:=fun k x=>lexer_inner k x }
def h_lexer_inner:Hints (Bool):={}
def e_lexer_inner:List Sig:=[g_runes_Class]
theorem lexer_inner_eq (k:Nat) (x:Int):lexer_inner k x=fx xt e_lexer_inner g_lexer_inner Tryz.f116 h_lexer_inner (bodyOf Tryz.f116) k x:=by kernel_rfl
theorem lexer_inner_ok (K:Nat):SigOk Tryz.prog g_lexer_inner K:=sig_fun (X:=xt) (g:=g_lexer_inner) (H:=h_lexer_inner) (env:=e_lexer_inner) (c:=bodyOf Tryz.f116) xt_ok mixed (fun k=>(AllOk.cons (runes_Class_ok k) AllOk.nil)) Tryz.func116 (by kernel_rfl) (by kernel_rfl) (by kernel_rfl) (UpTo.all UpTo.zero (by kernel_rfl) (by kernel_rfl)) lexer_inner_eq K
def g_lexer_span_2:Sig:={ fid:=48,Γ:=[.str],args:=[(.var 0),(.fn 116 [] [])],Δ:=[(.int .i64)],res:=(.var 0),f:=fun k x=>lexer_span_2 k x }
def l_lexer_span_2_0:LH (Int):={ Γ:=[.str,.str,(.int .i64)],live:=[(0,(.var 0)),(1,(.fn 116 [] [])),(8,(.it 0))],sto:=[(0,(.iter 1 2))],nk:=1,F:=fun k x=>lexer_span_2_l0 k x.1 x.2.1 x.2.2 }
def h_lexer_span_2:Hints (Int):={ loops:=[(2,l_lexer_span_2_0)] }
def e_lexer_span_2:List Sig:=[g_lexer_inner]
theorem lexer_span_2_eq (k:Nat) (x:(List UInt8)):lexer_span_2 k x=fx xt e_lexer_span_2 g_lexer_span_2 Tryz.f48 h_lexer_span_2 (bodyOf Tryz.f48) k x:=by kernel_rfl
theorem lexer_span_2_l0_eq (k:Nat) (x:(List UInt8)×(List UInt8)×Int):lexer_span_2_l0 (k+1) x.1 x.2.1 x.2.2=lrhs xt e_lexer_span_2 20 0 h_lexer_span_2 (bodyOf Tryz.f48) (retK xt.T Tryz.f48.results g_lexer_span_2) 0 l_lexer_span_2_0 k x:=(lexer_span_2_l0.eq_def ..).trans (by kernel_rfl)
theorem lexer_span_2_ok (K:Nat):SigOk Tryz.prog g_lexer_span_2 K:=sig_fun (X:=xt) (g:=g_lexer_span_2) (H:=h_lexer_span_2) (env:=e_lexer_span_2) (c:=bodyOf Tryz.f48) xt_ok mixed (fun k=>(AllOk.cons (lexer_inner_ok k) AllOk.nil)) Tryz.func48 (by kernel_rfl) (by kernel_rfl) (by kernel_rfl) (UpTo.all (UpTo.zero.succ l_lexer_span_2_0 (by kernel_rfl) (fun _=>rfl) lexer_span_2_l0_eq) (by kernel_rfl) (by kernel_rfl)) lexer_span_2_eq K
def g_lexer_long:Sig:={ fid:=82,Γ:=[.str],args:=[(.var 0)],Δ:=[(.int .i64),.str,(.int .i64),(.int .i64),(.int .i64),.bool],res:=(.tup [(.agg [(.var 0),(.var 1),(.var 2),(.var 3)]),(.var 4),(.var 5)]),f:=fun k x=>lexer_long k x }
def l_lexer_long_0:LH (Int×(List UInt8)×Int×Int×Int×Bool):={ Γ:=[.str,(.int .i64),.bool],live:=[(0,(.var 0)),(2,(.ref 0 0)),(5,(.var 1)),(6,(.var 2))],sto:=[(0,(.cells 73 4 [(.int .i64 0),(.str []),(.int .i64 0),(.int .i64 0)] false))],nk:=1,F:=fun k x=>lexer_long_l0 k x.1 x.2.1 x.2.2 }
def h_lexer_long:Hints (Int×(List UInt8)×Int×Int×Int×Bool):={ loops:=[(5,l_lexer_long_0)] }
def e_lexer_long:List Sig:=[g_lexer_span_2,g_lexer_Word,g_runes_Name]
theorem lexer_long_eq (k:Nat) (x:(List UInt8)):lexer_long k x=fx xt e_lexer_long g_lexer_long Tryz.f82 h_lexer_long (bodyOf Tryz.f82) k x:=by kernel_rfl
theorem lexer_long_l0_eq (k:Nat) (x:(List UInt8)×Int×Bool):lexer_long_l0 (k+1) x.1 x.2.1 x.2.2=lrhs xt e_lexer_long 88 0 h_lexer_long (bodyOf Tryz.f82) (retK xt.T Tryz.f82.results g_lexer_long) 0 l_lexer_long_0 k x:=(lexer_long_l0.eq_def ..).trans (by kernel_rfl)
theorem lexer_long_ok (K:Nat):SigOk Tryz.prog g_lexer_long K:=sig_fun (X:=xt) (g:=g_lexer_long) (H:=h_lexer_long) (env:=e_lexer_long) (c:=bodyOf Tryz.f82) xt_ok mixed (fun k=>(AllOk.cons (lexer_span_2_ok k) (AllOk.cons (lexer_Word_ok k) (AllOk.cons (runes_Name_ok k) AllOk.nil)))) Tryz.func82 (by kernel_rfl) (by kernel_rfl) (by kernel_rfl) (UpTo.all (UpTo.zero.succ l_lexer_long_0 (by kernel_rfl) (fun _=>rfl) lexer_long_l0_eq) (by kernel_rfl) (by kernel_rfl)) lexer_long_eq K
def g_lexer_number_1:Sig:={ fid:=119,Γ:=[(.int .i32)],args:=[(.var 0)],Δ:=[.bool],res:=(.var 0),f:=fun k x=>lexer_number_1 k x }
def h_lexer_number_1:Hints (Bool):={}
def e_lexer_number_1:List Sig:=[g_runes_Class]
theorem lexer_number_1_eq (k:Nat) (x:Int):lexer_number_1 k x=fx xt e_lexer_number_1 g_lexer_number_1 Tryz.f119 h_lexer_number_1 (bodyOf Tryz.f119) k x:=by kernel_rfl
theorem lexer_number_1_ok (K:Nat):SigOk Tryz.prog g_lexer_number_1 K:=sig_fun (X:=xt) (g:=g_lexer_number_1) (H:=h_lexer_number_1) (env:=e_lexer_number_1) (c:=bodyOf Tryz.f119) xt_ok mixed (fun k=>(AllOk.cons (runes_Class_ok k) AllOk.nil)) Tryz.func119 (by kernel_rfl) (by kernel_rfl) (by kernel_rfl) (UpTo.all UpTo.zero (by kernel_rfl) (by kernel_rfl)) lexer_number_1_eq K
def g_lexer_span_3:Sig:={ fid:=48,Γ:=[.str],args:=[(.var 0),(.fn 119 [] [])],Δ:=[(.int .i64)],res:=(.var 0),f:=fun k x=>lexer_span_3 k x }
def l_lexer_span_3_0:LH (Int):={ Γ:=[.str,.str,(.int .i64)],live:=[(0,(.var 0)),(1,(.fn 119 [] [])),(8,(.it 0))],sto:=[(0,(.iter 1 2))],nk:=1,F:=fun k x=>lexer_span_3_l0 k x.1 x.2.1 x.2.2 }
def h_lexer_span_3:Hints (Int):={ loops:=[(2,l_lexer_span_3_0)] }
def e_lexer_span_3:List Sig:=[g_lexer_number_1]
theorem lexer_span_3_eq (k:Nat) (x:(List UInt8)):lexer_span_3 k x=fx xt e_lexer_span_3 g_lexer_span_3 Tryz.f48 h_lexer_span_3 (bodyOf Tryz.f48) k x:=by kernel_rfl
theorem lexer_span_3_l0_eq (k:Nat) (x:(List UInt8)×(List UInt8)×Int):lexer_span_3_l0 (k+1) x.1 x.2.1 x.2.2=lrhs xt e_lexer_span_3 20 0 h_lexer_span_3 (bodyOf Tryz.f48) (retK xt.T Tryz.f48.results g_lexer_span_3) 0 l_lexer_span_3_0 k x:=(lexer_span_3_l0.eq_def ..).trans (by kernel_rfl)
theorem lexer_span_3_ok (K:Nat):SigOk Tryz.prog g_lexer_span_3 K:=sig_fun (X:=xt) (g:=g_lexer_span_3) (H:=h_lexer_span_3) (env:=e_lexer_span_3) (c:=bodyOf Tryz.f48) xt_ok mixed (fun k=>(AllOk.cons (lexer_number_1_ok k) AllOk.nil)) Tryz.func48 (by kernel_rfl) (by kernel_rfl) (by kernel_rfl) (UpTo.all (UpTo.zero.succ l_lexer_span_3_0 (by kernel_rfl) (fun _=>rfl) lexer_span_3_l0_eq) (by kernel_rfl) (by kernel_rfl)) lexer_span_3_eq K
def g_lexer_number:Sig:={ fid:=83,Γ:=[.str],args:=[(.var 0)],Δ:=[(.int .i64),.str,(.int .i64),(.int .i64),(.int .i64),.bool],res:=(.tup [(.agg [(.var 0),(.var 1),(.var 2),(.var 3)]),(.var 4),(.var 5)]),f:=fun k x=>lexer_number k x }
def c_lexer_number_0:LH (Int×(List UInt8)×Int×Int×Int×Bool):={ Γ:=[.str,(.int .i64)],live:=[(0,(.var 0)),(2,(.ref 0 0)),(5,(.var 1))],sto:=[(0,(.cells 73 4 [(.int .i64 0),(.str []),(.int .i64 0),(.int .i64 0)] false))],nk:=1,F:=fun k x=>lexer_number_c0 k x.1 x.2 }
def l_lexer_number_0:LH (Int×(List UInt8)×Int×Int×Int×Bool):={ Γ:=[(.int .i64),(.int .i64),(.int .i64),.str,(.int .i64)],live:=[(2,(.ref 0 0)),(5,(.var 0)),(6,(.var 1)),(7,(.var 2)),(34,(.it 1))],sto:=[(0,(.cells 73 4 [(.int .i64 0),(.str []),(.int .i64 0),(.int .i64 0)] false)),(1,(.iter 3 4))],nk:=2,F:=fun k x=>lexer_number_l0 k x.1 x.2.1 x.2.2.1 x.2.2.2.1 x.2.2.2.2 }
def h_lexer_number:Hints (Int×(List UInt8)×Int×Int×Int×Bool):={ loops:=[(9,l_lexer_number_0)],cuts:=[(4,c_lexer_number_0)] }
def e_lexer_number:List Sig:=[g_lexer_span_3,g_lexer_span_2,g_lexer_Number]
theorem lexer_number_eq (k:Nat) (x:(List UInt8)):lexer_number k x=fx xt e_lexer_number g_lexer_number Tryz.f83 h_lexer_number (bodyOf Tryz.f83) k x:=by kernel_rfl
theorem lexer_number_c0_eq (k:Nat) (x:(List UInt8)×Int):lexer_number_c0 (k+1) x.1 x.2=lrhs xt e_lexer_number 56 0 h_lexer_number (bodyOf Tryz.f83) (retK xt.T Tryz.f83.results g_lexer_number) 0 c_lexer_number_0 k x:=(lexer_number_c0.eq_def ..).trans (by kernel_rfl)
theorem lexer_number_l0_eq (k:Nat) (x:Int×Int×Int×(List UInt8)×Int):lexer_number_l0 (k+1) x.1 x.2.1 x.2.2.1 x.2.2.2.1 x.2.2.2.2=lrhs xt e_lexer_number 56 0 h_lexer_number (bodyOf Tryz.f83) (retK xt.T Tryz.f83.results g_lexer_number) 1 l_lexer_number_0 k x:=(lexer_number_l0.eq_def ..).trans (by kernel_rfl)
theorem lexer_number_ok (K:Nat):SigOk Tryz.prog g_lexer_number K:=sig_fun (X:=xt) (g:=g_lexer_number) (H:=h_lexer_number) (env:=e_lexer_number) (c:=bodyOf Tryz.f83) xt_ok mixed (fun k=>(AllOk.cons (lexer_span_3_ok k) (AllOk.cons (lexer_span_2_ok k) (AllOk.cons (lexer_Number_ok k) AllOk.nil)))) Tryz.func83 (by kernel_rfl) (by kernel_rfl) (by kernel_rfl) (UpTo.all ((UpTo.zero.succ c_lexer_number_0 (by kernel_rfl) (fun _=>rfl) lexer_number_c0_eq).succ l_lexer_number_0 (by kernel_rfl) (fun _=>rfl) lexer_number_l0_eq) (by kernel_rfl) (by kernel_rfl)) lexer_number_eq K
def g_lexer_signs:Sig:={ fid:=84,Γ:=[],args:=[],Δ:=[(.list false .str)],res:=(.var 0),f:=fun k _=>lexer_signs k }
def h_lexer_signs:Hints ((List (List UInt8))):={}
def e_lexer_signs:List Sig:=[]
theorem lexer_signs_eq (k:Nat) (x:Unit):lexer_signs k=fx xt e_lexer_signs g_lexer_signs Tryz.f84 h_lexer_signs (bodyOf Tryz.f84) k x:=by kernel_rfl
theorem lexer_signs_ok (K:Nat):SigOk Tryz.prog g_lexer_signs K:=sig_fun (X:=xt) (g:=g_lexer_signs) (H:=h_lexer_signs) (env:=e_lexer_signs) (c:=bodyOf Tryz.f84) xt_ok mixed (fun k=>AllOk.nil) Tryz.func84 (by kernel_rfl) (by kernel_rfl) (by kernel_rfl) (UpTo.all UpTo.zero (by kernel_rfl) (by kernel_rfl)) lexer_signs_eq K
def g_lexer_token:Sig:={ fid:=53,Γ:=[.str],args:=[(.var 0)],Δ:=[(.int .i64),.str,(.int .i64),(.int .i64),(.int .i64),.bool],res:=(.tup [(.agg [(.var 0),(.var 1),(.var 2),(.var 3)]),(.var 4),(.var 5)]),f:=fun k x=>lexer_token k x }
def l_lexer_token_0:LH (Int×(List UInt8)×Int×Int×Int×Bool):={ Γ:=[.str,(.list false .str),(.int .i64)],live:=[(0,(.var 0)),(2,(.ref 0 0)),(32,(.var 1)),(33,(.len 1)),(34,(.var 2))],sto:=[(0,(.cells 73 4 [(.int .i64 0),(.str []),(.int .i64 0),(.int .i64 0)] false))],nk:=1,F:=fun k x=>lexer_token_l0 k x.1 x.2.1 x.2.2 }
def h_lexer_token:Hints (Int×(List UInt8)×Int×Int×Int×Bool):={ loops:=[(7,l_lexer_token_0)] }
def e_lexer_token:List Sig:=[g_lexer_first,g_runes_Class,g_lexer_long,g_lexer_number,g_lexer_signs,g_strings_HasPrefix]
theorem lexer_token_eq (k:Nat) (x:(List UInt8)):lexer_token k x=fx xt e_lexer_token g_lexer_token Tryz.f53 h_lexer_token (bodyOf Tryz.f53) k x:=by kernel_rfl
theorem lexer_token_l0_eq (k:Nat) (x:(List UInt8)×(List (List UInt8))×Int):lexer_token_l0 (k+1) x.1 x.2.1 x.2.2=lrhs xt e_lexer_token 47 0 h_lexer_token (bodyOf Tryz.f53) (retK xt.T Tryz.f53.results g_lexer_token) 0 l_lexer_token_0 k x:=(lexer_token_l0.eq_def ..).trans (by kernel_rfl)
theorem lexer_token_ok (K:Nat):SigOk Tryz.prog g_lexer_token K:=sig_fun (X:=xt) (g:=g_lexer_token) (H:=h_lexer_token) (env:=e_lexer_token) (c:=bodyOf Tryz.f53) xt_ok mixed (fun k=>(AllOk.cons (lexer_first_ok k) (AllOk.cons (runes_Class_ok k) (AllOk.cons (lexer_long_ok k) (AllOk.cons (lexer_number_ok k) (AllOk.cons (lexer_signs_ok k) (AllOk.cons (strings_HasPrefix_ok k) AllOk.nil))))))) Tryz.func53 (by kernel_rfl) (by kernel_rfl) (by kernel_rfl) (UpTo.all (UpTo.zero.succ l_lexer_token_0 (by kernel_rfl) (fun _=>rfl) lexer_token_l0_eq) (by kernel_rfl) (by kernel_rfl)) lexer_token_eq K
def g_lexer_Lex:Sig:={ fid:=22,Γ:=[.str],args:=[(.var 0)],Δ:=[TkY,(.int .i64),(.int .i64)],res:=(.tup [(.var 0),(.var 1),(.var 2)]),f:=fun k x=>lexer_Lex k x }
def l_lexer_Lex_0:LH (TkL×Int×Int):={ Γ:=[.str,TkY,(.int .i64)],live:=[(0,(.var 0)),(2,(.row 0 1)),(3,(.var 2))],sto:=[(0,(.list 73 1 none))],nk:=1,ad:=[.t 2 73 (.pair (.int .i64) (.pair .str (.pair (.int .i64) (.int .i64))))],F:=fun k x=>lexer_Lex_l0 k x.1 x.2.1 x.2.2 }
def c_lexer_Lex_0:LH (TkL×Int×Int):={ Γ:=[.str,TkY,(.int .i64),(.int .i64),(.int .i64),.str,(.int .i64),(.int .i64)],live:=[(0,(.var 0)),(2,(.row 1 1)),(3,(.var 2)),(8,(.var 3)),(9,(.ref 0 0))],sto:=[(0,(.cells 73 4 [(.var 4),(.var 5),(.var 6),(.var 7)] false)),(1,(.list 73 1 none))],nk:=2,ad:=[.t 2 73 (.pair (.int .i64) (.pair .str (.pair (.int .i64) (.int .i64))))],F:=fun k x=>lexer_Lex_c0 k x.1 x.2.1 x.2.2.1 x.2.2.2.1 x.2.2.2.2.1 x.2.2.2.2.2.1 x.2.2.2.2.2.2.1 x.2.2.2.2.2.2.2 }
def h_lexer_Lex:Hints (TkL×Int×Int):={ loops:=[(4,l_lexer_Lex_0)],cuts:=[(17,c_lexer_Lex_0)] }
def e_lexer_Lex:List Sig:=[g_runes_Check,g_lexer_span,g_strings_HasPrefix,g_lexer_comment,g_lexer_token]
theorem lexer_Lex_eq (k:Nat) (x:(List UInt8)):lexer_Lex k x=fx xt e_lexer_Lex g_lexer_Lex Tryz.f22 h_lexer_Lex (bodyOf Tryz.f22) k x:=by kernel_rfl
theorem lexer_Lex_l0_eq (k:Nat) (x:(List UInt8)×TkL×Int):lexer_Lex_l0 (k+1) x.1 x.2.1 x.2.2=lrhs xt e_lexer_Lex 65 0 h_lexer_Lex (bodyOf Tryz.f22) (retK xt.T Tryz.f22.results g_lexer_Lex) 0 l_lexer_Lex_0 k x:=(lexer_Lex_l0.eq_def ..).trans (by kernel_rfl)
theorem lexer_Lex_c0_eq (k:Nat) (x:(List UInt8)×TkL×Int×Int×Int×(List UInt8)×Int×Int):lexer_Lex_c0 (k+1) x.1 x.2.1 x.2.2.1 x.2.2.2.1 x.2.2.2.2.1 x.2.2.2.2.2.1 x.2.2.2.2.2.2.1 x.2.2.2.2.2.2.2=lrhs xt e_lexer_Lex 65 0 h_lexer_Lex (bodyOf Tryz.f22) (retK xt.T Tryz.f22.results g_lexer_Lex) 1 c_lexer_Lex_0 k x:=(lexer_Lex_c0.eq_def ..).trans (by kernel_rfl)
theorem lexer_Lex_ok (K:Nat):SigOk Tryz.prog g_lexer_Lex K:=sig_fun (X:=xt) (g:=g_lexer_Lex) (H:=h_lexer_Lex) (env:=e_lexer_Lex) (c:=bodyOf Tryz.f22) xt_ok mixed (fun k=>(AllOk.cons (runes_Check_ok k) (AllOk.cons (lexer_span_ok k) (AllOk.cons (strings_HasPrefix_ok k) (AllOk.cons (lexer_comment_ok k) (AllOk.cons (lexer_token_ok k) AllOk.nil)))))) Tryz.func22 (by kernel_rfl) (by kernel_rfl) (by kernel_rfl) (UpTo.all ((UpTo.zero.succ l_lexer_Lex_0 (by kernel_rfl) (fun _=>rfl) lexer_Lex_l0_eq).succ c_lexer_Lex_0 (by kernel_rfl) (fun _=>rfl) lexer_Lex_c0_eq) (by kernel_rfl) (by kernel_rfl)) lexer_Lex_eq K
def g_pmod_begin:Sig:={ fid:=54,Γ:=[TkY,(.int .i64)],args:=[(.var 0),(.var 1)],Δ:=[TkY,(.int .i64),(.int .i64)],res:=(.ref 0 0),sto':=[(0,(.cells 104 3 [(.var 0),(.var 1),(.var 2)] false))],nk':=1,f:=fun k x=>pmod_begin k x.1 x.2 }
def h_pmod_begin:Hints (TkL×Int×Int):={}
def e_pmod_begin:List Sig:=[]
theorem pmod_begin_eq (k:Nat) (x:TkL×Int):pmod_begin k x.1 x.2=fx xt e_pmod_begin g_pmod_begin Tryz.f54 h_pmod_begin (bodyOf Tryz.f54) k x:=by kernel_rfl
theorem pmod_begin_ok (K:Nat):SigOk Tryz.prog g_pmod_begin K:=sig_fun (X:=xt) (g:=g_pmod_begin) (H:=h_pmod_begin) (env:=e_pmod_begin) (c:=bodyOf Tryz.f54) xt_ok mixed (fun k=>AllOk.nil) Tryz.func54 (by kernel_rfl) (by kernel_rfl) (by kernel_rfl) (UpTo.all UpTo.zero (by kernel_rfl) (by kernel_rfl)) pmod_begin_eq K
def g_ptype_in:Sig:={ fid:=151,Γ:=[TkY,(.int .i64)],args:=[(.var 0),(.var 1)],Δ:=[.bool],res:=(.var 0),f:=fun k x=>ptype_in k x.1 x.2 }
def h_ptype_in:Hints (Bool):={}
def e_ptype_in:List Sig:=[]
theorem ptype_in_eq (k:Nat) (x:TkL×Int):ptype_in k x.1 x.2=fx xt e_ptype_in g_ptype_in Tryz.f151 h_ptype_in (bodyOf Tryz.f151) k x:=by kernel_rfl
theorem ptype_in_ok (K:Nat):SigOk Tryz.prog g_ptype_in K:=sig_fun (X:=xt) (g:=g_ptype_in) (H:=h_ptype_in) (env:=e_ptype_in) (c:=bodyOf Tryz.f151) xt_ok mixed (fun k=>AllOk.nil) Tryz.func151 (by kernel_rfl) (by kernel_rfl) (by kernel_rfl) (UpTo.all UpTo.zero (by kernel_rfl) (by kernel_rfl)) ptype_in_eq K
def g_ptype_Key:Sig:={ fid:=122,Γ:=[TkY,(.int .i64),.str],args:=[(.var 0),(.var 1),(.var 2)],Δ:=[.bool],res:=(.var 0),f:=fun k x=>ptype_Key k x.1 x.2.1 x.2.2 }
def h_ptype_Key:Hints (Bool):={}
def e_ptype_Key:List Sig:=[g_ptype_in]
theorem ptype_Key_eq (k:Nat) (x:TkL×Int×(List UInt8)):ptype_Key k x.1 x.2.1 x.2.2=fx xt e_ptype_Key g_ptype_Key Tryz.f122 h_ptype_Key (bodyOf Tryz.f122) k x:=by kernel_rfl
theorem ptype_Key_ok (K:Nat):SigOk Tryz.prog g_ptype_Key K:=sig_fun (X:=xt) (g:=g_ptype_Key) (H:=h_ptype_Key) (env:=e_ptype_Key) (c:=bodyOf Tryz.f122) xt_ok mixed (fun k=>(AllOk.cons (ptype_in_ok k) AllOk.nil)) Tryz.func122 (by kernel_rfl) (by kernel_rfl) (by kernel_rfl) (UpTo.all UpTo.zero (by kernel_rfl) (by kernel_rfl)) ptype_Key_eq K
def g_pmod_parser_key:Sig:={ fid:=86,Γ:=[TkY,(.int .i64),(.int .i64),.str],args:=[(.ref 0 0),(.var 3)],sto:=[(0,(.cells 104 3 [(.var 0),(.var 1),(.var 2)] false))],nk:=1,Δ:=[.bool,TkY,(.int .i64),(.int .i64)],res:=(.var 0),sto':=[(0,(.cells 104 3 [(.var 1),(.var 2),(.var 3)] false))],nk':=1,f:=fun k x=>pmod_parser_key k x.1 x.2.1 x.2.2.1 x.2.2.2 }
def h_pmod_parser_key:Hints (Bool×TkL×Int×Int):={ ord:=[(1,[.l 0,.l 1,.l 2,.l 3,.l 4,.l 5,.l 6,.l 7,.l 8,.l 9,.l 10,.l 11,.l 12,.l 13,.l 14,.h 15,.l 16,.l 17])] }
def e_pmod_parser_key:List Sig:=[g_ptype_Key]
theorem pmod_parser_key_eq (k:Nat) (x:TkL×Int×Int×(List UInt8)):pmod_parser_key k x.1 x.2.1 x.2.2.1 x.2.2.2=fx xt e_pmod_parser_key g_pmod_parser_key Tryz.f86 h_pmod_parser_key (bodyOf Tryz.f86) k x:=by kernel_rfl
theorem pmod_parser_key_ok (K:Nat):SigOk Tryz.prog g_pmod_parser_key K:=sig_fun (X:=xt) (g:=g_pmod_parser_key) (H:=h_pmod_parser_key) (env:=e_pmod_parser_key) (c:=bodyOf Tryz.f86) xt_ok mixed (fun k=>(AllOk.cons (ptype_Key_ok k) AllOk.nil)) Tryz.func86 (by kernel_rfl) (by kernel_rfl) (by kernel_rfl) (UpTo.all UpTo.zero (by kernel_rfl) (by kernel_rfl)) pmod_parser_key_eq K
def g_ptype_Name:Sig:={ fid:=121,Γ:=[TkY,(.int .i64)],args:=[(.var 0),(.var 1)],Δ:=[.str,.bool],res:=(.tup [(.var 0),(.var 1)]),f:=fun k x=>ptype_Name k x.1 x.2 }
def h_ptype_Name:Hints ((List UInt8)×Bool):={}
def e_ptype_Name:List Sig:=[g_ptype_in,g_names_Check]
theorem ptype_Name_eq (k:Nat) (x:TkL×Int):ptype_Name k x.1 x.2=fx xt e_ptype_Name g_ptype_Name Tryz.f121 h_ptype_Name (bodyOf Tryz.f121) k x:=by kernel_rfl
theorem ptype_Name_ok (K:Nat):SigOk Tryz.prog g_ptype_Name K:=sig_fun (X:=xt) (g:=g_ptype_Name) (H:=h_ptype_Name) (env:=e_ptype_Name) (c:=bodyOf Tryz.f121) xt_ok mixed (fun k=>(AllOk.cons (ptype_in_ok k) (AllOk.cons (names_Check_ok k) AllOk.nil))) Tryz.func121 (by kernel_rfl) (by kernel_rfl) (by kernel_rfl) (UpTo.all UpTo.zero (by kernel_rfl) (by kernel_rfl)) ptype_Name_eq K
def g_pmod_parser_fail:Sig:={ fid:=125,Γ:=[TkY,(.int .i64),(.int .i64),(.int .i64)],args:=[(.ref 0 0),(.var 3)],sto:=[(0,(.cells 104 3 [(.var 0),(.var 1),(.var 2)] false))],nk:=1,Δ:=[TkY,(.int .i64),(.int .i64)],res:=(.tup []),sto':=[(0,(.cells 104 3 [(.var 0),(.var 1),(.var 2)] false))],nk':=1,f:=fun k x=>pmod_parser_fail k x.1 x.2.1 x.2.2.1 x.2.2.2 }
def h_pmod_parser_fail:Hints (TkL×Int×Int):={}
def e_pmod_parser_fail:List Sig:=[]
theorem pmod_parser_fail_eq (k:Nat) (x:TkL×Int×Int×Int):pmod_parser_fail k x.1 x.2.1 x.2.2.1 x.2.2.2=fx xt e_pmod_parser_fail g_pmod_parser_fail Tryz.f125 h_pmod_parser_fail (bodyOf Tryz.f125) k x:=by kernel_rfl
theorem pmod_parser_fail_ok (K:Nat):SigOk Tryz.prog g_pmod_parser_fail K:=sig_fun (X:=xt) (g:=g_pmod_parser_fail) (H:=h_pmod_parser_fail) (env:=e_pmod_parser_fail) (c:=bodyOf Tryz.f125) xt_ok mixed (fun k=>AllOk.nil) Tryz.func125 (by kernel_rfl) (by kernel_rfl) (by kernel_rfl) (UpTo.all UpTo.zero (by kernel_rfl) (by kernel_rfl)) pmod_parser_fail_eq K
def g_pmod_parser_word_Name:Sig:={ fid:=126,Γ:=[TkY,(.int .i64),(.int .i64)],args:=[(.ref 0 0),(.fn 121 [] [])],sto:=[(0,(.cells 104 3 [(.var 0),(.var 1),(.var 2)] false))],nk:=1,Δ:=[.str,TkY,(.int .i64),(.int .i64)],res:=(.var 0),sto':=[(0,(.cells 104 3 [(.var 1),(.var 2),(.var 3)] false))],nk':=1,f:=fun k x=>pmod_parser_word_Name k x.1 x.2.1 x.2.2 }
def h_pmod_parser_word_Name:Hints ((List UInt8)×TkL×Int×Int):={ ord:=[(1,[.l 0,.l 1,.l 2,.l 3,.l 4,.l 5,.l 6,.l 7,.l 8,.h 9,.l 10,.l 11,.l 12,.l 13,.l 14])] }
def e_pmod_parser_word_Name:List Sig:=[g_ptype_Name,g_pmod_parser_fail]
theorem pmod_parser_word_Name_eq (k:Nat) (x:TkL×Int×Int):pmod_parser_word_Name k x.1 x.2.1 x.2.2=fx xt e_pmod_parser_word_Name g_pmod_parser_word_Name Tryz.f126 h_pmod_parser_word_Name (bodyOf Tryz.f126) k x:=by kernel_rfl
theorem pmod_parser_word_Name_ok (K:Nat):SigOk Tryz.prog g_pmod_parser_word_Name K:=sig_fun (X:=xt) (g:=g_pmod_parser_word_Name) (H:=h_pmod_parser_word_Name) (env:=e_pmod_parser_word_Name) (c:=bodyOf Tryz.f126) xt_ok mixed (fun k=>(AllOk.cons (ptype_Name_ok k) (AllOk.cons (pmod_parser_fail_ok k) AllOk.nil))) Tryz.func126 (by kernel_rfl) (by kernel_rfl) (by kernel_rfl) (UpTo.all UpTo.zero (by kernel_rfl) (by kernel_rfl)) pmod_parser_word_Name_eq K
def g_pmod_parser_name:Sig:={ fid:=123,Γ:=[TkY,(.int .i64),(.int .i64)],args:=[(.ref 0 0)],sto:=[(0,(.cells 104 3 [(.var 0),(.var 1),(.var 2)] false))],nk:=1,Δ:=[.str,TkY,(.int .i64),(.int .i64)],res:=(.var 0),sto':=[(0,(.cells 104 3 [(.var 1),(.var 2),(.var 3)] false))],nk':=1,f:=fun k x=>pmod_parser_name k x.1 x.2.1 x.2.2 }
def h_pmod_parser_name:Hints ((List UInt8)×TkL×Int×Int):={}
def e_pmod_parser_name:List Sig:=[g_pmod_parser_word_Name]
theorem pmod_parser_name_eq (k:Nat) (x:TkL×Int×Int):pmod_parser_name k x.1 x.2.1 x.2.2=fx xt e_pmod_parser_name g_pmod_parser_name Tryz.f123 h_pmod_parser_name (bodyOf Tryz.f123) k x:=by kernel_rfl
theorem pmod_parser_name_ok (K:Nat):SigOk Tryz.prog g_pmod_parser_name K:=sig_fun (X:=xt) (g:=g_pmod_parser_name) (H:=h_pmod_parser_name) (env:=e_pmod_parser_name) (c:=bodyOf Tryz.f123) xt_ok mixed (fun k=>(AllOk.cons (pmod_parser_word_Name_ok k) AllOk.nil)) Tryz.func123 (by kernel_rfl) (by kernel_rfl) (by kernel_rfl) (UpTo.all UpTo.zero (by kernel_rfl) (by kernel_rfl)) pmod_parser_name_eq K
def g_pmod_node_o:Sig:={ fid:=42,Γ:=[(.int .i64),.str],args:=[(.var 0),(.var 1),.nils],Δ:=[(.int .i64),(.int .i64),.str,.str],res:=(.ref 0 0),sto':=[(0,(.cells 60 5 [(.var 0),(.var 1),(.var 2),(.var 3),.nils] false))],nk':=1,f:=fun k x=>pmod_node_o k x.1 x.2 }
def h_pmod_node_o:Hints (Int×Int×(List UInt8)×(List UInt8)):={}
def e_pmod_node_o:List Sig:=[]
def x_pmod_node_o:XT:={ xt with objs:=[60]++xt.objs }
theorem pmod_node_o_eq (k:Nat) (x:Int×(List UInt8)):pmod_node_o k x.1 x.2=fx x_pmod_node_o e_pmod_node_o g_pmod_node_o Tryz.f42 h_pmod_node_o (bodyOf Tryz.f42) k x:=by kernel_rfl
theorem pmod_node_o_ok (K:Nat):SigOk Tryz.prog g_pmod_node_o K:=sig_fun (X:=x_pmod_node_o) (g:=g_pmod_node_o) (H:=h_pmod_node_o) (env:=e_pmod_node_o) (c:=bodyOf Tryz.f42) (show XOk Tryz.prog x_pmod_node_o from ⟨tt_ok,xt_ok.tab⟩) mixed (fun k=>AllOk.nil) Tryz.func42 (by kernel_rfl) (by kernel_rfl) (by kernel_rfl) (UpTo.all UpTo.zero (by kernel_rfl) (by kernel_rfl)) pmod_node_o_eq K
def g_ptype_begin:Sig:={ fid:=152,Γ:=[TkY,(.int .i64)],args:=[(.var 0),(.var 1)],Δ:=[TkY,(.int .i64),(.int .i64)],res:=(.ref 0 0),sto':=[(0,(.cells 149 3 [(.var 0),(.var 1),(.var 2)] false))],nk':=1,f:=fun k x=>ptype_begin k x.1 x.2 }
def h_ptype_begin:Hints (TkL×Int×Int):={}
def e_ptype_begin:List Sig:=[]
theorem ptype_begin_eq (k:Nat) (x:TkL×Int):ptype_begin k x.1 x.2=fx xt e_ptype_begin g_ptype_begin Tryz.f152 h_ptype_begin (bodyOf Tryz.f152) k x:=by kernel_rfl
theorem ptype_begin_ok (K:Nat):SigOk Tryz.prog g_ptype_begin K:=sig_fun (X:=xt) (g:=g_ptype_begin) (H:=h_ptype_begin) (env:=e_ptype_begin) (c:=bodyOf Tryz.f152) xt_ok mixed (fun k=>AllOk.nil) Tryz.func152 (by kernel_rfl) (by kernel_rfl) (by kernel_rfl) (UpTo.all UpTo.zero (by kernel_rfl) (by kernel_rfl)) ptype_begin_eq K
def g_ptype_Long:Sig:={ fid:=127,Γ:=[TkY,(.int .i64)],args:=[(.var 0),(.var 1)],Δ:=[.str,.bool],res:=(.tup [(.var 0),(.var 1)]),f:=fun k x=>ptype_Long k x.1 x.2 }
def h_ptype_Long:Hints ((List UInt8)×Bool):={}
def e_ptype_Long:List Sig:=[g_ptype_in,g_names_Long]
theorem ptype_Long_eq (k:Nat) (x:TkL×Int):ptype_Long k x.1 x.2=fx xt e_ptype_Long g_ptype_Long Tryz.f127 h_ptype_Long (bodyOf Tryz.f127) k x:=by kernel_rfl
theorem ptype_Long_ok (K:Nat):SigOk Tryz.prog g_ptype_Long K:=sig_fun (X:=xt) (g:=g_ptype_Long) (H:=h_ptype_Long) (env:=e_ptype_Long) (c:=bodyOf Tryz.f127) xt_ok mixed (fun k=>(AllOk.cons (ptype_in_ok k) (AllOk.cons (names_Long_ok k) AllOk.nil))) Tryz.func127 (by kernel_rfl) (by kernel_rfl) (by kernel_rfl) (UpTo.all UpTo.zero (by kernel_rfl) (by kernel_rfl)) ptype_Long_eq K
def g_ptype_node:Sig:={ fid:=188,Γ:=[(.int .i64),.str,(.list false .tree)],args:=[(.var 0),(.var 1),(.var 2)],Δ:=[.tree],res:=(.var 0),f:=fun k x=>ptype_node k x.1 x.2.1 x.2.2 }
def h_ptype_node:Hints (Tr):={}
def e_ptype_node:List Sig:=[]
theorem ptype_node_eq (k:Nat) (x:Int×(List UInt8)×(List Tr)):ptype_node k x.1 x.2.1 x.2.2=fx xt e_ptype_node g_ptype_node Tryz.f188 h_ptype_node (bodyOf Tryz.f188) k x:=by kernel_rfl
theorem ptype_node_ok (K:Nat):SigOk Tryz.prog g_ptype_node K:=sig_fun (X:=xt) (g:=g_ptype_node) (H:=h_ptype_node) (env:=e_ptype_node) (c:=bodyOf Tryz.f188) xt_ok mixed (fun k=>AllOk.nil) Tryz.func188 (by kernel_rfl) (by kernel_rfl) (by kernel_rfl) (UpTo.all UpTo.zero (by kernel_rfl) (by kernel_rfl)) ptype_node_eq K
def g_ptype_parser_key:Sig:={ fid:=187,Γ:=[TkY,(.int .i64),(.int .i64),.str],args:=[(.ref 0 0),(.var 3)],sto:=[(0,(.cells 149 3 [(.var 0),(.var 1),(.var 2)] false))],nk:=1,Δ:=[.bool,TkY,(.int .i64),(.int .i64)],res:=(.var 0),sto':=[(0,(.cells 149 3 [(.var 1),(.var 2),(.var 3)] false))],nk':=1,f:=fun k x=>ptype_parser_key k x.1 x.2.1 x.2.2.1 x.2.2.2 }
def h_ptype_parser_key:Hints (Bool×TkL×Int×Int):={ ord:=[(1,[.l 0,.l 1,.l 2,.l 3,.l 4,.l 5,.l 6,.l 7,.l 8,.l 9,.l 10,.l 11,.l 12,.l 13,.l 14,.h 15,.l 16,.l 17])] }
def e_ptype_parser_key:List Sig:=[g_ptype_Key]
theorem ptype_parser_key_eq (k:Nat) (x:TkL×Int×Int×(List UInt8)):ptype_parser_key k x.1 x.2.1 x.2.2.1 x.2.2.2=fx xt e_ptype_parser_key g_ptype_parser_key Tryz.f187 h_ptype_parser_key (bodyOf Tryz.f187) k x:=by kernel_rfl
theorem ptype_parser_key_ok (K:Nat):SigOk Tryz.prog g_ptype_parser_key K:=sig_fun (X:=xt) (g:=g_ptype_parser_key) (H:=h_ptype_parser_key) (env:=e_ptype_parser_key) (c:=bodyOf Tryz.f187) xt_ok mixed (fun k=>(AllOk.cons (ptype_Key_ok k) AllOk.nil)) Tryz.func187 (by kernel_rfl) (by kernel_rfl) (by kernel_rfl) (UpTo.all UpTo.zero (by kernel_rfl) (by kernel_rfl)) ptype_parser_key_eq K
def g_ptype_parser_fail:Sig:={ fid:=203,Γ:=[TkY,(.int .i64),(.int .i64),(.int .i64)],args:=[(.ref 0 0),(.var 3)],sto:=[(0,(.cells 149 3 [(.var 0),(.var 1),(.var 2)] false))],nk:=1,Δ:=[TkY,(.int .i64),(.int .i64)],res:=(.tup []),sto':=[(0,(.cells 149 3 [(.var 0),(.var 1),(.var 2)] false))],nk':=1,f:=fun k x=>ptype_parser_fail k x.1 x.2.1 x.2.2.1 x.2.2.2 }
def h_ptype_parser_fail:Hints (TkL×Int×Int):={}
def e_ptype_parser_fail:List Sig:=[]
theorem ptype_parser_fail_eq (k:Nat) (x:TkL×Int×Int×Int):ptype_parser_fail k x.1 x.2.1 x.2.2.1 x.2.2.2=fx xt e_ptype_parser_fail g_ptype_parser_fail Tryz.f203 h_ptype_parser_fail (bodyOf Tryz.f203) k x:=by kernel_rfl
theorem ptype_parser_fail_ok (K:Nat):SigOk Tryz.prog g_ptype_parser_fail K:=sig_fun (X:=xt) (g:=g_ptype_parser_fail) (H:=h_ptype_parser_fail) (env:=e_ptype_parser_fail) (c:=bodyOf Tryz.f203) xt_ok mixed (fun k=>AllOk.nil) Tryz.func203 (by kernel_rfl) (by kernel_rfl) (by kernel_rfl) (UpTo.all UpTo.zero (by kernel_rfl) (by kernel_rfl)) ptype_parser_fail_eq K
def g_ptype_parser_must:Sig:={ fid:=204,Γ:=[TkY,(.int .i64),(.int .i64),.str],args:=[(.ref 0 0),(.var 3)],sto:=[(0,(.cells 149 3 [(.var 0),(.var 1),(.var 2)] false))],nk:=1,Δ:=[TkY,(.int .i64),(.int .i64)],res:=(.tup []),sto':=[(0,(.cells 149 3 [(.var 0),(.var 1),(.var 2)] false))],nk':=1,f:=fun k x=>ptype_parser_must k x.1 x.2.1 x.2.2.1 x.2.2.2 }
def h_ptype_parser_must:Hints (TkL×Int×Int):={}
def e_ptype_parser_must:List Sig:=[g_ptype_parser_key,g_ptype_parser_fail]
theorem ptype_parser_must_eq (k:Nat) (x:TkL×Int×Int×(List UInt8)):ptype_parser_must k x.1 x.2.1 x.2.2.1 x.2.2.2=fx xt e_ptype_parser_must g_ptype_parser_must Tryz.f204 h_ptype_parser_must (bodyOf Tryz.f204) k x:=by kernel_rfl
theorem ptype_parser_must_ok (K:Nat):SigOk Tryz.prog g_ptype_parser_must K:=sig_fun (X:=xt) (g:=g_ptype_parser_must) (H:=h_ptype_parser_must) (env:=e_ptype_parser_must) (c:=bodyOf Tryz.f204) xt_ok mixed (fun k=>(AllOk.cons (ptype_parser_key_ok k) (AllOk.cons (ptype_parser_fail_ok k) AllOk.nil))) Tryz.func204 (by kernel_rfl) (by kernel_rfl) (by kernel_rfl) (UpTo.all UpTo.zero (by kernel_rfl) (by kernel_rfl)) ptype_parser_must_eq K
def g_ptype_parser_name:Sig:={ fid:=202,Γ:=[TkY,(.int .i64),(.int .i64)],args:=[(.ref 0 0)],sto:=[(0,(.cells 149 3 [(.var 0),(.var 1),(.var 2)] false))],nk:=1,Δ:=[.str,TkY,(.int .i64),(.int .i64)],res:=(.var 0),sto':=[(0,(.cells 149 3 [(.var 1),(.var 2),(.var 3)] false))],nk':=1,f:=fun k x=>ptype_parser_name k x.1 x.2.1 x.2.2 }
def h_ptype_parser_name:Hints ((List UInt8)×TkL×Int×Int):={ ord:=[(1,[.l 0,.l 1,.l 2,.l 3,.l 4,.l 5,.l 6,.l 7,.h 8,.l 9,.l 10,.l 11,.l 12,.l 13])] }
def e_ptype_parser_name:List Sig:=[g_ptype_Name,g_ptype_parser_fail]
theorem ptype_parser_name_eq (k:Nat) (x:TkL×Int×Int):ptype_parser_name k x.1 x.2.1 x.2.2=fx xt e_ptype_parser_name g_ptype_parser_name Tryz.f202 h_ptype_parser_name (bodyOf Tryz.f202) k x:=by kernel_rfl
theorem ptype_parser_name_ok (K:Nat):SigOk Tryz.prog g_ptype_parser_name K:=sig_fun (X:=xt) (g:=g_ptype_parser_name) (H:=h_ptype_parser_name) (env:=e_ptype_parser_name) (c:=bodyOf Tryz.f202) xt_ok mixed (fun k=>(AllOk.cons (ptype_Name_ok k) (AllOk.cons (ptype_parser_fail_ok k) AllOk.nil))) Tryz.func202 (by kernel_rfl) (by kernel_rfl) (by kernel_rfl) (UpTo.all UpTo.zero (by kernel_rfl) (by kernel_rfl)) ptype_parser_name_eq K
end Go.Proofs.YtjhfgiieicloeaaGreatDoor

